/- Clauses in memory; ContainsFunc. -/
import Derived.Test.YtflfachkoffiiaaRefWord
namespace Go.Proofs.Ytflfachkoffiiaa
open Go.RowKit

structure ClV where
  name : Bs
  A1 : Option Addr
  n1 : Nat
  c1 : Nat
  must : List Bs
  A2 : Option Addr
  n2 : Nat
  c2 : Nat
  nots : List Bs
def clCells (c : ClV) : List Value := [str c.name, .slice c.A1 c.n1 c.c1, .slice c.A2 c.n2 c.c2]
def clsCells (cs : List ClV) : List Value := cs.flatMap clCells
def clVal (c : ClV) : Value := .agg #[str c.name, .slice c.A1 c.n1 c.c1, .slice c.A2 c.n2 c.c2]
structure ClAt (w : World) (B : Nat) (c : ClV) : Prop where
  nm : c.name.length ≤ 9223372036854775807
  m1 : c.n1 ≤ 9223372036854775807
  m2 : c.n2 ≤ 9223372036854775807
  r1 : Rd w B 1 c.A1 c.n1 (strCells c.must)
  r2 : Rd w B 1 c.A2 c.n2 (strCells c.nots)
  f1 : ∀ b ∈ c.must, b.length ≤ 9223372036854775807
  f2 : ∀ b ∈ c.nots, b.length ≤ 9223372036854775807
theorem ClAt.keep {w w' : World} {B : Nat} {c : ClV} (h : ClAt w B c) (hk : ∀ p : Addr, p.block < B → w'.cell? p = w.cell? p) : ClAt w' B c :=
  ⟨h.nm, h.m1, h.m2, h.r1.keep hk, h.r2.keep hk, h.f1, h.f2⟩
theorem ClAt.more {w : World} {B B' : Nat} {c : ClV} (h : ClAt w B c) (hB : B ≤ B') : ClAt w B' c := ⟨h.nm, h.m1, h.m2, h.r1.more hB, h.r2.more hB, h.f1, h.f2⟩
theorem ClAt.l1 {w : World} {B : Nat} {c : ClV} (h : ClAt w B c) : c.must.length = c.n1 := by have := h.r1.1; simpa [strCells] using this
theorem ClAt.l2 {w : World} {B : Nat} {c : ClV} (h : ClAt w B c) : c.nots.length = c.n2 := by have := h.r2.1; simpa [strCells] using this
/-- a list of clauses: a slice, below block B -/
structure Cls (w : World) (B : Nat) (A : Option Addr) (n : Nat) (cs : List ClV) : Prop where
  rd : Rd w B 3 A n (clsCells cs)
  len : cs.length = n
  all : ∀ c ∈ cs, ClAt w B c
theorem Cls.keep {w w' : World} {B n : Nat} {A : Option Addr} {cs : List ClV} (h : Cls w B A n cs) (hk : ∀ p : Addr, p.block < B → w'.cell? p = w.cell? p) : Cls w' B A n cs :=
  ⟨h.rd.keep hk, h.len, fun c hc => (h.all c hc).keep hk⟩
theorem Cls.more {w : World} {B B' n : Nat} {A : Option Addr} {cs : List ClV} (h : Cls w B A n cs) (hB : B ≤ B') : Cls w B' A n cs := ⟨h.rd.more hB, h.len, fun c hc => (h.all c hc).more hB⟩
theorem Cls.go {w w' : World} {n : Nat} {A : Option Addr} {cs : List ClV} (h : Cls w w.heap.size A n cs) (hb : Below w.heap.size w w') : Cls w' w'.heap.size A n cs := (h.keep fun _ hp => hb.cell hp).more hb.size
theorem clsCells_length (cs : List ClV) : (clsCells cs).length = cs.length * 3 := by
  induction cs with
  | nil => rfl
  | cons o os ih => rw [show clsCells (o :: os) = clCells o ++ clsCells os from rfl, List.length_append, ih]; simp [clCells]; omega
theorem clsCells_at (cs : List ClV) : ∀ (m j : Nat) (o : ClV), cs[m]? = some o → j < 3 → (clsCells cs)[m * 3 + j]? = (clCells o)[j]? := by
  induction cs with
  | nil => intro m j o h; cases h
  | cons a os ih =>
    intro m j o h hj
    rw [show clsCells (a :: os) = clCells a ++ clsCells os from rfl]
    cases m with
    | zero =>
      obtain rfl : a = o := by simpa using h
      rw [Nat.zero_mul, Nat.zero_add, List.getElem?_append_left (by simp [clCells]; omega)]
    | succ m =>
      rw [List.getElem?_append_right (by simp [clCells]; omega), show (m + 1) * 3 + j - (clCells a).length = m * 3 + j by simp [clCells]; omega]
      exact ih m j o (by simpa using h) hj
/-- clause k of a list -/
theorem Cls.at_ {w : World} {B n k : Nat} {A : Option Addr} {cs : List ClV} (h : Cls w B A n cs) (hk : k < n) :
    ∃ b off c, A = some ⟨b, off, none⟩ ∧ b < B ∧ cs[k]? = some c ∧ ClAt w B c ∧ w.cell? ⟨b, off + k * 3, none⟩ = some (str c.name) ∧ w.cell? ⟨b, off + k * 3 + 1, none⟩ = some (.slice c.A1 c.n1 c.c1) ∧ w.cell? ⟨b, off + k * 3 + 2, none⟩ = some (.slice c.A2 c.n2 c.c2) := by
  obtain ⟨b, off, e, hb, hc⟩ := h.rd.2 (by omega)
  have hl := h.len
  have ho : cs[k]? = some cs[k] := List.getElem?_eq_getElem (by omega)
  have at_ : ∀ j u, (clCells cs[k])[j]? = some u → w.cell? ⟨b, off + k * 3 + j, none⟩ = some u := fun j u hu => by
    have hj : j < 3 := by have := (List.getElem?_eq_some_iff.1 hu).1; simpa [clCells] using this
    rw [Nat.add_assoc]
    exact hc _ u ((clsCells_at cs k j _ ho hj).trans hu)
  exact ⟨b, off, cs[k], e, hb, ho, h.all _ (List.mem_of_getElem? ho), at_ 0 _ rfl, at_ 1 _ rfl, at_ 2 _ rfl⟩

/-- what IndexFunc gives -/
def IdxPost (r : Bool) (w : World) : Ending → World → Prop := fun e w' => ∃ i : Int, e = .returned (.int .i64 i) ∧ decide (0 ≤ i) = r ∧ Below w.heap.size w w'
theorem any_hit {α : Type} {l : List α} {p : α → Bool} {k : Nat} {x : α} (h : l[k]? = some x) (hp : p x = true) : l.any p = true := List.any_eq_true.2 ⟨x, List.mem_of_getElem? h, hp⟩
theorem take_more {α : Type} {l : List α} {k : Nat} {x : α} {P : α → Prop} (h : l[k]? = some x) (h1 : ∀ y ∈ l.take k, P y) (h2 : P x) : ∀ y ∈ l.take (k + 1), P y := by
  obtain ⟨hk, rfl⟩ := List.getElem?_eq_some_iff.1 h
  intro y hy
  rw [List.take_succ_eq_append_getElem hk, List.mem_append] at hy
  rcases hy with hy | hy
  · exact h1 y hy
  · rw [List.mem_singleton.1 hy]; exact h2
theorem any_miss {α : Type} {l : List α} {p : α → Bool} {n : Nat} (hn : l.length = n) (h : ∀ y ∈ l.take n, p y = false) : l.any p = false := by
  rw [List.take_of_length_le (by omega)] at h
  rw [List.any_eq_false]
  intro y hy
  rw [h y hy]; simp

set_option maxHeartbeats 1000000 in
set_option maxRecDepth 100000 in
theorem idxS_any (g : Nat) (lb : Array Value) (eg : ∀ args w, (callFunc g args).run Try.prog w = .ok (.enter g args) w) (p : Bs → Bool) (A : Option Addr) (n c : Nat) (l : List Bs) (w : World) (h : Rd w w.heap.size 1 A n (strCells l)) (hn : n ≤ 9223372036854775807)
    (hp : ∀ W x, x ∈ l → Below w.heap.size w W → Calls Try.prog g (#[str x] ++ lb) W (RetB (.bool (p x)) W)) :
    Calls Try.prog 46 #[.slice A n c, .func (.func g) #[] lb] w (IdxPost (l.any p) w) := by
  have HL := Lib.hid (show l.length = n from by have := h.1; simpa [strCells] using this)
  have H := Lib.hid h
  have HP := Lib.hid hp
  clear h hp
  go_enter Try.func46, Try.ntmps46
  go_wp2_with fail
  go_loopw [5, 8] (fun _ x wr => ∃ k : Nat, k ≤ n ∧ x = .int .i64 k ∧ Hid (∀ y ∈ l.take k, p y = false) ∧ Hid (Below w.heap.size w wr)) (fun _ x _ => n - (intOf x).toNat)
  case atStart => exact ⟨0, by omega, rfl, Lib.hid (by simp), Lib.hid (Below.refl _ _)⟩
  case round =>
    obtain ⟨k, hk, rfl, M, B⟩ := hrel
    by_cases hlt : k < n
    · obtain ⟨b1, o1, u, rfl, _, hu, x1⟩ := (H.out.below B.out).at1 hlt
      obtain ⟨x, hx⟩ : ∃ x, l[k]? = some x := ⟨_, List.getElem?_eq_getElem (by have := HL.out; omega)⟩
      rw [strCells, List.getElem?_map, hx] at hu
      obtain rfl := (Option.some.inj hu).symm
      clear hu
      have j1 : (k : Int) < (n : Int) := by omega
      have j0 : (0 : Int) ≤ (k : Int) := by omega
      have hcall := HP.out wr x (List.mem_of_getElem? hx) B.out
      have HX := Lib.hid hx
      clear hx
      cases hq : p x
      · rw [hq] at hcall
        have M2 := Lib.hid (take_more HX.out M.out hq)
        clear hq
        go_wp2_with (go_at_fn g; refine hcall.mono ?_; rintro e w' ⟨rfl, hb'⟩)
        go_roundw
        case rel => exact ⟨k + 1, by omega, by go_num, M2, Lib.hid (below_go B.out hb')⟩
        case measure => simp [intOf]; omega
      · rw [hq] at hcall
        have HR := Lib.hid (any_hit HX.out hq)
        clear hq
        go_wp2_with (go_at_fn g; refine hcall.mono ?_; rintro e w' ⟨rfl, hb'⟩)
        go_ret
        exact ⟨k, rfl, by rw [HR.out]; simp, below_go B.out hb'⟩
    · obtain rfl : k = n := by omega
      have HR := Lib.hid (any_miss HL.out M.out)
      go_wp2_with fail
      go_ret
      exact ⟨-1, rfl, by rw [HR.out]; rfl, B.out⟩
theorem containsS_any (g : Nat) (lb : Array Value) (eg : ∀ args w, (callFunc g args).run Try.prog w = .ok (.enter g args) w) (p : Bs → Bool) (A : Option Addr) (n c : Nat) (l : List Bs) (w : World) (h : Rd w w.heap.size 1 A n (strCells l)) (hn : n ≤ 9223372036854775807)
    (hp : ∀ W x, x ∈ l → Below w.heap.size w W → Calls Try.prog g (#[str x] ++ lb) W (RetB (.bool (p x)) W)) (r : Bool) (hr : Hid (l.any p = r)) :
    Calls Try.prog 28 #[.slice A n c, .func (.func g) #[] lb] w (RetB (.bool r) w) := by
  have H := Lib.hid (idxS_any g lb eg p A n c l w h hn hp)
  clear hp
  go_enter Try.func28, Try.ntmps28
  go_wp2_with fail
  refine H.out.mono ?_
  rintro e w' ⟨i, rfl, hi, hb⟩
  have HI := Lib.hid hi
  clear hi
  go_wp2_with fail
  go_ret
  exact RetB.of (by rw [HI.out, hr.out]; rfl) hb

set_option maxHeartbeats 1000000 in
set_option maxRecDepth 100000 in
theorem idxI_any (g : Nat) (lb : Array Value) (eg : ∀ args w, (callFunc g args).run Try.prog w = .ok (.enter g args) w) (p : Int → Bool) (A : Option Addr) (n c : Nat) (l : List Int) (w : World) (h : Rd w w.heap.size 1 A n (intCells l)) (hn : n ≤ 9223372036854775807)
    (hp : ∀ W x, x ∈ l → Below w.heap.size w W → Calls Try.prog g (#[Value.int .i64 x] ++ lb) W (RetB (.bool (p x)) W)) :
    Calls Try.prog 63 #[.slice A n c, .func (.func g) #[] lb] w (IdxPost (l.any p) w) := by
  have HL := Lib.hid (show l.length = n from by have := h.1; simpa [intCells] using this)
  have H := Lib.hid h
  have HP := Lib.hid hp
  clear h hp
  go_enter Try.func63, Try.ntmps63
  go_wp2_with fail
  go_loopw [5, 8] (fun _ x wr => ∃ k : Nat, k ≤ n ∧ x = .int .i64 k ∧ Hid (∀ y ∈ l.take k, p y = false) ∧ Hid (Below w.heap.size w wr)) (fun _ x _ => n - (intOf x).toNat)
  case atStart => exact ⟨0, by omega, rfl, Lib.hid (by simp), Lib.hid (Below.refl _ _)⟩
  case round =>
    obtain ⟨k, hk, rfl, M, B⟩ := hrel
    by_cases hlt : k < n
    · obtain ⟨b1, o1, u, rfl, _, hu, x1⟩ := (H.out.below B.out).at1 hlt
      obtain ⟨x, hx⟩ : ∃ x, l[k]? = some x := ⟨_, List.getElem?_eq_getElem (by have := HL.out; omega)⟩
      rw [intCells, List.getElem?_map, hx] at hu
      obtain rfl := (Option.some.inj hu).symm
      clear hu
      have j1 : (k : Int) < (n : Int) := by omega
      have j0 : (0 : Int) ≤ (k : Int) := by omega
      have hcall := HP.out wr x (List.mem_of_getElem? hx) B.out
      have HX := Lib.hid hx
      clear hx
      cases hq : p x
      · rw [hq] at hcall
        have M2 := Lib.hid (take_more HX.out M.out hq)
        clear hq
        go_wp2_with (go_at_fn g; refine hcall.mono ?_; rintro e w' ⟨rfl, hb'⟩)
        go_roundw
        case rel => exact ⟨k + 1, by omega, by go_num, M2, Lib.hid (below_go B.out hb')⟩
        case measure => simp [intOf]; omega
      · rw [hq] at hcall
        have HR := Lib.hid (any_hit HX.out hq)
        clear hq
        go_wp2_with (go_at_fn g; refine hcall.mono ?_; rintro e w' ⟨rfl, hb'⟩)
        go_ret
        exact ⟨k, rfl, by rw [HR.out]; simp, below_go B.out hb'⟩
    · obtain rfl : k = n := by omega
      have HR := Lib.hid (any_miss HL.out M.out)
      go_wp2_with fail
      go_ret
      exact ⟨-1, rfl, by rw [HR.out]; rfl, B.out⟩
theorem containsI_any (g : Nat) (lb : Array Value) (eg : ∀ args w, (callFunc g args).run Try.prog w = .ok (.enter g args) w) (p : Int → Bool) (A : Option Addr) (n c : Nat) (l : List Int) (w : World) (h : Rd w w.heap.size 1 A n (intCells l)) (hn : n ≤ 9223372036854775807)
    (hp : ∀ W x, x ∈ l → Below w.heap.size w W → Calls Try.prog g (#[Value.int .i64 x] ++ lb) W (RetB (.bool (p x)) W)) (r : Bool) (hr : Hid (l.any p = r)) :
    Calls Try.prog 51 #[.slice A n c, .func (.func g) #[] lb] w (RetB (.bool r) w) := by
  have H := Lib.hid (idxI_any g lb eg p A n c l w h hn hp)
  clear hp
  go_enter Try.func51, Try.ntmps51
  go_wp2_with fail
  refine H.out.mono ?_
  rintro e w' ⟨i, rfl, hi, hb⟩
  have HI := Lib.hid hi
  clear hi
  go_wp2_with fail
  go_ret
  exact RetB.of (by rw [HI.out, hr.out]; rfl) hb

set_option maxHeartbeats 1000000 in
set_option maxRecDepth 100000 in
theorem idxC_any (g : Nat) (lb : Array Value) (eg : ∀ args w, (callFunc g args).run Try.prog w = .ok (.enter g args) w) (p : ClV → Bool) (A : Option Addr) (n c : Nat) (l : List ClV) (w : World) (h : Cls w w.heap.size A n l) (hn : n ≤ 9223372036854775807)
    (hp : ∀ W x, x ∈ l → Below w.heap.size w W → Calls Try.prog g (#[clVal x] ++ lb) W (RetB (.bool (p x)) W)) :
    Calls Try.prog 49 #[.slice A n c, .func (.func g) #[] lb] w (IdxPost (l.any p) w) := by
  have HL := Lib.hid (show l.length = n from h.len)
  have H := Lib.hid h
  have HP := Lib.hid hp
  clear h hp
  go_enter Try.func49, Try.ntmps49
  go_wp2_with fail
  go_loopw [5, 8] (fun _ x wr => ∃ k : Nat, k ≤ n ∧ x = .int .i64 k ∧ Hid (∀ y ∈ l.take k, p y = false) ∧ Hid (Below w.heap.size w wr)) (fun _ x _ => n - (intOf x).toNat)
  case atStart => exact ⟨0, by omega, rfl, Lib.hid (by simp), Lib.hid (Below.refl _ _)⟩
  case round =>
    obtain ⟨k, hk, rfl, M, B⟩ := hrel
    by_cases hlt : k < n
    · obtain ⟨b1, o1, x, rfl, _, hx, _, x0, x1, x2⟩ := (H.out.keep (w' := wr) (fun p hp => B.out.cell hp)).at_ hlt
      have j1 : (k : Int) < (n : Int) := by omega
      have j0 : (0 : Int) ≤ (k : Int) := by omega
      have hcall := HP.out wr x (List.mem_of_getElem? hx) B.out
      have HX := Lib.hid hx
      clear hx
      cases hq : p x
      · rw [hq] at hcall
        have M2 := Lib.hid (take_more HX.out M.out hq)
        clear hq
        go_wp2_with (go_at_fn g; refine hcall.mono ?_; rintro e w' ⟨rfl, hb'⟩)
        go_roundw
        case rel => exact ⟨k + 1, by omega, by go_num, M2, Lib.hid (below_go B.out hb')⟩
        case measure => simp [intOf]; omega
      · rw [hq] at hcall
        have HR := Lib.hid (any_hit HX.out hq)
        clear hq
        go_wp2_with (go_at_fn g; refine hcall.mono ?_; rintro e w' ⟨rfl, hb'⟩)
        go_ret
        exact ⟨k, rfl, by rw [HR.out]; simp, below_go B.out hb'⟩
    · obtain rfl : k = n := by omega
      have HR := Lib.hid (any_miss HL.out M.out)
      go_wp2_with fail
      go_ret
      exact ⟨-1, rfl, by rw [HR.out]; rfl, B.out⟩
theorem containsC_any (g : Nat) (lb : Array Value) (eg : ∀ args w, (callFunc g args).run Try.prog w = .ok (.enter g args) w) (p : ClV → Bool) (A : Option Addr) (n c : Nat) (l : List ClV) (w : World) (h : Cls w w.heap.size A n l) (hn : n ≤ 9223372036854775807)
    (hp : ∀ W x, x ∈ l → Below w.heap.size w W → Calls Try.prog g (#[clVal x] ++ lb) W (RetB (.bool (p x)) W)) (r : Bool) (hr : Hid (l.any p = r)) :
    Calls Try.prog 33 #[.slice A n c, .func (.func g) #[] lb] w (RetB (.bool r) w) := by
  have H := Lib.hid (idxC_any g lb eg p A n c l w h hn hp)
  clear hp
  go_enter Try.func33, Try.ntmps33
  go_wp2_with fail
  refine H.out.mono ?_
  rintro e w' ⟨i, rfl, hi, hb⟩
  have HI := Lib.hid hi
  clear hi
  go_wp2_with fail
  go_ret
  exact RetB.of (by rw [HI.out, hr.out]; rfl) hb
end Go.Proofs.Ytflfachkoffiiaa
