/- Operations of scripts: what lies in memory, and an argument '[]Op' opened. -/
import Derived.Test.YtibhnjnfifpepaaText
import Derived.Test.YtibhnjnfifpepaaMount
import Derived.ProofKit
import Derived.SliceStrings
import Derived.OpenShut
namespace Go.Proofs.Ytibhnjnfifpepaa
open Go.RowKit Go.WideShapes Go.ChangeShapes Go.ChangeAt

structure OpV where
  k : Int
  i : Int
  bit : Int
  t : ByteArray
  A : Option Addr
  n : Nat
  c : Nat
  ps : List Int
def opCells (o : OpV) : List Value := [.int .i64 o.k, .int .i64 o.i, .int .i64 o.bit, .string o.t, .slice o.A o.n o.c]
def opsCells (os : List OpV) : List Value := os.flatMap opCells
structure OpAt (w : World) (B : Nat) (o : OpV) : Prop where
  k1 : -9223372036854775808 ≤ o.k
  k2 : o.k ≤ 9223372036854775807
  i1 : -9223372036854775808 ≤ o.i
  i2 : o.i ≤ 9223372036854775807
  b1 : -9223372036854775808 ≤ o.bit
  b2 : o.bit ≤ 9223372036854775807
  t2 : o.t.size ≤ 9223372036854775807
  n2 : o.n ≤ 9223372036854775807
  rd : Rd w B 1 o.A o.n (intCells o.ps)
theorem OpAt.keep {w w' : World} {B : Nat} {o : OpV} (h : OpAt w B o) (hk : ∀ p : Addr, p.block < B → w'.cell? p = w.cell? p) : OpAt w' B o :=
  ⟨h.k1, h.k2, h.i1, h.i2, h.b1, h.b2, h.t2, h.n2, h.rd.keep hk⟩
/-- a script: a slice of operations, below block B -/
structure Script (w : World) (B : Nat) (A : Option Addr) (n : Nat) (os : List OpV) : Prop where
  rd : Rd w B 5 A n (opsCells os)
  len : os.length = n
  all : ∀ o ∈ os, OpAt w B o
theorem Script.keep {w w' : World} {B n : Nat} {A : Option Addr} {os : List OpV} (h : Script w B A n os) (hk : ∀ p : Addr, p.block < B → w'.cell? p = w.cell? p) : Script w' B A n os :=
  ⟨h.rd.keep hk, h.len, fun o ho => (h.all o ho).keep hk⟩

section
variable {H : Type} {enc : TypeId × Value → H} {W : World} {base : Nat} {sp : Nat → Bool} {held : Bool}
theorem open_nums_trod {fuel : Nat} {cs : List Value} {x : DataW H × List MemPlace} (hsp : ∀ b, sp b = true) (h : DataW.trod enc Try.prog W base sp held fuel 36 cs = some x) {B : Nat} (hlt : ∀ p ∈ x.2, p.block < B) :
    ∃ A n c zs, cs = [.slice A n c] ∧ Rd W B 1 A n (intCells zs) ∧ n ≤ 9223372036854775807 := by
  rcases open_ints Try.underlying36 Try.underlying3 (by kernel_rfl) h with ⟨rfl, rfl⟩ | ⟨a, len, cap, zs, rfl, _, hl, hm, hz, hx, hcell, hwz⟩
  · exact ⟨none, 0, 0, [], rfl, Rd.nil, by omega⟩
  · rw [if_pos (hsp _)] at hz
    unfold maxLen at hm
    refine ⟨some a, len, cap, zs.take len, rfl, ⟨by simp [intCells]; omega, fun hn => ?_⟩, by omega⟩
    obtain ⟨b, off, spot⟩ := a
    have hspot : spot = none := by simpa [Addr.add] using World.cell?_spot (hcell 0 (by omega))
    subst hspot
    refine ⟨b, off, rfl, hlt (.cell b off) (by rw [hx]; exact MemPlace.mem_row.2 ⟨0, by omega, by simp⟩), fun j u hu => ?_⟩
    simp only [intCells, List.map_take, List.getElem?_take, List.getElem?_map] at hu
    split at hu
    · rename_i hj
      have := hcell j (by omega)
      rw [show (⟨b, off, none⟩ : Addr).add j = ⟨b, off + j, none⟩ from by unfold Addr.add; split <;> simp_all] at this
      rw [this]
      rw [List.getElem?_eq_getElem (by omega)] at hu
      rw [List.getD_eq_getElem?_getD, List.getElem?_eq_getElem (by omega)]
      exact hu
    · cases hu
set_option maxRecDepth 100000 in
theorem open_op {fuel : Nat} {cs : List Value} {x : DataW H × List MemPlace} (hsp : ∀ b, sp b = true) (h : DataW.trod enc Try.prog W base sp held fuel 44 cs = some x) {B : Nat} (hlt : ∀ p ∈ x.2, p.block < B) :
    ∃ o, cs = opCells o ∧ OpAt W B o := by
  obtain ⟨xs, n, rfl, rfl, hl, hx, hf⟩ := DataW.trod_struct Try.underlying44 h
  have s44 : Try.prog.cellsOf 44 = 5 := by kernel_rfl
  rw [s44] at hl
  replace hx : xs.length = 5 := hx
  match cs, hl, xs, hx with
  | [c0, c1, c2, c3, c4], _, [x0, x1, x2, x3, x4], _ =>
    have h0 := hf 0 _ rfl
    have h1 := hf 1 _ rfl
    have h2 := hf 2 _ rfl
    have h3 := hf 3 _ rfl
    have h4 := hf 4 _ rfl
    simp only [List.getElem?_cons_zero, List.getElem?_cons_succ] at h0 h1 h2 h3 h4
    obtain ⟨k, e0, r0, w0⟩ := DataW.trod_int Try.underlying3 h0
    obtain ⟨i, e1, r1, w1⟩ := DataW.trod_int Try.underlying3 h1
    obtain ⟨bit, e2, r2, w2⟩ := DataW.trod_int Try.underlying3 h2
    obtain ⟨t, e3, r3, w3⟩ := DataW.trod_string Try.underlying9 h3
    obtain ⟨A, m, c, zs, e4, r4, w4⟩ := open_nums_trod hsp h4 (B := B) (fun p hp => hlt p (by simp [hp]))
    obtain rfl : c0 = _ := by injection e0
    obtain rfl : c1 = _ := by injection e1
    obtain rfl : c2 = _ := by injection e2
    obtain rfl : c3 = _ := by injection e3
    obtain rfl : c4 = _ := by injection e4
    refine ⟨⟨k, i, bit, t, A, m, c, zs⟩, rfl, ⟨(bounds_i64 w0).1, (bounds_i64 w0).2, (bounds_i64 w1).1, (bounds_i64 w1).2, (bounds_i64 w2).1, (bounds_i64 w2).2, ?_, w4, r4⟩⟩
    unfold maxLen at w3
    exact w3
theorem opsCells_length (os : List OpV) : (opsCells os).length = os.length * 5 := by
  induction os with
  | nil => rfl
  | cons o os ih => rw [show opsCells (o :: os) = opCells o ++ opsCells os from rfl, List.length_append, ih]; simp [opCells]; omega
theorem opsCells_at (os : List OpV) : ∀ (m j : Nat) (o : OpV), os[m]? = some o → j < 5 → (opsCells os)[m * 5 + j]? = (opCells o)[j]? := by
  induction os with
  | nil => intro m j o h; cases h
  | cons a os ih =>
    intro m j o h hj
    rw [show opsCells (a :: os) = opCells a ++ opsCells os from rfl]
    cases m with
    | zero =>
      obtain rfl : a = o := by simpa using h
      rw [Nat.zero_mul, Nat.zero_add, List.getElem?_append_left (by simp [opCells]; omega)]
    | succ m =>
      rw [List.getElem?_append_right (by simp [opCells]; omega), show (m + 1) * 5 + j - (opCells a).length = m * 5 + j by simp [opCells]; omega]
      exact ih m j o (by simpa using h) hj
theorem opsCells_get (os : List OpV) (q : Nat) (u : Value) (h : (opsCells os)[q]? = some u) : ∃ o, os[q / 5]? = some o ∧ (opCells o)[q % 5]? = some u := by
  have hq := (List.getElem?_eq_some_iff.1 h).1
  rw [opsCells_length] at hq
  have hm : q / 5 < os.length := by omega
  refine ⟨os[q / 5], List.getElem?_eq_getElem hm, ?_⟩
  rw [← opsCells_at os (q / 5) (q % 5) _ (List.getElem?_eq_getElem hm) (by omega), show q / 5 * 5 + q % 5 = q by omega, h]
theorem choose_list {α : Type} (P : Nat → α → Prop) : ∀ n : Nat, (∀ i, i < n → ∃ o, P i o) → ∃ os : List α, os.length = n ∧ ∀ i o, os[i]? = some o → P i o := by
  intro n
  induction n with
  | zero => intro _; exact ⟨[], rfl, fun i o h => by cases h⟩
  | succ n ih =>
    intro h
    obtain ⟨os, hl, hP⟩ := ih (fun i hi => h i (by omega))
    obtain ⟨o, ho⟩ := h n (by omega)
    refine ⟨os ++ [o], by simp [hl], fun i o' h' => ?_⟩
    rw [List.getElem?_append] at h'
    split at h'
    · exact hP i o' h'
    · have hi : i - os.length = 0 := by
        have := (List.getElem?_eq_some_iff.1 h').1
        simp at this
        omega
      rw [hi] at h'
      obtain rfl : o = o' := by simpa using h'
      obtain rfl : i = n := by omega
      exact ho
set_option maxRecDepth 100000 in
theorem open_script {v : Value} {d : DataW H} {p : List MemPlace} (hv : Value.okWide Try.prog W .any base 39 v) (h : DataW.Trod enc Try.prog W 0 (fun _ => true) true 39 v d p) (hlt : ∀ x ∈ p, x.block < W.heap.size) :
    ∃ A n c os, v = .slice A n c ∧ Script W W.heap.size A n os ∧ n ≤ 9223372036854775807 := by
  obtain ⟨a0, len, cap, rfl⟩ := okWide_slice Try.underlying39 hv
  obtain ⟨fuel, hf⟩ := h
  rcases DataW.trod_slice Try.underlying39 hf with ⟨hcs, hx⟩ | ⟨a, len', cap', elems, rest, n, rfl, hcs, hx, _, hl, hm, hlen, hel, _, _⟩
  · simp [Value.cells] at hcs
    obtain ⟨rfl, rfl, rfl⟩ := hcs
    exact ⟨none, 0, 0, [], rfl, ⟨Rd.nil, rfl, fun o ho => by cases ho⟩, by omega⟩
  · simp [Value.cells] at hcs
    obtain ⟨rfl, rfl, rfl⟩ := hcs
    unfold maxLen at hm
    have s44 : Try.prog.cellsOf 44 = 5 := by kernel_rfl
    rw [s44] at hel hx
    simp only [Prod.mk.injEq] at hx
    obtain ⟨os, hol, hos⟩ := choose_list (fun i o => OpAt W W.heap.size o ∧ W.cells? 0 (a.add (i * 5)) 5 = some (opCells o)) len (fun i hi => by
      have he := hel i hi
      obtain ⟨y, hy⟩ : ∃ y, elems[i]? = some y := ⟨_, List.getElem?_eq_getElem (by omega)⟩
      rw [hy, Option.bind_eq_some_iff] at he
      obtain ⟨cs, h1, h2⟩ := he
      obtain ⟨o, rfl, ho⟩ := open_op (fun _ => rfl) h2 (B := W.heap.size) (fun q hq => hlt q (by
        rw [hx.2]
        exact List.mem_append_right _ (List.mem_flatMap.2 ⟨y, List.mem_append_left _ (List.mem_of_getElem? hy), hq⟩)))
      exact ⟨o, ho, h1⟩)
    refine ⟨some a, len, cap, os, rfl, ⟨⟨by rw [opsCells_length, hol], fun hn => ?_⟩, hol, fun o ho => ?_⟩, by omega⟩
    · have hc0 : ∃ u, W.cell? (a.add 0) = some u := by
        have := (World.cells?_some (hos 0 _ (List.getElem?_eq_getElem (by omega))).2).2.2 0 (by omega)
        rw [Nat.zero_mul] at this
        exact ⟨_, by simpa [Addr.add, opCells] using this⟩
      obtain ⟨u0, hu0⟩ := hc0
      obtain ⟨b, off, spot⟩ := a
      have hspot : spot = none := by simpa [Addr.add] using World.cell?_spot hu0
      subst hspot
      refine ⟨b, off, rfl, hlt (.cell b off) (by rw [hx.2]; exact List.mem_append_left _ (MemPlace.mem_row.2 ⟨0, by omega, by simp⟩)), fun j u hu => ?_⟩
      obtain ⟨o, ho, hu'⟩ := opsCells_get os j u hu
      have := (World.cells?_some (hos _ _ ho).2).2.2 (j % 5) (by omega)
      have ha : ∀ o j : Nat, (⟨b, o, none⟩ : Addr).add j = ⟨b, o + j, none⟩ := fun o j => by unfold Addr.add; split <;> simp_all
      rw [hu', ha, ha, show off + j / 5 * 5 + j % 5 = off + j by omega] at this
      exact this
    · obtain ⟨i, hi⟩ := List.getElem?_of_mem ho
      exact (hos i o hi).1
end
end Go.Proofs.Ytibhnjnfifpepaa
