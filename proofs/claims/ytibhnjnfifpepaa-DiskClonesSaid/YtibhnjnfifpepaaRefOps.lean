/- The reference's methods: is, step, Read, Write, Trip, Wear. -/
import Derived.Test.YtibhnjnfifpepaaModel
namespace Go.Proofs.Ytibhnjnfifpepaa
open Go.RowKit Go.Maps

theorem secs_at : ∀ (l : List Sec) (i c : Nat) (x : Sec), l[i]? = some x → c < 4 → (secsCells l)[i * 4 + c]? = (secCells x)[c]?
  | [], _, _, _, h, _ => by simp at h
  | a :: l, 0, c, x, h, hc => by
    obtain rfl : a = x := by simpa using h
    rw [show secsCells (a :: l) = secCells a ++ secsCells l from rfl, List.getElem?_append_left (by simp [secCells]; omega), Nat.zero_mul, Nat.zero_add]
  | a :: l, i + 1, c, x, h, hc => by
    rw [show secsCells (a :: l) = secCells a ++ secsCells l from rfl, List.getElem?_append_right (by simp [secCells]; omega), show (i + 1) * 4 + c - (secCells a).length = i * 4 + c by simp [secCells]; omega]
    exact secs_at l i c x (by simpa using h) hc
theorem secs_set : ∀ (l : List Sec) (i c : Nat) (x x' : Sec) (u : Value), l[i]? = some x → c < 4 → (secCells x).set c u = secCells x' → (secsCells l).set (i * 4 + c) u = secsCells (l.set i x')
  | [], _, _, _, _, _, h, _, _ => by simp at h
  | a :: l, 0, c, x, x', u, h, hc, hs => by
    obtain rfl : a = x := by simpa using h
    rw [show secsCells (a :: l) = secCells a ++ secsCells l from rfl, List.set_append_left _ _ (by simp [secCells]; omega), Nat.zero_mul, Nat.zero_add, hs]; rfl
  | a :: l, i + 1, c, x, x', u, h, hc, hs => by
    rw [show secsCells (a :: l) = secCells a ++ secsCells l from rfl, List.set_append_right _ _ (by simp [secCells]; omega), show (i + 1) * 4 + c - (secCells a).length = i * 4 + c by simp [secCells]; omega, secs_set l i c x x' u (by simpa using h) hc hs]; rfl

variable {w w' : World} {r gs : Nat} {T : RSt}
theorem RefAt.heads (h : RefAt w r gs T) : w.cell? ⟨r, 0, none⟩ = some (.slice (some ⟨gs, 0, none⟩) T.s.length T.cap) ∧ w.cell? ⟨r, 1, none⟩ = some (.bool T.off) ∧ w.cell? ⟨r, 2, none⟩ = some (.int .i64 T.left) :=
  ⟨h.head.cell 0, h.head.cell 1, h.head.cell 2⟩
theorem RefAt.cellAt (h : RefAt w r gs T) {i c : Nat} {x : Sec} (hx : T.s[i]? = some x) (hc : c < 4) : w.cell? ⟨gs, i * 4 + c, none⟩ = (secCells x)[c]? := by
  have hi := (List.getElem?_eq_some_iff.1 hx).1
  rw [h.rows.cell, List.getElem?_toArray, List.getElem?_append_left (by rw [secsCells_length]; omega), secs_at T.s i c x hx hc]
theorem RefAt.sec (h : RefAt w r gs T) {i : Nat} {x : Sec} (hx : T.s[i]? = some x) : w.cell? ⟨gs, i * 4, none⟩ = some (str x.text) ∧ w.cell? ⟨gs, i * 4 + 1, none⟩ = some (str x.next) ∧ w.cell? ⟨gs, i * 4 + 2, none⟩ = some (.bool x.dirty) ∧ w.cell? ⟨gs, i * 4 + 3, none⟩ = some (.bool x.worn) :=
  ⟨h.cellAt (c := 0) hx (by omega), h.cellAt (c := 1) hx (by omega), h.cellAt (c := 2) hx (by omega), h.cellAt (c := 3) hx (by omega)⟩
theorem RefAt.lt (h : RefAt w r gs T) : r < w.heap.size ∧ gs < w.heap.size := ⟨h.head.lt, h.rows.lt⟩
theorem RefAt.keep {F : List Nat} (h : RefAt w r gs T) (k : Keep F w w') (h1 : r ∉ F) (h2 : gs ∉ F) : RefAt w' r gs T :=
  ⟨(k.block r h.lt.1 h1).trans h.head, (k.block gs h.lt.2 h2).trans h.rows, h.ne, h.t64, h.n64, h.n1, h.n2, h.l1, h.l2⟩
theorem RefAt.setOff (h : RefAt w r gs T) (b : Bool) : RefAt (w.setCell ⟨r, 1, none⟩ (.bool b)) r gs { T with off := b } :=
  ⟨h.head.set_ 1 _, (Below.heap_setCell _ _ _ _ (Ne.symm h.ne)).trans h.rows, h.ne, h.t64, h.n64, h.n1, h.n2, h.l1, h.l2⟩
theorem RefAt.setLeft (h : RefAt w r gs T) (n : Int) (l1 : -9223372036854775808 ≤ n) (l2 : n ≤ 9223372036854775807) : RefAt (w.setCell ⟨r, 2, none⟩ (.int .i64 n)) r gs { T with left := n } :=
  ⟨h.head.set_ 2 _, (Below.heap_setCell _ _ _ _ (Ne.symm h.ne)).trans h.rows, h.ne, h.t64, h.n64, h.n1, h.n2, l1, l2⟩
/-- other sectors, as many -/
theorem RefAt.turned (h : RefAt w r gs T) {l : List Sec} (hr : Blk w' gs 52 (secsCells l ++ T.ext).toArray) (hh : w'.heap[r]? = w.heap[r]?) (hl : l.length = T.s.length) (h1 : ∀ x ∈ l, x.text.length = 64) (h2 : ∀ x ∈ l, x.dirty = true → x.next.length = 64) : RefAt w' r gs { T with s := l } :=
  ⟨by show Blk w' r 55 #[.slice (some ⟨gs, 0, none⟩) l.length T.cap, .bool T.off, .int .i64 T.left]
      rw [hl]
      exact hh.trans h.head, hr, h.ne, h1, h2, by rw [hl]; exact h.n1, by rw [hl]; exact h.n2, h.l1, h.l2⟩
theorem mem_set_or {l : List Sec} {i : Nat} {a : Sec} {P : Sec → Prop} (h : ∀ x ∈ l, P x) (ha : P a) : ∀ x ∈ l.set i a, P x := fun x hx => by
  rcases List.mem_or_eq_of_mem_set hx with hx | rfl
  · exact h x hx
  · exact ha
theorem RefAt.setSec (h : RefAt w r gs T) {i c : Nat} {x : Sec} (hx : T.s[i]? = some x) (hc : c < 4) (x' : Sec) (u : Value) (hs : (secCells x).set c u = secCells x') (t64 : x'.text.length = 64) (n64 : x'.dirty = true → x'.next.length = 64) :
    RefAt (w.setCell ⟨gs, i * 4 + c, none⟩ u) r gs { T with s := T.s.set i x' } := by
  have hi := (List.getElem?_eq_some_iff.1 hx).1
  refine h.turned ?_ (Below.heap_setCell _ _ _ _ h.ne) List.length_set (mem_set_or h.t64 t64) (mem_set_or (P := fun x => x.dirty = true → x.next.length = 64) h.n64 n64)
  have := h.rows.set_ (i * 4 + c) u
  rw [List.setIfInBounds_toArray, List.set_append_left _ _ (by rw [secsCells_length]; omega), secs_set T.s i c x x' u hx hc hs] at this
  exact this
theorem getD_some {l : List Sec} {i : Nat} {x : Sec} (h : l[i]? = some x) (z : Sec) : l.getD i z = x := by rw [List.getD_eq_getElem?_getD, h]; rfl

theorem is_any (w : World) (r gs : Nat) (T : RSt) (h : RefAt w r gs T) (i : Int) (b : Bool) (hb : Hid (rIs T i = b)) :
    Calls Try.prog 58 #[.pointer (some ⟨r, 0, none⟩), .int .i64 i] w (Ret (.bool b) w) := by
  obtain ⟨c0, c1, c2⟩ := h.heads
  have n2 := h.n2
  obtain ⟨n, hn⟩ : ∃ n, n = T.s.length := ⟨_, rfl⟩
  rw [← hn] at c0 n2
  have HB := Lib.hid (show decide (0 ≤ i ∧ i < (n : Int)) = b by rw [← hb.out, rIs, hn])
  clear h hb hn
  by_cases h0 : 0 ≤ i
  · by_cases h1 : i < (n : Int)
    · go_enter Try.func58, Try.ntmps58
      go_wp2_with fail
      go_ret
      exact Ret.bool (by rw [← HB.out]; simp [h0, h1])
    · go_enter Try.func58, Try.ntmps58
      go_wp2_with fail
      go_ret
      exact Ret.bool (by rw [← HB.out]; simp [h0, h1])
  · go_enter Try.func58, Try.ntmps58
    go_wp2_with fail
    go_ret
    exact Ret.bool (by rw [← HB.out, decide_eq_false (by omega)])

/-- what a method of the reference leaves -/
def RPost (v : Value) (r gs : Nat) (T : RSt) (w : World) : Ending → World → Prop := fun e w' => e = .returned v ∧ RefAt w' r gs T ∧ Keep [r, gs] w w'
theorem RPost.ret {v : Value} {r gs : Nat} {T T' : RSt} {w w' : World} (hT : T = T') (h : RefAt w' r gs T) (hk : Keep [r, gs] w w') : RPost v r gs T' w (.returned v) w' := by rw [← hT]; exact ⟨rfl, h, hk⟩

theorem rstep_any (w : World) (r gs : Nat) (T : RSt) (h : RefAt w r gs T) :
    Calls Try.prog 59 #[.pointer (some ⟨r, 0, none⟩)] w (RPost (.int .i64 (rStepE T)) r gs (rStepS T) w) := by
  obtain ⟨c0, c1, c2⟩ := h.heads
  have f1 := h.head.frozen 1
  have f2 := h.head.frozen 2
  have l1 := h.l1
  have l2 := h.l2
  by_cases h0 : T.left = 0
  · have HE : rStepE T = 24 := by rw [rStepE, if_pos h0]
    have HS := Lib.hid (show { T with off := true } = rStepS T by rw [rStepS, if_pos h0])
    rw [HE]
    rw [h0] at c2
    have H1 := Lib.hid (h.setOff true)
    have hk := Lib.hid ((Keep.refl [r, gs] w).setCell (a := ⟨r, 1, none⟩) (by simp) (.bool true))
    clear h h0 HE l1 l2
    go_enter Try.func59, Try.ntmps59
    go_wp2_with fail
    go_ret
    exact RPost.ret HS.out H1.out hk.out
  · have HE : rStepE T = 0 := by rw [rStepE, if_neg h0]
    rw [HE]
    by_cases hp : 0 < T.left
    · have HS := Lib.hid (show { T with left := T.left - 1 } = rStepS T by rw [rStepS, if_neg h0, if_pos hp])
      have H2 := Lib.hid (h.setLeft (T.left - 1) (by omega) (by omega))
      have hk := Lib.hid ((Keep.refl [r, gs] w).setCell (a := ⟨r, 2, none⟩) (by simp) (.int .i64 (T.left - 1)))
      clear HE
      generalize T.left = n at *
      clear h
      go_enter Try.func59, Try.ntmps59
      go_wp2_with fail
      go_ret
      exact RPost.ret HS.out H2.out hk.out
    · have HS := Lib.hid (show T = rStepS T by rw [rStepS, if_neg h0, if_neg hp])
      have H2 := Lib.hid h
      clear HE h
      generalize T.left = n at *
      go_enter Try.func59, Try.ntmps59
      go_wp2_with fail
      go_ret
      exact RPost.ret HS.out H2.out (Keep.refl _ _)

theorem rtrip_any (w : World) (r gs : Nat) (T : RSt) (h : RefAt w r gs T) (n : Int) (l1 : -9223372036854775808 ≤ n) (l2 : n ≤ 9223372036854775807) :
    Calls Try.prog 41 #[.pointer (some ⟨r, 0, none⟩), .int .i64 n] w (RPost (.tuple #[]) r gs (rTripS T n) w) := by
  have hn := h.setLeft (max (-1) n) (by omega) (by omega)
  have c2 := h.heads.2.2
  have f2 := h.head.frozen 2
  have HN := Lib.hid hn
  clear h hn
  go_enter Try.func41, Try.ntmps41
  go_wp2_with fail
  go_end0
  exact ⟨rfl, HN.out, (Keep.refl _ _).setCell (by simp) _⟩

theorem rwear_any (w : World) (r gs : Nat) (T : RSt) (h : RefAt w r gs T) (i : Int) :
    Calls Try.prog 44 #[.pointer (some ⟨r, 0, none⟩), .int .i64 i] w (RPost (.int .i64 (rWearE T i)) r gs (rWearS T i) w) := by
  have n2 := h.n2
  have H := Lib.hid h
  cases hi : rIs T i
  · have hE : rWearE T i = 1 := by rw [rWearE, hi]; rfl
    have HS := Lib.hid (show T = rWearS T i by rw [rWearS, hi]; rfl)
    rw [hE]
    have HI := Lib.hid hi
    clear h hi hE n2
    go_enter Try.func44, Try.ntmps44
    go_wp2_with fail
    refine (is_any w r gs T H.out i false HI).mono ?_
    rintro e w' ⟨rfl, rfl⟩
    go_wp2_with fail
    go_ret
    exact RPost.ret HS.out H.out (Keep.refl _ _)
  · have hE : rWearE T i = 0 := by rw [rWearE, hi]; rfl
    have HS := Lib.hid (show { T with s := T.s.set i.toNat { T.s.getD i.toNat zs with worn := true } } = rWearS T i by rw [rWearS, hi]; rfl)
    rw [hE]
    have HI := Lib.hid hi
    have hr := is_range hi
    obtain ⟨m, rfl⟩ : ∃ m : Nat, i = m := ⟨i.toNat, by omega⟩
    have hm : m < T.s.length := by omega
    obtain ⟨x, hx⟩ : ∃ x, T.s[m]? = some x := ⟨_, List.getElem?_eq_getElem hm⟩
    obtain ⟨d0, d1, d2, d3⟩ := h.sec hx
    have f3 := h.rows.frozen (m * 4 + 3)
    have hxm := List.mem_of_getElem? hx
    have H1 := Lib.hid (h.setSec (c := 3) hx (by omega) { x with worn := true } (.bool true) rfl (h.t64 x hxm) (h.n64 x hxm))
    have hk := Lib.hid ((Keep.refl [r, gs] w).setCell (a := ⟨gs, m * 4 + 3, none⟩) (by simp) (.bool true))
    obtain ⟨c0, c1, c2⟩ := h.heads
    rw [Int.toNat_natCast, getD_some hx] at HS
    obtain ⟨n, hn⟩ : ∃ n, n = T.s.length := ⟨_, rfl⟩
    rw [← hn] at c0 hm n2
    have j1 : (m : Int) < (n : Int) := by omega
    have j0 : (0 : Int) ≤ (m : Int) := by omega
    clear h hi hE hr hxm hx hn
    go_enter Try.func44, Try.ntmps44
    go_wp2_with fail
    refine (is_any w r gs T H.out m true HI).mono ?_
    rintro e w' ⟨rfl, rfl⟩
    go_wp2_with fail
    go_ret
    exact RPost.ret HS.out H1.out hk.out

theorem rread_any (w : World) (r gs : Nat) (T : RSt) (h : RefAt w r gs T) (i : Int) :
    Calls Try.prog 39 #[.pointer (some ⟨r, 0, none⟩), .int .i64 i] w (Ret (StrErr (rReadB T i) (rReadE T i)) w) := by
  have n2 := h.n2
  have H := Lib.hid h
  obtain ⟨c0, c1, c2⟩ := h.heads
  cases ho : T.off
  · cases hi : rIs T i
    · have hE : rReadE T i = 1 := by rw [rReadE, ho, hi]; rfl
      have hB : rReadB T i = [] := by rw [rReadB, hE]; rfl
      rw [hE, hB]
      rw [ho] at c1
      have HI := Lib.hid hi
      unfold StrErr
      clear h hi hE hB n2 ho
      go_enter Try.func39, Try.ntmps39
      go_wp2_with fail
      refine (is_any w r gs T H.out i false HI).mono ?_
      rintro e w' ⟨rfl, rfl⟩
      go_wp2_with fail
      go_ret2
      exact Ret.mk
    · have hE : rReadE T i = 0 := by rw [rReadE, ho, hi]; rfl
      have HI := Lib.hid hi
      have hr := is_range hi
      obtain ⟨m, rfl⟩ : ∃ m : Nat, i = m := ⟨i.toNat, by omega⟩
      have hm : m < T.s.length := by omega
      obtain ⟨x, hx⟩ : ∃ x, T.s[m]? = some x := ⟨_, List.getElem?_eq_getElem hm⟩
      obtain ⟨d0, d1, d2, d3⟩ := h.sec hx
      have hB : rReadB T m = if x.dirty then x.next else x.text := by rw [rReadB, hE, if_neg (by simp), Int.toNat_natCast, getD_some hx]
      rw [hE, hB]
      rw [ho] at c1
      obtain ⟨n, hn⟩ : ∃ n, n = T.s.length := ⟨_, rfl⟩
      rw [← hn] at c0 hm n2
      have j1 : (m : Int) < (n : Int) := by omega
      have j0 : (0 : Int) ≤ (m : Int) := by omega
      unfold StrErr
      clear h hi hE hr hx hn ho hB
      cases hd : x.dirty
      · rw [hd] at d2
        go_enter Try.func39, Try.ntmps39
        go_wp2_with fail
        refine (is_any w r gs T H.out m true HI).mono ?_
        rintro e w' ⟨rfl, rfl⟩
        go_wp2_with fail
        go_ret2
        exact Ret.mk
      · rw [hd] at d2
        go_enter Try.func39, Try.ntmps39
        go_wp2_with fail
        refine (is_any w r gs T H.out m true HI).mono ?_
        rintro e w' ⟨rfl, rfl⟩
        go_wp2_with fail
        go_ret2
        exact Ret.mk
  · have hE : rReadE T i = 24 := by rw [rReadE, ho]; rfl
    have hB : rReadB T i = [] := by rw [rReadB, hE]; rfl
    rw [hE, hB]
    rw [ho] at c1
    unfold StrErr
    clear h hE hB n2 ho
    go_enter Try.func39, Try.ntmps39
    go_wp2_with fail
    go_ret2
    exact Ret.mk
end Go.Proofs.Ytibhnjnfifpepaa
