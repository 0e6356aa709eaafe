/- plain, texts, Same, SameTexts: functions that read lists. -/
import Derived.Test.YtjjdfccbkohlcaaDoorScan
import Derived.Test.YtjjdfccbkohlcaaDoorEq
namespace Go.Proofs.YtjjdfccbkohlcaaDoor
open Go.RowKit

theorem tokCells_at {ts : List Lx.Tok} {k : Nat} (h : k < ts.length) : (tokCells ts)[k * 2]? = some (str ts[k].text) ∧ (tokCells ts)[k * 2 + 1]? = some (str ts[k].before) := by
  induction ts generalizing k with
  | nil => simp at h
  | cons t r ih =>
    match k, h with
    | 0, _ => exact ⟨rfl, rfl⟩
    | k + 1, h =>
      have := ih (k := k) (by simpa using h)
      constructor
      · rw [show (k + 1) * 2 = k * 2 + 1 + 1 from by omega]; simpa [tokCells] using this.1
      · rw [show (k + 1) * 2 + 1 = k * 2 + 1 + 1 + 1 from by omega]; simpa [tokCells] using this.2

/-- element k of a slice of tokens -/
theorem Rd.tok {w : World} {B : Nat} {A : Option Addr} {n : Nat} {ts : List Lx.Tok} (h : Rd w B 2 A n (tokCells ts)) (hn : ts.length = n) {k : Nat} (hk : k < n) :
    ∃ b off, A = some ⟨b, off, none⟩ ∧ b < B ∧ w.cell? ⟨b, off + k * 2, none⟩ = some (str (ts[k]'(by omega)).text) ∧ w.cell? ⟨b, off + k * 2 + 1, none⟩ = some (str (ts[k]'(by omega)).before) := by
  obtain ⟨b, off, e, hb, hc⟩ := h.2 (by omega)
  obtain ⟨h1, h2⟩ := tokCells_at (k := k) (ts := ts) (by omega)
  exact ⟨b, off, e, hb, hc _ _ h1, by rw [Nat.add_assoc]; exact hc _ _ h2⟩

theorem arr_eq (a b : Lx.Bs) : ((⟨a.toArray⟩ : ByteArray).toList == (⟨b.toArray⟩ : ByteArray).toList) = (a == b) := by rw [Lib.toList_data, Lib.toList_data]
theorem tok_beq (x y : Lx.Tok) : ((x.text == y.text) && (x.before == y.before)) = decide (x = y) := by
  obtain ⟨a, b⟩ := x
  obtain ⟨c, d⟩ := y
  rw [Bool.eq_iff_iff]; simp
theorem take_eq_succ {α : Type} {xs ys : List α} {k : Nat} (h1 : k < xs.length) (h2 : k < ys.length) (he : xs.take k = ys.take k) (hx : xs[k] = ys[k]) : xs.take (k + 1) = ys.take (k + 1) := by
  rw [List.take_succ_eq_append_getElem h1, List.take_succ_eq_append_getElem h2, he, hx]

set_option maxRecDepth 100000 in
theorem same_any (A1 A2 : Option Addr) (n1 n2 c1 c2 : Nat) (xs ys : List Lx.Tok) (w : World) (h1 : Rd w w.heap.size 2 A1 n1 (tokCells xs)) (h2 : Rd w w.heap.size 2 A2 n2 (tokCells ys)) (e1 : xs.length = n1) (e2 : ys.length = n2)
    (m1 : n1 ≤ 9223372036854775807) (b : Bool) (hb : Hid (decide (xs = ys) = b)) :
    Calls Tryd.prog 13 #[.slice A1 n1 c1, .slice A2 n2 c2] w (RetB (.bool b) w) := by
  have E1 := Lib.hid e1
  have E2 := Lib.hid e2
  clear e1 e2
  have gt := guard_tok
  by_cases hne : n1 = n2
  · subst hne
    go_enter Tryd.func13, Tryd.ntmps13
    go_wp2_with fail
    go_loopw [5] (fun x wr => ∃ k : Nat, k ≤ n1 ∧ x = .int .i64 k ∧ xs.take k = ys.take k ∧ Below w.heap.size w wr) (fun x _ => n1 - (intOf x).toNat)
    case atStart => exact ⟨0, by omega, rfl, by simp, Below.refl _ _⟩
    case round =>
      obtain ⟨k, hk, rfl, he, hbl⟩ := hrel
      have He := Lib.hid he
      clear he
      by_cases hlt : k < n1
      · obtain ⟨b1, o1, rfl, hb1, x1, x2⟩ := (h1.below hbl).tok E1.out hlt
        obtain ⟨b2, o2, rfl, hb2, y1, y2⟩ := (h2.below hbl).tok E2.out hlt
        unfold str at x1 x2 y1 y2
        have l1 : k < xs.length := by have := E1.out; omega
        have l2 : k < ys.length := by have := E2.out; omega
        cases hx : decide (xs[k] = ys[k])
        · have nt : ∀ w, (binOp .neq 56 (.agg #[.string ⟨xs[k].text.toArray⟩, .string ⟨xs[k].before.toArray⟩]) (.agg #[.string ⟨ys[k].text.toArray⟩, .string ⟨ys[k].before.toArray⟩])).run Tryd.prog w = .ok (.bool true) w := fun w => by rw [neq_tok, arr_eq, arr_eq, tok_beq, hx]; rfl
          have Hx := Lib.hid hx
          clear hx
          go_wp2_with fail
          go_quiet (fail)
          go_wp2_with fail
          go_ret
          refine RetB.bool ?_ (below_drewN hbl _)
          rw [← hb.out]
          simp only [Bool.false_eq, decide_eq_false_iff_not]
          intro e
          subst e
          exact absurd rfl (of_decide_eq_false Hx.out)
        · have nt : ∀ w, (binOp .neq 56 (.agg #[.string ⟨xs[k].text.toArray⟩, .string ⟨xs[k].before.toArray⟩]) (.agg #[.string ⟨ys[k].text.toArray⟩, .string ⟨ys[k].before.toArray⟩])).run Tryd.prog w = .ok (.bool false) w := fun w => by rw [neq_tok, arr_eq, arr_eq, tok_beq, hx]; rfl
          have Hx := Lib.hid hx
          clear hx
          go_wp2_with fail
          go_quiet (fail)
          go_wp2_with fail
          go_roundw
          case rel => exact ⟨k + 1, by omega, by go_num, take_eq_succ l1 l2 He.out (of_decide_eq_true Hx.out), below_drewN hbl _⟩
          case measure => simp [intOf]; omega
      · go_wp2_with fail
        go_ret
        refine RetB.bool ?_ hbl
        rw [← hb.out]
        obtain rfl : k = n1 := by omega
        have := He.out
        rw [List.take_of_length_le (by have := E1.out; omega), List.take_of_length_le (by have := E2.out; omega)] at this
        simp [this]
  · go_enter Tryd.func13, Tryd.ntmps13
    go_wp2_with fail
    go_ret
    refine RetB.bool ?_ (Below.refl _ _)
    rw [← hb.out]
    simp only [Bool.false_eq, decide_eq_false_iff_not]
    intro e
    subst e
    exact hne (E1.out.symm.trans E2.out)

def strCells (ss : List Lx.Bs) : List Value := ss.map str
theorem strCells_at {ss : List Lx.Bs} {k : Nat} (h : k < ss.length) : (strCells ss)[k]? = some (str ss[k]) := by simp [strCells, h]
/-- element k of a slice of strings -/
theorem Rd.str {w : World} {B : Nat} {A : Option Addr} {n : Nat} {ss : List Lx.Bs} (h : Rd w B 1 A n (strCells ss)) (hn : ss.length = n) {k : Nat} (hk : k < n) :
    ∃ b off, A = some ⟨b, off, none⟩ ∧ b < B ∧ w.cell? ⟨b, off + k, none⟩ = some (.string ⟨(ss[k]'(by omega)).toArray⟩) := by
  obtain ⟨b, off, e, hb, hc⟩ := h.2 (by omega)
  exact ⟨b, off, e, hb, hc _ _ (strCells_at (by omega))⟩

set_option maxRecDepth 100000 in
theorem sameTexts_any (A1 A2 : Option Addr) (n1 n2 c1 c2 : Nat) (xs ys : List Lx.Bs) (w : World) (h1 : Rd w w.heap.size 1 A1 n1 (strCells xs)) (h2 : Rd w w.heap.size 1 A2 n2 (strCells ys)) (e1 : xs.length = n1) (e2 : ys.length = n2)
    (m1 : n1 ≤ 9223372036854775807) (b : Bool) (hb : Hid (decide (xs = ys) = b)) :
    Calls Tryd.prog 27 #[.slice A1 n1 c1, .slice A2 n2 c2] w (RetB (.bool b) w) := by
  have E1 := Lib.hid e1
  have E2 := Lib.hid e2
  clear e1 e2
  by_cases hne : n1 = n2
  · subst hne
    go_enter Tryd.func27, Tryd.ntmps27
    go_wp2_with fail
    go_loopw [5] (fun x wr => ∃ k : Nat, k ≤ n1 ∧ x = .int .i64 k ∧ xs.take k = ys.take k ∧ Below w.heap.size w wr) (fun x _ => n1 - (intOf x).toNat)
    case atStart => exact ⟨0, by omega, rfl, by simp, Below.refl _ _⟩
    case round =>
      obtain ⟨k, hk, rfl, he, hbl⟩ := hrel
      have Ht := Lib.hid he
      clear he
      by_cases hlt : k < n1
      · obtain ⟨b1, o1, rfl, hb1, x1⟩ := (h1.below hbl).str E1.out hlt
        obtain ⟨b2, o2, rfl, hb2, y1⟩ := (h2.below hbl).str E2.out hlt
        have l1 : k < xs.length := by have := E1.out; omega
        have l2 : k < ys.length := by have := E2.out; omega
        obtain ⟨p, hp⟩ : ∃ p : ByteArray, p = ⟨xs[k].toArray⟩ := ⟨_, rfl⟩
        obtain ⟨q, hq⟩ : ∃ q : ByteArray, q = ⟨ys[k].toArray⟩ := ⟨_, rfl⟩
        have He : Hid ((p.toList == q.toList) = (xs[k] == ys[k])) := Lib.hid (by rw [hp, hq, arr_eq])
        rw [← hp] at x1
        rw [← hq] at y1
        clear hp hq
        cases hx : p.toList == q.toList
        · have Hx := Lib.hid (He.out.symm.trans hx)
          go_wp2_with fail
          go_quiet (fail)
          go_wp2_with fail
          go_ret
          refine RetB.bool ?_ (below_drewN hbl _)
          rw [← hb.out]
          simp only [Bool.false_eq, decide_eq_false_iff_not]
          intro e
          subst e
          exact absurd rfl (beq_eq_false_iff_ne.1 Hx.out)
        · have Hx := Lib.hid (He.out.symm.trans hx)
          go_wp2_with fail
          go_quiet (fail)
          go_wp2_with fail
          go_roundw
          case rel => exact ⟨k + 1, by omega, by go_num, take_eq_succ l1 l2 Ht.out (beq_iff_eq.1 Hx.out), below_drewN hbl _⟩
          case measure => simp [intOf]; omega
      · go_wp2_with fail
        go_ret
        refine RetB.bool ?_ hbl
        rw [← hb.out]
        obtain rfl : k = n1 := by omega
        have := Ht.out
        rw [List.take_of_length_le (by have := E1.out; omega), List.take_of_length_le (by have := E2.out; omega)] at this
        simp [this]
  · go_enter Tryd.func27, Tryd.ntmps27
    go_wp2_with fail
    go_ret
    refine RetB.bool ?_ (Below.refl _ _)
    rw [← hb.out]
    simp only [Bool.false_eq, decide_eq_false_iff_not]
    intro e
    subst e
    exact hne (E1.out.symm.trans E2.out)
end Go.Proofs.YtjjdfccbkohlcaaDoor
