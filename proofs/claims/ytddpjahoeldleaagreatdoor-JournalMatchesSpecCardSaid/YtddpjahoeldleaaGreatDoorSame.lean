/- SameTexts and SameInts. -/
import Derived.Test.YtddpjahoeldleaaGreatDoorBase
namespace Go.Proofs.YtddpjahoeldleaaGreatDoor
open Go.RowKit

set_option maxRecDepth 100000 in
theorem sameTexts_any (A1 A2 : Option Addr) (n1 n2 c1 c2 : Nat) (xs ys : List Bs) (w : World) (h1 : Rd w w.heap.size 1 A1 n1 (strCells xs)) (h2 : Rd w w.heap.size 1 A2 n2 (strCells ys)) (e1 : xs.length = n1) (e2 : ys.length = n2)
    (m1 : n1 ≤ 9223372036854775807) (b : Bool) (hb : Hid (decide (xs = ys) = b)) :
    Calls Tryz.prog 10 #[.slice A1 n1 c1, .slice A2 n2 c2] w (RetB (.bool b) w) := by
  have E1 := Lib.hid e1
  have E2 := Lib.hid e2
  clear e1 e2
  by_cases hne : n1 = n2
  · subst hne
    go_enter Tryz.func10, Tryz.ntmps10
    go_wp2_with fail
    go_loopw [5] (fun x wr => ∃ k : Nat, k ≤ n1 ∧ x = .int .i64 k ∧ xs.take k = ys.take k ∧ Below w.heap.size w wr) (fun x _ => n1 - (intOf x).toNat)
    case atStart => exact ⟨0, by omega, rfl, by simp, Below.refl _ _⟩
    case round =>
      obtain ⟨k, hk, rfl, he, hbl⟩ := hrel
      have Ht := Lib.hid he
      clear he
      by_cases hlt : k < n1
      · obtain ⟨b1, o1, rfl, hb1, x1⟩ := (h1.below hbl).str E1.out hlt
        obtain ⟨b2, o2, rfl, hb2, y1⟩ := (h2.below hbl).str E2.out hlt
        have l1 : k < xs.length := by have := E1.out; omega
        have l2 : k < ys.length := by have := E2.out; omega
        obtain ⟨p, hp⟩ : ∃ p : ByteArray, p = ⟨xs[k].toArray⟩ := ⟨_, rfl⟩
        obtain ⟨q, hq⟩ : ∃ q : ByteArray, q = ⟨ys[k].toArray⟩ := ⟨_, rfl⟩
        have He : Hid ((p.toList == q.toList) = (xs[k] == ys[k])) := Lib.hid (by rw [hp, hq, arr_eq])
        rw [← hp] at x1
        rw [← hq] at y1
        clear hp hq
        cases hx : p.toList == q.toList
        · have Hx := Lib.hid (He.out.symm.trans hx)
          go_wp2_with fail
          go_quiet (fail)
          go_wp2_with fail
          go_ret
          refine RetB.bool ?_ (below_drewN hbl _)
          rw [← hb.out]
          simp only [Bool.false_eq, decide_eq_false_iff_not]
          intro e
          subst e
          exact absurd rfl (beq_eq_false_iff_ne.1 Hx.out)
        · have Hx := Lib.hid (He.out.symm.trans hx)
          go_wp2_with fail
          go_quiet (fail)
          go_wp2_with fail
          go_roundw
          case rel => exact ⟨k + 1, by omega, by go_num, take_eq_succ l1 l2 Ht.out (beq_iff_eq.1 Hx.out), below_drewN hbl _⟩
          case measure => simp [intOf]; omega
      · go_wp2_with fail
        go_ret
        refine RetB.bool ?_ hbl
        rw [← hb.out]
        obtain rfl : k = n1 := by omega
        have := Ht.out
        rw [List.take_of_length_le (by have := E1.out; omega), List.take_of_length_le (by have := E2.out; omega)] at this
        simp [this]
  · go_enter Tryz.func10, Tryz.ntmps10
    go_wp2_with fail
    go_ret
    refine RetB.bool ?_ (Below.refl _ _)
    rw [← hb.out]
    simp only [Bool.false_eq, decide_eq_false_iff_not]
    intro e
    subst e
    exact hne (E1.out.symm.trans E2.out)
set_option maxRecDepth 100000 in
theorem sameInts_any (A1 A2 : Option Addr) (n1 n2 c1 c2 : Nat) (xs ys : List Int) (w : World) (h1 : Rd w w.heap.size 1 A1 n1 (intCells xs)) (h2 : Rd w w.heap.size 1 A2 n2 (intCells ys)) (e : xs = ys) (m1 : n1 ≤ 9223372036854775807) :
    Calls Tryz.prog 36 #[.slice A1 n1 c1, .slice A2 n2 c2] w (RetB (.bool true) w) := by
  subst e
  have l1 : xs.length = n1 := by have := h1.1; simpa [intCells] using this
  have l2 : xs.length = n2 := by have := h2.1; simpa [intCells] using this
  obtain rfl : n1 = n2 := by omega
  have L1 := Lib.hid l1
  clear l1 l2
  go_enter Tryz.func36, Tryz.ntmps36
  go_wp2_with fail
  go_loopw [5] (fun x wr => ∃ k : Nat, k ≤ n1 ∧ x = .int .i64 k ∧ Below w.heap.size w wr) (fun x _ => n1 - (intOf x).toNat)
  case atStart => exact ⟨0, by omega, rfl, Below.refl _ _⟩
  case round =>
    obtain ⟨k, hk, rfl, hbl⟩ := hrel
    by_cases hlt : k < n1
    · obtain ⟨b1, o1, u1, rfl, _, hu1, x1⟩ := (h1.below hbl).at1 hlt
      obtain ⟨b2, o2, u2, rfl, _, hu2, x2⟩ := (h2.below hbl).at1 hlt
      rw [intCells, List.getElem?_map, List.getElem?_eq_getElem (by have := L1.out; omega)] at hu1 hu2
      obtain rfl := (Option.some.inj hu1).symm
      obtain rfl := (Option.some.inj hu2).symm
      have j1 : (k : Int) < (n1 : Int) := by omega
      have j0 : (0 : Int) ≤ (k : Int) := by omega
      generalize xs[k]'(by have := L1.out; omega) = z at *
      clear hu1 hu2
      go_wp2_with fail
      go_quiet (fail)
      go_wp2_with fail
      go_roundw
      case rel => exact ⟨k + 1, by omega, by go_num, below_drewN hbl _⟩
      case measure => simp [intOf]; omega
    · obtain rfl : k = n1 := by omega
      go_wp2_with fail
      go_ret
      exact ⟨rfl, hbl⟩
end Go.Proofs.YtddpjahoeldleaaGreatDoor
