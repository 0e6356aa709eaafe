/- Damaged: the numbers that are not there. -/
import Derived.Test.YtddpjahoeldleaaDoorJMem
import Derived.Test.YtddpjahoeldleaaDoorPack
import Derived.Test.YtddpjahoeldleaaDoorDSettle
namespace Go.Proofs.YtddpjahoeldleaaDoor
open Go.RowKit Go.Maps

/-- what a map of numbers to booleans says -/
def inM (D : Dk.Dt) (i : Int) : Bool := Dk.wornB ⟨[], .map [], D, false, 0, 0, []⟩ i
theorem inM_empty (i : Int) : inM (.map []) i = false := rfl
theorem inM_put {D : Dk.Dt} (hD : IsMap D) (i j : Int) : inM (D.put (Dk.kI i) (.lit (.bool true))) j = (decide (i = j) || inM D j) := by
  by_cases h : i = j
  · subst h
    rw [decide_eq_true rfl]
    show (match (D.put (Dk.kI i) (.lit (.bool true))).atKey (Dk.kI i) (.lit (.bool false)) with | .lit (.bool b) => b | _ => false) = _
    rw [atKey_put_same hD (show WideAt.IsKeyLit (Dk.kI i) from trivial)]
    rfl
  · rw [decide_eq_false h]
    show (match (D.put (Dk.kI i) (.lit (.bool true))).atKey (Dk.kI j) (.lit (.bool false)) with | .lit (.bool b) => b | _ => false) = _
    rw [atKey_put_other (fun e => h (by unfold Dk.kI at e; injection e with _ e; exact e.symm))]
    rfl
theorem snoc_mem (l : List Int) (z y : Int) : (decide (z = y) || decide (y ∈ l)) = decide (y ∈ l ++ [z]) := by
  by_cases h1 : z = y
  · subst h1; simp
  · have h2 : ¬ y = z := fun e => h1 e.symm
    simp [h1, h2]
/-- the numbers from 1 to m that are not there -/
def lostL (nums : List Int) (m : Nat) : List Int := ((List.range m).map fun k : Nat => (k : Int) + 1).filter fun z => !decide (z ∈ nums)
theorem lost_succ (nums : List Int) (m : Nat) : lostL nums (m + 1) = if ((m : Int) + 1) ∈ nums then lostL nums m else lostL nums m ++ [(m : Int) + 1] := by
  unfold lostL
  rw [List.range_succ, List.map_append, List.filter_append]
  by_cases h : ((m : Int) + 1) ∈ nums
  · rw [if_pos h]; simp [h]
  · rw [if_neg h]; simp [h]
theorem lost_len (nums : List Int) (m : Nat) : (lostL nums m).length ≤ m := by
  unfold lostL
  refine Nat.le_trans (List.length_filter_le _ _) ?_
  simp

set_option maxHeartbeats 2000000 in
set_option maxRecDepth 100000 in
theorem damaged_any (w : World) (j g : Nat) (vn vb vt : Value) (J : JV) (h : JAt w j g vn vb vt J) (hn : J.nums.length ≤ 90000) (hb : ∀ z ∈ J.nums, 0 ≤ z ∧ z ≤ 90000) (M : Nat) (hM : J.next = (M : Int) + 1) (hM2 : M ≤ 90000) :
    Calls Tryd.prog 25 #[.pointer (some ⟨j, 0, none⟩)] w (OwnPost w.heap.size 3 1 (lostL J.nums M).length (intCells (lostL J.nums M)) w) := by
  obtain ⟨_, c1, _, _, c4, _, _⟩ := h.cells
  rw [hM] at c4
  obtain ⟨An, cn, rfl, _⟩ := own_slice h.nums
  obtain ⟨n, hnl⟩ : ∃ n, n = J.nums.length := ⟨_, rfl⟩
  obtain ⟨zs, hzs⟩ : ∃ zs, zs = J.nums := ⟨_, rfl⟩
  have HR := Lib.hid (Rd.of_own h.nums)
  rw [← hnl, ← hzs] at HR
  have HZL := Lib.hid (show zs.length = n by rw [hzs, hnl])
  rw [← hnl] at c1 hn
  rw [← hzs]
  have HZB := Lib.hid (show ∀ z ∈ zs, 0 ≤ z ∧ z ≤ 90000 by rw [hzs]; exact hb)
  have C4 := Lib.hid c4
  have hjl := h.head.lt
  have hmm := @run_makeMap Tryd.prog
  obtain ⟨i0, hi, hz0, hz1, hz2⟩ := info_parts info3
  clear h hnl hzs hM c4 hb
  go_enter Tryd.func25, Tryd.ntmps25
  go_wp2_with fail
  obtain ⟨w1, hw1⟩ : ∃ w1, w1 = w.alloc (.map #[] 0) := ⟨_, rfl⟩
  have M1 := Lib.hid (show w1.ownsMap Tryd.prog 3 (plainElem Tryd.prog 4) w.heap.size 0 (.map []) from Dk.ownsMap_empty (by rw [hw1]; exact heap_alloc_new w _))
  have B1 := Lib.hid (show Below w.heap.size w w1 by rw [hw1]; exact below_new _ _)
  have S1 := Lib.hid (show w1.heap.size = w.heap.size + 1 by rw [hw1, World.size_alloc])
  rw [← hw1]
  clear hw1 hmm c1
  go_loopw [14] (fun x wr => ∃ (k : Nat) (D : Dk.Dt), k ≤ n ∧ x = .int .i64 k ∧ Hid (wr.ownsMap Tryd.prog 3 (plainElem Tryd.prog 4) w.heap.size k D) ∧ Hid (∀ z, inM D z = decide (z ∈ zs.take k)) ∧ Hid (Below w.heap.size w wr)) (fun x _ => n - (intOf x).toNat)
  case atStart => exact ⟨0, .map [], by omega, rfl, M1, Lib.hid (fun z => by rw [inM_empty]; simp), B1⟩
  case round =>
    obtain ⟨k, D, hk, rfl, MD, HD, B⟩ := hrel
    by_cases hlt : k < n
    · obtain ⟨b, off, rfl, hbl, hcell⟩ := (HR.out.below B.out).int hlt
      obtain ⟨z, hz⟩ : ∃ z, z = zs.getD k 0 := ⟨_, rfl⟩
      rw [← hz] at hcell
      have HTK := Lib.hid (show zs.take (k + 1) = zs.take k ++ [z] by
        have hkl : k < zs.length := by have := HZL.out; omega
        rw [hz, List.getD_eq_getElem?_getD, List.getElem?_eq_getElem hkl, Option.getD_some, List.take_succ_eq_append_getElem hkl])
      have hzb := HZB.out z (by
        have hkl : k < zs.length := by have := HZL.out; omega
        rw [hz, List.getD_eq_getElem?_getD, List.getElem?_eq_getElem hkl, Option.getD_some]
        exact List.getElem_mem hkl)
      have j1 : (k : Int) < (n : Int) := by omega
      have j0 : (0 : Int) ≤ (k : Int) := by omega
      obtain ⟨w5, hr, hm, ht⟩ := MD.out.store Dk.law3 Tryd.underlying70 (by unfold maxLen; omega) (Dk.key_i (i := z) (by omega) (by omega)) (plainElem_bool Tryd.underlying4 true)
      have HM5 := Lib.hid hm
      have B5 := Lib.hid (B.out.trans (((Keep.refl [w.heap.size] wr).turned ht (by simp)).below B.out.size (fun i hi => by rw [List.mem_singleton] at hi; omega)))
      have HI5 := Lib.hid (fun y => inM_put MD.out.isMap z y)
      clear hz hm ht
      go_wp2_with fail
      go_roundw
      case rel => exact ⟨k + 1, _, by omega, by go_num, HM5, Lib.hid (fun y => by rw [HI5.out, HD.out, HTK.out]; exact snoc_mem _ z y), B5⟩
      case measure => simp [intOf]; omega
    · obtain rfl : k = n := by omega
      have HD := Lib.hid (show ∀ y, inM D y = decide (y ∈ zs) by
        intro y
        rw [HD.out, List.take_of_length_le (by rw [HZL.out]; exact Nat.le_refl _)])
      clear HR HZL HZB
      go_wp2_with fail
      go_loopw [6, 7] (fun o x wr => ∃ (m : Nat) (v : Value), m ≤ M ∧ x = .int .i64 ((m : Int) + 1) ∧ v = o ∧ Hid (wr.ownsRow (w.heap.size + 1) 3 1 v (lostL zs m).length (intCells (lostL zs m))) ∧ Hid (wr.ownsMap Tryd.prog 3 (plainElem Tryd.prog 4) w.heap.size k D) ∧ Hid (Below w.heap.size w wr)) (fun _ x _ => M + 1 - (intOf x).toNat)
      case atStart => exact ⟨0, .slice none 0 0, by omega, rfl, rfl, Lib.hid (World.ownsRow_nil _ _ _ _), MD, B⟩
      case round =>
        obtain ⟨m, v, hm, rfl, rfl, R, MD, B⟩ := hrel
        have c4 := (B.out.cell (p := ⟨j, 4, none⟩) hjl).trans C4.out
        by_cases hlt : m < M
        · have j1 : (m : Int) + 1 < (M : Int) + 1 := by omega
          have hlk := Dk.look_worn (S := ⟨[], .map [], D, false, 0, 0, []⟩) MD.out (i := (m : Int) + 1) (by omega) (by omega)
          obtain ⟨b, hb⟩ : ∃ b, b = inM D ((m : Int) + 1) := ⟨_, rfl⟩
          rw [show Dk.wornB ⟨[], .map [], D, false, 0, 0, []⟩ ((m : Int) + 1) = b from hb.symm] at hlk
          have HB := Lib.hid (show decide (((m : Int) + 1) ∈ zs) = b by rw [← HD.out, hb])
          clear hb
          cases b
          · have HL := Lib.hid (show lostL zs (m + 1) = lostL zs m ++ [(m : Int) + 1] by rw [lost_succ, if_neg (of_decide_eq_false HB.out)])
            have hsz := lost_len zs m
            go_wp2_with (at_builtin; refine wpList_append_own _ rfl _ _ 44 rfl (w.heap.size + 1) 3 i0 _ 1 8 Tryd.underlying44 hi hz0 hz1 hz2 rfl (by decide) v _ _ rfl (R.out.alloc _) ⟨wr.heap.size, 0, none⟩ 1 1 [.int .i64 ((m : Int) + 1)] rfl rfl (cells_one _ _ _) (by simp [Value.oneCell']) (by unfold maxLen; omega) (by omega) (by have := B.out.size; rw [World.size_alloc]; omega) ?_)
            intro v6 w6 hown6 hgrow6 _
            have O6 := Lib.hid (show w6.ownsRow (w.heap.size + 1) 3 1 v6 (lostL zs (m + 1)).length (intCells (lostL zs (m + 1))) by rw [HL.out, List.length_append, List.length_singleton, intCells_snoc]; exact hown6)
            have hbw : Below wr.heap.size wr (wr.alloc (.cells #[.int .i64 ((m : Int) + 1)] 3)) := below_new _ _
            have K6 : Keep v.ownBlock.toList wr w6 := ⟨hgrow6.os.trans hbw.os, hgrow6.tape.trans hbw.tape, hgrow6.output.trans hbw.output, Nat.le_trans hbw.size hgrow6.size, fun i hi hF => (hgrow6.block i (Nat.lt_of_lt_of_le hi hbw.size) (fun e => hF (by rw [← e]; simp))).trans (hbw.block i hi)⟩
            have B6 := Lib.hid (B.out.trans (K6.below B.out.size (fun i hi => by have := (R.out.lt i (by simpa using hi)).1; omega)))
            have M6 := Lib.hid (Dk.ownsMap_block MD.out (K6.block w.heap.size MD.out.lt (fun hi => by have := (R.out.lt w.heap.size (by simpa using hi)).1; omega)))
            obtain ⟨A6, c6, rfl, -⟩ := own_slice hown6
            clear hown6 hgrow6 hbw K6
            go_wp2_with fail
            go_roundw
            case rel => exact ⟨m + 1, _, by omega, by go_num, rfl, O6, M6, B6⟩
            case measure => simp [intOf]; omega
          · have HL := Lib.hid (show lostL zs (m + 1) = lostL zs m by rw [lost_succ, if_pos (of_decide_eq_true HB.out)])
            go_wp2_with fail
            go_roundw
            case rel => exact ⟨m + 1, v, by omega, by go_num, rfl, Lib.hid (by rw [HL.out]; exact R.out), MD, B⟩
            case measure => simp [intOf]; omega
        · obtain rfl : m = M := by omega
          go_wp2_with fail
          go_ret
          obtain ⟨A, c, rfl, _⟩ := own_slice R.out
          exact ⟨_, rfl, own_base R.out (by omega), B.out⟩
end Go.Proofs.YtddpjahoeldleaaDoor
