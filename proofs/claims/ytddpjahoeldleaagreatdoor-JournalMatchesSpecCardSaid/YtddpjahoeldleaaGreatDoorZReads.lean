/- The walk of JournalReadsAnything. -/
import Derived.Test.YtddpjahoeldleaaGreatDoorZPair
import Derived.Test.YtddpjahoeldleaaGreatDoorJSanity
namespace Go.Proofs.YtddpjahoeldleaaGreatDoor
open Go.RowKit Go.Maps
open Dk (RSt RefAt Sim RPost rWriteS rWriteE)

/-- a disk on which no failure is set -/
def Still (n : Nat) (T : RSt) : Prop := T.off = false ∧ T.left = -1 ∧ T.s.length = n
theorem Still.write {n : Nat} {T : RSt} (h : Still n T) (i : Int) (b : Bs) : Still n (rWriteS T i b) := by
  obtain ⟨h1, h2, h3⟩ := h
  have he : Dk.rStepE T = 0 := by unfold Dk.rStepE; rw [if_neg (by omega)]
  have hs : Dk.rStepS T = T := by unfold Dk.rStepS; rw [if_neg (by omega), if_neg (by omega)]
  unfold rWriteS
  split
  · exact ⟨h1, h2, h3⟩
  · rw [if_neg (by omega), hs]
    exact ⟨h1, h2, by show (T.s.set _ _).length = n; rw [List.length_set]; exact h3⟩
theorem still_check {n : Nat} {T : RSt} {S : Dk.St} (h : Still n T) (hs : Sim S T) : Dk.checkE S 0 = 0 := by
  rw [hs.check0, h.1]; rfl
set_option maxHeartbeats 8000000 in
set_option maxRecDepth 100000 in
theorem law_reads (A : Option Addr) (n c : Nat) (l : List Bs) (w : World) (hl : Rd w w.heap.size 1 A n (strCells l)) (hn : n ≤ 9223372036854775807) (hk : Consts w) (hr : RConsts w) :
    Calls Tryz.prog 5 #[.slice A n c] w (RetB (.bool true) w) := by
  have HK := Lib.hid hk
  have HKR := Lib.hid hr
  have HR := Lib.hid hl
  have HLN := Lib.hid (show l.length = n by have := hl.1; simpa [strCells] using this)
  clear hk hr hl
  by_cases g1 : 40 < n
  · have d1 : (40 : Int) < (n : Int) := by omega
    go_enter Tryz.func5, Tryz.ntmps5
    go_wp2_with fail
    refine (sanity_any _ HK.out).mono ?_
    rintro e w' ⟨rfl, b⟩
    have B := Lib.hid b
    clear b
    go_wp2_with fail
    go_ret
    exact ⟨rfl, B.out⟩
  have d1 : ¬ (40 : Int) < (n : Int) := by omega
  rcases Nat.eq_zero_or_pos n with rfl | g2
  · go_enter Tryz.func5, Tryz.ntmps5
    go_wp2_with fail
    refine (sanity_any _ HK.out).mono ?_
    rintro e w' ⟨rfl, b⟩
    have B := Lib.hid b
    clear b
    go_wp2_with fail
    go_ret
    exact ⟨rfl, B.out⟩
  have d2 : ((n : Int) == 0) = false := beq_eq_false_iff_ne.2 (by omega)
  go_enter Tryz.func5, Tryz.ntmps5
  go_wp2_with fail
  refine (Dk.new_any w n g2 (by omega)).mono ?_
  rintro e w1 hp
  obtain ⟨g, gb, gp, gw, rfl, d1_⟩ := dd_new hp
  have D1 := Lib.hid d1_
  clear d1_ hp
  go_wp2_with fail
  refine (Dk.newR_any w1 n g2 (by omega)).mono ?_
  rintro e w2 ⟨r, gs, cap, ext, rfl, hR, hb2, q5, q6⟩
  have P2 := Lib.hid (pair_new D1.out hR hb2 q5 q6)
  have S2 := Lib.hid (Dk.sim_new n cap ext g2)
  have T2 := Lib.hid (show Still n (Dk.newR n cap ext) from ⟨rfl, rfl, by show (List.replicate n Dk.zSec).length = n; simp⟩)
  clear hR hb2 q5 q6 D1
  go_wp2_with fail
  go_loopw [42] (fun x wr => ∃ (k : Nat) (S : Dk.St) (T : RSt), k ≤ n ∧ x = .int .i64 k ∧ Hid (Pair w wr g gb gp gw k r gs S T) ∧ Hid (Sim S T) ∧ Hid (Still n T)) (fun x _ => n - (intOf x).toNat)
  case atStart => exact ⟨0, _, _, by omega, rfl, P2, S2, T2⟩
  case round =>
    obtain ⟨k, S, T, hk, rfl, P, SM, ST⟩ := hrel
    by_cases hlt : k < n
    · obtain ⟨b1, o1, rfl, _, hc1⟩ := (HR.out.below P.out.dd.below).str HLN.out hlt
      obtain ⟨s, hs⟩ : ∃ s : ByteArray, s = ⟨(l[k]'(by rw [HLN.out]; exact hlt)).toArray⟩ := ⟨_, rfl⟩
      rw [← hs] at hc1
      clear hs
      have j1 : (k : Int) < (n : Int) := by omega
      have j0 : (0 : Int) ≤ (k : Int) := by omega
      obtain ⟨E, hE⟩ : ∃ E, E = rWriteE T (k : Int) s.data.toList := ⟨_, rfl⟩
      have HE := Lib.hid ((SM.out.writeE (k : Int) s.data.toList).trans hE.symm)
      have HE2 := Lib.hid hE.symm
      clear hE
      go_wp2_with fail
      refine (Dk.write_all wr g gb gp gw k S P.out.dd.disk (by omega) (k : Int) (by omega) (by omega) s).mono ?_
      rw [HE.out]
      rintro e w3 hp
      obtain ⟨rfl, p3⟩ := P.out.disk hp (SM.out.write (k : Int) s.data.toList).pendOK
      have P3 := Lib.hid p3
      clear p3 hp
      go_wp2_with fail
      refine (Dk.rwrite_all w3 r gs T P3.out.rf (k : Int) s).mono ?_
      rw [HE2.out]
      rintro e w4 hp
      obtain ⟨rfl, p4⟩ := P3.out.rdisk hp
      have P4 := Lib.hid p4
      have S4 := Lib.hid (SM.out.write (k : Int) s.data.toList)
      have T4 := Lib.hid (ST.out.write (k : Int) s.data.toList)
      clear p4 hp
      go_wp2_with fail
      go_roundw
      case rel => exact ⟨k + 1, _, _, by omega, by go_num, P4, S4, T4⟩
      case measure => simp [intOf]; omega
    · obtain rfl : k = n := by omega
      have HC := Lib.hid (still_check ST.out SM.out)
      have HSO := Lib.hid (sim_open SM.out)
      have HF := Lib.hid (fair_open (c := 5000) (T := T) (by have := ST.out.2.2; omega) (by have := ST.out.2.2; omega))
      go_wp2_with fail
      refine (open_any wr g gb gp gw _ S P.out.dd.disk (HK.out.below P.out.dd.below)).mono ?_
      rintro e w5 hp
      obtain ⟨j, vn, vb, vt, rfl, j5, r5, a5⟩ := P.out.open_ hp HC.out
      have J5 := Lib.hid j5
      have R5 := Lib.hid r5
      have A5 := Lib.hid a5
      clear j5 r5 a5 hp
      go_wp2_with fail
      refine (ropen_any w5 r gs T R5.out (HKR.out.below J5.out.dd.below)).mono ?_
      rintro e w6 hp
      obtain ⟨q, un, ut, ub, rfl, b6⟩ := both_open J5.out R5.out P.out.far A5.out hp ST.out.1 HSO.out.symm
      have B6 := Lib.hid b6
      clear b6 hp J5 R5 A5
      go_wp2_with fail
      refine (sanity_any w6 (HK.out.below B6.out.jd.dd.below)).mono ?_
      rintro e w7 ⟨rfl, b7⟩
      have B7 := Lib.hid (B6.out.go b7)
      clear b7
      go_wp2_with fail
      refine (same_any w7 j g gb gp gw _ q r gs vn vb vt un ut ub (openJ S) S T 5000 B7.out.jd.jat B7.out.jd.dd.disk B7.out.rj B7.out.rf SM.out.len (by rw [HSO.out]; exact HF.out) (by omega)).mono ?_
      rintro e w8 ⟨rfl, b8⟩
      have B8 := Lib.hid (below_go B7.out.jd.dd.below b8)
      clear b8
      go_wp2_with fail
      go_ret
      exact ⟨rfl, B8.out⟩
end Go.Proofs.YtddpjahoeldleaaGreatDoor
