/- write: sectors written, flushed and read again. -/
import Derived.Test.YtddpjahoeldleaaGreatDoorJMem
import Derived.Test.YtddpjahoeldleaaGreatDoorDInv
namespace Go.Proofs.YtddpjahoeldleaaGreatDoor
open Go.RowKit Go.Maps

/-- sectors written one after the other: the error, the disk -/
def wrRun : Dk.St → Int → List Bs → Int × Dk.St
  | S, _, [] => (0, S)
  | S, a, s :: r => if Dk.writeE S a s ≠ 0 then (Dk.writeE S a s, Dk.writeS S a s) else wrRun (Dk.writeS S a s) (a + 1) r
/-- sectors read again: the error, whether they are the same -/
def rdRun (S : Dk.St) : Int → List Bs → Bool → Int × Bool
  | _, [], b => (0, b)
  | a, s :: r, b => if Dk.checkE S a ≠ 0 then (Dk.checkE S a, false) else rdRun S (a + 1) r (b && decide (s = Dk.readB S a))
structure WrV where
  err : Int
  same : Bool
  S : Dk.St
def writeR (S : Dk.St) (a : Int) (l : List Bs) : WrV :=
  if (wrRun S a l).1 ≠ 0 then ⟨(wrRun S a l).1, false, (wrRun S a l).2⟩
  else if Dk.flushE (wrRun S a l).2 ≠ 0 then ⟨Dk.flushE (wrRun S a l).2, false, Dk.flushS (wrRun S a l).2⟩
  else ⟨(rdRun (Dk.flushS (wrRun S a l).2) a l true).1, (rdRun (Dk.flushS (wrRun S a l).2) a l true).2, Dk.flushS (wrRun S a l).2⟩
theorem tame_wrRun : ∀ (l : List Bs) (S : Dk.St) (a : Int), Dk.Tame S (wrRun S a l).2
  | [], S, _ => Dk.Tame.refl S
  | s :: r, S, a => by
    rw [wrRun]
    split
    · exact Dk.tame_write _ _ _
    · exact (Dk.tame_write _ _ _).trans (tame_wrRun r _ _)
theorem tame_writeR (S : Dk.St) (a : Int) (l : List Bs) : Dk.Tame S (writeR S a l).S := by
  unfold writeR
  split
  · exact tame_wrRun l S a
  · split
    · exact (tame_wrRun l S a).trans (Dk.tame_flush _)
    · exact (tame_wrRun l S a).trans (Dk.tame_flush _)
theorem Rd.keepF {w w' : World} {B size n : Nat} {A : Option Addr} {xs : List Value} {F : List Nat} (h : Rd w B size A n xs) (hk : Keep F w w') (hB : B ≤ w.heap.size) (hA : ∀ b off, A = some ⟨b, off, none⟩ → b ∉ F) : Rd w' B size A n xs :=
  ⟨h.1, fun hn => by
    obtain ⟨b, off, e, hb, hc⟩ := h.2 hn
    exact ⟨b, off, e, hb, fun j u hu => (hk.cell (p := ⟨b, off + j, none⟩) (by show b < _; omega) (hA b off e)).trans (hc j u hu)⟩⟩

set_option maxHeartbeats 4000000 in
set_option maxRecDepth 100000 in
theorem jwrite_any (w : World) (j g : Nat) (vn vb vt : Value) (J : JV) (gb gp gw K : Nat) (S : Dk.St) (hJ : JAt w j g vn vb vt J) (hd : Dk.DiskAt w g gb gp gw K S) (hP : Dk.PendOK S) (at_ : Int) (a0 : 0 ≤ at_) (a1 : at_ ≤ 4096)
    (A : Option Addr) (n c : Nat) (ss : List Bs) (hl : ss.length = n) (hn : n ≤ 200) (hK : K + n ≤ 100000) (h : Rd w w.heap.size 1 A n (strCells ss)) (hA : ∀ b off, A = some ⟨b, off, none⟩ → b ∉ [g, gb, gp, gw]) (h64 : ∀ s ∈ ss, s.length ≤ 1000000) :
    Calls Tryz.prog 49 #[.pointer (some ⟨j, 0, none⟩), .int .i64 at_, .slice A n c] w (Dk.DPost (.tuple #[.int .i64 (writeR S at_ ss).err, .bool (writeR S at_ ss).same]) g gb gp gw (K + n) (writeR S at_ ss).S w) := by
  have HJ := Lib.hid hJ
  have HD := Lib.hid hd
  have HP := Lib.hid hP
  have HR := Lib.hid h
  have HA := Lib.hid hA
  have HL := Lib.hid hl
  have H64 := Lib.hid h64
  clear hJ hd hP h hA hl h64
  go_enter Tryz.func49, Tryz.ntmps49
  go_wp2_with fail
  go_loopw [19] (fun x wr => ∃ (k : Nat) (T : Dk.St), k ≤ n ∧ x = .int .i64 k ∧ Hid (Dk.DiskAt wr g gb gp gw (K + k) T) ∧ Hid (Keep [g, gb, gp, gw] w wr) ∧ Hid (Dk.PendOK T) ∧ Hid (wrRun S at_ ss = wrRun T (at_ + k) (ss.drop k))) (fun x _ => n - (intOf x).toNat)
  case atStart => exact ⟨0, S, by omega, rfl, HD, Lib.hid (Keep.refl _ _), HP, Lib.hid (by rw [List.drop_zero]; congr 1; omega)⟩
  case round =>
    obtain ⟨k, T, hk, rfl, dT, kT, pT, eT⟩ := hrel
    have JT := Lib.hid (HJ.out.disk HD.out kT.out)
    have c0 := JT.out.cells.1
    by_cases hlt : k < n
    · have k0 : (0 : Int) ≤ (k : Int) := by omega
      have k1 : (k : Int) < (n : Int) := by omega
      obtain ⟨b, off, rfl, hbl, hcell⟩ := HR.out.str HL.out hlt
      have hcw := (kT.out.cell (p := ⟨b, off + k, none⟩) hbl (HA.out b off rfl)).trans hcell
      have hkl : k < ss.length := by rw [HL.out]; exact hlt
      obtain ⟨sk, hsk⟩ : ∃ sk : ByteArray, sk = ⟨ss[k].toArray⟩ := ⟨_, rfl⟩
      rw [← hsk] at hcw
      have HSK := Lib.hid (show ss.drop k = sk.data.toList :: ss.drop (k + 1) by rw [List.drop_eq_getElem_cons hkl, hsk])
      have HZ := Lib.hid (show sk.size ≤ 9223372036854775807 by
        have := H64.out ss[k] (List.getElem_mem hkl)
        rw [hsk, mk_size]; omega)
      have w1 : IntKind.i64.wrap (at_ + (k : Int)) = at_ + (k : Int) := IntWalk.i64_in _ (by omega)
      have HKN := Lib.hid (And.intro hk hlt)
      clear hcell hsk hk hlt hkl
      go_wp2_with fail
      refine (Dk.write_any wr g gb gp gw (K + k) T dT.out (by omega) (at_ + (k : Int)) (by omega) (by omega) sk HZ.out).mono ?_
      rintro e w2 ⟨rfl, d2, k2⟩
      obtain ⟨E, hE⟩ : ∃ E, E = Dk.writeE T (at_ + (k : Int)) sk.data.toList := ⟨_, rfl⟩
      rw [← hE]
      have D2 := Lib.hid d2
      have K2 := Lib.hid (kT.out.trans k2)
      have HE := Lib.hid hE
      clear d2 k2 hE c0 hcw
      by_cases h0 : E = 0
      · subst h0
        go_wp2_with fail
        go_roundw
        case rel =>
          refine ⟨k + 1, _, by have := HKN.out.2; omega, by go_num, D2, K2, Lib.hid ((Dk.tame_write T _ _).ok pT.out), Lib.hid ?_⟩
          rw [eT.out, HSK.out, wrRun, if_neg (by rw [← HE.out]; decide)]
          congr 1
          omega
        case measure => have := HKN.out.2; simp [intOf]; omega
      · have hb : (E == 0) = false := beq_eq_false_iff_ne.2 h0
        have HW := Lib.hid (show wrRun S at_ ss = (E, Dk.writeS T (at_ + (k : Int)) sk.data.toList) by rw [eT.out, HSK.out, wrRun, if_pos (by rw [← HE.out]; exact h0), ← HE.out])
        have HRR := Lib.hid (show writeR S at_ ss = ⟨E, false, Dk.writeS T (at_ + (k : Int)) sk.data.toList⟩ by rw [writeR, HW.out, if_pos (by exact h0)])
        clear h0
        go_wp2_with fail
        go_ret2
        rw [HRR.out]
        exact ⟨rfl, D2.out.mono (by have := HKN.out.2; omega), K2.out⟩
    · obtain rfl : k = n := by omega
      have HW := Lib.hid (show wrRun S at_ ss = (0, T) by rw [eT.out, List.drop_eq_nil_of_le (by rw [HL.out]; exact Nat.le_refl _), wrRun])
      go_wp2_with fail
      refine (Dk.flush_any wr g gb gp gw (K + k) T dT.out hK pT.out).mono ?_
      rintro e w2 ⟨rfl, d2, k2⟩
      obtain ⟨E, hE⟩ : ∃ E, E = Dk.flushE T := ⟨_, rfl⟩
      rw [← hE]
      have D2 := Lib.hid d2
      have K2 := Lib.hid (kT.out.trans k2)
      have HE := Lib.hid hE
      clear d2 k2 hE c0
      by_cases h0 : E = 0
      · subst h0
        have HRR := Lib.hid (show writeR S at_ ss = ⟨(rdRun (Dk.flushS T) at_ ss true).1, (rdRun (Dk.flushS T) at_ ss true).2, Dk.flushS T⟩ by rw [writeR, HW.out, if_neg (fun h => h rfl), if_neg (by rw [← HE.out]; exact fun h => h rfl)])
        have c0 := (HJ.out.disk HD.out K2.out).cells.1
        go_wp2_with fail
        obtain ⟨R, hR⟩ : ∃ R, R = Dk.flushS T := ⟨_, rfl⟩
        rw [← hR] at D2 HRR
        clear hR
        go_loopw [12, 47] (fun bv x wr => ∃ (i : Nat) (b : Bool), i ≤ k ∧ x = .int .i64 i ∧ bv = .bool b ∧ Hid (Dk.DiskAt wr g gb gp gw (K + k) R) ∧ Hid (Keep [g, gb, gp, gw] w wr) ∧ Hid (rdRun R at_ ss true = rdRun R (at_ + i) (ss.drop i) b)) (fun _ x _ => k - (intOf x).toNat)
        case atStart => exact ⟨0, true, by omega, rfl, rfl, D2, K2, Lib.hid (by rw [List.drop_zero]; congr 1; omega)⟩
        case round =>
          obtain ⟨i, b, hi, rfl, rfl, dR, kR, eR⟩ := hrel
          have JR := Lib.hid (HJ.out.disk HD.out kR.out)
          have c0 := JR.out.cells.1
          by_cases hik : i < k
          · have k0 : (0 : Int) ≤ (i : Int) := by omega
            have k1 : (i : Int) < (k : Int) := by omega
            obtain ⟨bb, off, rfl, hbl, hcell⟩ := HR.out.str HL.out hik
            have hcw := (kR.out.cell (p := ⟨bb, off + i, none⟩) hbl (HA.out bb off rfl)).trans hcell
            have hkl : i < ss.length := by rw [HL.out]; exact hik
            obtain ⟨sk, hsk⟩ : ∃ sk : ByteArray, sk = ⟨ss[i].toArray⟩ := ⟨_, rfl⟩
            rw [← hsk] at hcw
            have HSK := Lib.hid (show ss.drop i = sk.data.toList :: ss.drop (i + 1) by rw [List.drop_eq_getElem_cons hkl, hsk])
            have w1 : IntKind.i64.wrap (at_ + (i : Int)) = at_ + (i : Int) := IntWalk.i64_in _ (by omega)
            have HKN := Lib.hid (And.intro hi hik)
            clear hcell hsk hi hik hkl
            go_wp2_with fail
            refine (Dk.read_any wr g gb gp gw (K + k) R dR.out (at_ + (i : Int)) (by omega) (by omega)).mono ?_
            rintro e w3 ⟨rfl, b3⟩
            obtain ⟨E, hE⟩ : ∃ E, E = Dk.checkE R (at_ + (i : Int)) := ⟨_, rfl⟩
            obtain ⟨tt, htt⟩ : ∃ tt : ByteArray, tt = ⟨(Dk.readB R (at_ + (i : Int))).toArray⟩ := ⟨_, rfl⟩
            rw [Dk.StrErr, ← hE, ← htt]
            have D3 := Lib.hid (dR.out.below b3)
            have K3 := Lib.hid (kR.out.trans (Keep.of_below b3 _))
            have HE := Lib.hid hE
            have HTT := Lib.hid (show (sk.toList == tt.toList) = decide (sk.data.toList = Dk.readB R (at_ + (i : Int))) by
              rw [Lib.toList_data, Lib.toList_data, htt]
              by_cases e : sk.data.toList = Dk.readB R (at_ + (i : Int))
              · rw [decide_eq_true e, e]; exact beq_self_eq_true _
              · rw [decide_eq_false e]; exact beq_eq_false_iff_ne.2 e)
            clear b3 hE htt c0 hcw
            by_cases h0 : E = 0
            · subst h0
              have HST := Lib.hid (show rdRun R at_ ss true = rdRun R (at_ + ((i + 1 : Nat) : Int)) (ss.drop (i + 1)) (b && (sk.toList == tt.toList)) by
                rw [eR.out, HSK.out, rdRun, if_neg (by rw [← HE.out]; exact fun h => h rfl), HTT.out]
                congr 1
                omega)
              cases b
              · go_wp2_with fail
                go_roundw
                case rel => exact ⟨i + 1, _, by have := HKN.out.2; omega, by go_num, rfl, D3, K3, Lib.hid (by rw [HST.out]; rfl)⟩
                case measure => have := HKN.out.2; simp [intOf]; omega
              · cases hx : sk.toList == tt.toList
                · have HST2 := Lib.hid (show rdRun R at_ ss true = rdRun R (at_ + ((i + 1 : Nat) : Int)) (ss.drop (i + 1)) false by rw [HST.out, hx]; rfl)
                  go_wp2_with fail
                  go_roundw
                  case rel => exact ⟨i + 1, _, by have := HKN.out.2; omega, by go_num, rfl, D3, K3, HST2⟩
                  case measure => have := HKN.out.2; simp [intOf]; omega
                · have HST2 := Lib.hid (show rdRun R at_ ss true = rdRun R (at_ + ((i + 1 : Nat) : Int)) (ss.drop (i + 1)) true by rw [HST.out, hx]; rfl)
                  go_wp2_with fail
                  go_roundw
                  case rel => exact ⟨i + 1, _, by have := HKN.out.2; omega, by go_num, rfl, D3, K3, HST2⟩
                  case measure => have := HKN.out.2; simp [intOf]; omega
            · have hb : (E == 0) = false := beq_eq_false_iff_ne.2 h0
              have HRD := Lib.hid (show rdRun R at_ ss true = (E, false) by rw [eR.out, HSK.out, rdRun, if_pos (by rw [← HE.out]; exact h0), ← HE.out])
              clear h0
              go_wp2_with fail
              go_ret2
              rw [HRR.out, HRD.out]
              exact ⟨rfl, D3.out, K3.out⟩
          · obtain rfl : i = k := by omega
            have HRD := Lib.hid (show rdRun R at_ ss true = (0, b) by rw [eR.out, List.drop_eq_nil_of_le (by rw [HL.out]; exact Nat.le_refl _), rdRun])
            go_wp2_with fail
            go_ret2
            rw [HRR.out, HRD.out]
            exact ⟨rfl, dR.out, kR.out⟩
      · have hb : (E == 0) = false := beq_eq_false_iff_ne.2 h0
        have HRR := Lib.hid (show writeR S at_ ss = ⟨E, false, Dk.flushS T⟩ by rw [writeR, HW.out, if_neg (fun h => h rfl), if_pos (by rw [← HE.out]; exact h0), ← HE.out])
        clear h0
        go_wp2_with fail
        go_ret2
        rw [HRR.out]
        exact ⟨rfl, D2.out, K2.out⟩
end Go.Proofs.YtddpjahoeldleaaGreatDoor
