/- Flush and Mount. -/
import Derived.Test.YtddpjahoeldleaaGreatDoorDSettle
import Derived.Deep.AppendLies
namespace Go.Proofs.YtddpjahoeldleaaGreatDoor.Dk
open Go.RowKit Go.Maps Go.Sort Go.Shelf

theorem ownsRow_keep {F : List Nat} {w w' : World} {base : Nat} {e : TypeId} {size n : Nat} {v : Value} {xs : List Value} (h : w.ownsRow base e size v n xs) (hk : Keep F w w') (hF : ∀ k, k ∈ F → k < base) : w'.ownsRow base e size v n xs := by
  refine ⟨h.1, ?_⟩
  rcases h.2 with h0 | ⟨g, cap, cur, hv, hb, hg, r⟩
  · exact .inl h0
  · exact .inr ⟨g, cap, cur, hv, hb, (hk.block g (Array.getElem?_eq_some_iff.1 hg).1 (fun e => by have := hF g e; omega)).trans hg, r⟩

/-- the first k of some sectors settled -/
def settleK (S : St) (ks : List Int) (pf : Nat → Int) : Nat → St
  | 0 => S
  | k + 1 => settleS (settleK S ks pf k) (ks.getD k 0).toNat (pf k)
theorem settleS_len (S : St) (i : Nat) (p : Int) : (settleS S i p).bl.length = S.bl.length := by
  unfold settleS
  split
  · rfl
  · exact List.length_set
theorem settleK_len (S : St) (ks : List Int) (pf : Nat → Int) : ∀ k, (settleK S ks pf k).bl.length = S.bl.length
  | 0 => rfl
  | k + 1 => by rw [settleK, settleS_len, settleK_len S ks pf k]
def PendOK (S : St) : Prop := ∀ z ∈ keysOf S.pend, 0 ≤ z ∧ z < (S.bl.length : Int)
def flushE (S : St) : Int := if checkE S 0 ≠ 0 then checkE S 0 else stepE S
def flushS (S : St) : St := if checkE S 0 ≠ 0 then S else if stepE S ≠ 0 then stepS S else settleK (stepS S) (keysOf (stepS S).pend) (fun _ => 64) (keysOf (stepS S).pend).length
theorem step_len (S : St) : (stepS S).bl.length = S.bl.length ∧ (stepS S).pend = S.pend ∧ (stepS S).worn = S.worn := by
  unfold stepS
  split
  · exact ⟨rfl, rfl, rfl⟩
  · split
    · exact ⟨rfl, rfl, rfl⟩
    · exact ⟨rfl, rfl, rfl⟩
theorem keys_size (D : Dt) : (keysOf D).length = Maps.size D := by
  rw [keysOf, List.length_mergeSort]
  cases D <;> simp [intKeys, Maps.size]
theorem DPost.ret0 {g gb gp gw K : Nat} {S S' : St} {w w' : World} (hS : S = S') (h : DiskAt w' g gb gp gw K S) (hk : Keep [g, gb, gp, gw] w w') : DPost (.tuple #[]) g gb gp gw K S' w (.returned (.tuple #[])) w' := by rw [← hS]; exact ⟨rfl, h, hk⟩

set_option maxHeartbeats 4000000 in
set_option maxRecDepth 100000 in
theorem flush_any (w : World) (g gb gp gw K : Nat) (S : St) (h : DiskAt w g gb gp gw K S) (hK : K ≤ 100000) (hP : PendOK S) :
    Calls Tryz.prog 79 #[.pointer (some ⟨g, 0, none⟩)] w (DPost (.int .i64 (flushE S)) g gb gp gw K (flushS S) w) := by
  have hlt := h.lt
  by_cases hc : checkE S 0 = 0
  · have hE : flushE S = stepE S := by rw [flushE, if_neg (by simp [hc])]
    have HS := Lib.hid (show (if stepE S ≠ 0 then stepS S else settleK (stepS S) (keysOf (stepS S).pend) (fun _ => 64) (keysOf (stepS S).pend).length) = flushS S by unfold flushS; rw [if_neg (c := checkE S 0 ≠ 0) (by simp [hc])])
    rw [hE]
    have H := Lib.hid h
    have HC := Lib.hid hc
    have HLT := Lib.hid hlt
    have HP := Lib.hid hP
    obtain ⟨E, hEE⟩ : ∃ E, E = stepE S := ⟨_, rfl⟩
    rw [← hEE] at HS ⊢
    have HEE := Lib.hid hEE
    clear h hc hE hEE hlt hP
    go_enter Tryz.func79, Tryz.ntmps79
    go_wp2_with fail
    refine (check_any w g gb gp gw K S H.out 0 0 HC).mono ?_
    rintro e w' ⟨rfl, rfl⟩
    go_wp2_with fail
    refine (step_any w g gb gp gw K S H.out).mono ?_
    rintro e w2 ⟨rfl, h2, k2⟩
    rw [← HEE.out]
    by_cases hE0 : E = 0
    · subst hE0
      have hsl := step_len S
      have HSL := Lib.hid hsl
      obtain ⟨T, hT⟩ : ∃ T, T = stepS S := ⟨_, rfl⟩
      rw [← hT] at h2 HS HSL
      have HT := Lib.hid hT
      have H2 := Lib.hid h2
      have K2 := Lib.hid k2
      have LE := Lib.hid k2.size
      clear h2 k2 hsl hT
      go_wp2_with fail
      refine (pending_any w2 g gb gp gw K T H2.out hK).mono ?_
      rintro e w3 ⟨v, rfl, hrow, hb3⟩
      obtain ⟨A, cp, rfl, hcp⟩ := own_slice hrow
      have h3 := H2.out.below hb3
      have k3 := K2.out.trans (Keep.of_below hb3 [g, gb, gp, gw])
      have hsz := keys_size T.pend
      have hsz2 := H2.out.pend.size_le
      obtain ⟨ks, hks⟩ : ∃ ks, ks = keysOf T.pend := ⟨_, rfl⟩
      rw [← hks] at hrow HS hsz hcp ⊢
      have hok : ∀ z ∈ ks, 0 ≤ z ∧ z < (T.bl.length : Int) := by
        intro z hz
        rw [hks, HSL.out.2.1] at hz
        have := HP.out z hz
        rw [HSL.out.1]
        exact this
      obtain ⟨m, hm⟩ : ∃ m, m = ks.length := ⟨_, rfl⟩
      rw [← hm] at hrow HS hsz hcp ⊢
      have hmb : m ≤ 100000 := by omega
      have HROW := Lib.hid hrow
      have H3 := Lib.hid h3
      have K3 := Lib.hid k3
      have HM := Lib.hid hm
      have HOK := Lib.hid hok
      have H2L := Lib.hid (show w.heap.size ≤ w2.heap.size from LE.out)
      have hFb : ∀ k, k ∈ [g, gb, gp, gw] → k < w2.heap.size := by
        intro k hk
        have := H2.out.lt
        simp only [List.mem_cons, List.not_mem_nil, or_false] at hk
        rcases hk with rfl | rfl | rfl | rfl <;> omega
      have HFB := Lib.hid hFb
      clear hrow h3 k3 hsz hsz2 hks hm hok hb3 hFb hcp
      go_wp2_with fail
      go_loopw [20] (fun x wr => ∃ k : Nat, k ≤ m ∧ x = .int .i64 k ∧ Hid (DiskAt wr g gb gp gw K (settleK T ks (fun _ => 64) k)) ∧ Hid (Keep [g, gb, gp, gw] w wr) ∧ Hid (wr.ownsRow w2.heap.size 3 1 (.slice A m cp) m (ks.map encZ))) (fun x _ => m - (intOf x).toNat)
      case atStart => exact ⟨0, by omega, rfl, H3, K3, HROW⟩
      case round =>
        obtain ⟨k, hk, rfl, hD, hKp, hR⟩ := hrel
        by_cases hlt : k < m
        · have hkl : k < ks.length := by have := HM.out; omega
          obtain ⟨gk, ck, hv, hgb, hgl⟩ := World.ownsRow.form hR.out (by omega)
          injection hv with hA hn1 hc1
          subst hA
          subst hc1
          clear hn1
          have hcell := hR.out.cellAt (g := gk) (j := k) (by omega)
          rw [List.getElem?_map, List.getElem?_eq_getElem hkl, Option.map_some] at hcell
          have hz := HOK.out _ (List.getElem_mem hkl)
          obtain ⟨zi, hzi⟩ := Int.eq_ofNat_of_zero_le hz.1
          rw [hzi] at hcell hz
          have HZ := Lib.hid (show ks.getD k 0 = (zi : Int) by rw [List.getD_eq_getElem?_getD, List.getElem?_eq_getElem hkl, Option.getD_some, hzi])
          have hcell : wr.cell? ⟨gk, k, none⟩ = some (.int .i64 (zi : Int)) := hcell
          have hir : zi < (settleK T ks (fun _ => 64) k).bl.length := by rw [settleK_len]; omega
          have HIR := Lib.hid hir
          have i1 : (k : Int) < (m : Int) := by omega
          clear hz hzi hkl hir hgb hgl
          go_wp2_with fail
          refine (settle_any wr g gb gp gw K _ hD.out zi HIR.out 64).mono ?_
          rintro e w5 ⟨rfl, h5, k5⟩
          have H5 := Lib.hid h5
          have K5 := Lib.hid (hKp.out.trans k5)
          have R5 := Lib.hid (ownsRow_keep hR.out k5 HFB.out)
          clear h5 k5
          go_wp2_with fail
          go_roundw
          case rel =>
            refine ⟨k + 1, by omega, by go_num, ?_, K5, R5⟩
            have : settleK T ks (fun _ => 64) (k + 1) = settleS (settleK T ks (fun _ => 64) k) zi 64 := by rw [settleK, HZ.out, Int.toNat_natCast]
            rw [this]
            exact H5
          case measure => simp [intOf]; omega
        · obtain rfl : m = k := by omega
          go_wp2_with fail
          go_ret
          exact DPost.ret (by rw [← HS.out, if_neg (by simp)]) hD.out hKp.out
    · have hb : (E == 0) = false := beq_eq_false_iff_ne.2 hE0
      have H2 := Lib.hid h2
      have K2 := Lib.hid k2
      clear h2 k2
      go_wp2_with fail
      go_ret
      exact DPost.ret (by rw [← HS.out, if_pos hE0]) H2.out K2.out
  · have hE : flushE S = checkE S 0 := by rw [flushE, if_pos hc]
    have HS := Lib.hid (show S = flushS S by rw [flushS, if_pos hc])
    rw [hE]
    obtain ⟨E, hEE⟩ : ∃ E, E = checkE S 0 := ⟨_, rfl⟩
    rw [← hEE] at hc ⊢
    have HE := Lib.hid hEE.symm
    have hb : (E == 0) = false := beq_eq_false_iff_ne.2 hc
    have H := Lib.hid h
    clear h hE hEE hlt hP
    go_enter Tryz.func79, Tryz.ntmps79
    go_wp2_with fail
    refine (check_any w g gb gp gw K S H.out 0 E HE).mono ?_
    rintro e w' ⟨rfl, rfl⟩
    go_wp2_with fail
    go_ret
    exact DPost.ret HS.out H.out (Keep.refl _ _)
end Go.Proofs.YtddpjahoeldleaaGreatDoor.Dk
