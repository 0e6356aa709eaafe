/- Write and Wear. -/
import Derived.StillTailTactics
import Derived.Test.YtddpjahoeldleaaGreatDoorDNew
import Derived.Deep.RegionHeld3
import Derived.Laws.Cover3
namespace Go.Proofs.YtddpjahoeldleaaGreatDoor.Dk
open Go.RowKit Go.Maps

theorem run_load64 (W : World) (g : Nat) (b : Bs) (hb : b.length = 64) (hc : ∀ j, j < 64 → W.cell? ⟨g, j, none⟩ = some (.int .u8 ((b.getD j 0).toNat : Int))) :
    (loadCellsFrom ⟨g, 0, none⟩ 0 64 #[]).run Tryz.prog W = .ok (cellsOfB b).toArray W := by
  have hl : (cellsOfB b).length = 64 := by rw [cellsOfB, List.length_map, hb]
  have := run_loadCells_list (P := Tryz.prog) W ⟨g, 0, none⟩ (cellsOfB b) (fun j v hv => by
    have hj : j < 64 := by rw [← hl]; exact (List.getElem?_eq_some_iff.1 hv).1
    have hadd : (⟨g, 0, none⟩ : Addr).add j = ⟨g, j, none⟩ := by unfold Addr.add; split <;> simp_all
    rw [hadd, hc j hj, ← hv, cellsOfB, List.getElem?_map, List.getD_eq_getElem?_getD, List.getElem?_eq_getElem (by omega)]
    rfl)
  rw [hl] at this
  exact this

theorem DiskAt.setPend {w w' : World} {g gb gp gw K : Nat} {S : St} (h : DiskAt w g gb gp gw K S) {D : Dt} {K' : Nat} (hm : w'.ownsMap Tryz.prog 3 blockR gp K' D) (ht : w.mapTurned w' gp) (hK : K ≤ K') : DiskAt w' g gb gp gw K' { S with pend := D } := by
  have ha := h.apart
  have hl := h.lt
  have k : ∀ j, j < w.heap.size → j ≠ gp → w'.heap[j]? = w.heap[j]? := fun j hj hne => ht.grown.block j hj (by simp; exact fun e => hne e)
  exact ⟨(k _ hl.1 ha.1).trans h.head, (k _ hl.2.1 ha.2.2.1).trans h.rows, h.b64, hm, (ownsMap_block h.worn (k _ hl.2.2.2 (Ne.symm h.ne2))).mono hK, h.ne1, h.ne2, h.n1, h.n2, h.l1, h.l2⟩
theorem DiskAt.setWorn {w w' : World} {g gb gp gw K : Nat} {S : St} (h : DiskAt w g gb gp gw K S) {D : Dt} {K' : Nat} (hm : w'.ownsMap Tryz.prog 3 (plainElem Tryz.prog 4) gw K' D) (ht : w.mapTurned w' gw) (hK : K ≤ K') : DiskAt w' g gb gp gw K' { S with worn := D } := by
  have ha := h.apart
  have hl := h.lt
  have k : ∀ j, j < w.heap.size → j ≠ gw → w'.heap[j]? = w.heap[j]? := fun j hj hne => ht.grown.block j hj (by simp; exact fun e => hne e)
  exact ⟨(k _ hl.1 ha.2.1).trans h.head, (k _ hl.2.1 ha.2.2.2).trans h.rows, h.b64, (ownsMap_block h.pend (k _ hl.2.2.1 h.ne2)).mono hK, hm, h.ne1, h.ne2, h.n1, h.n2, h.l1, h.l2⟩

def isB (S : St) (i : Int) : Bool := decide (0 ≤ i ∧ i < S.bl.length)
def wearE (S : St) (i : Int) : Int := if isB S i then 0 else 1
def wearS (S : St) (i : Int) : St := if isB S i then { S with worn := S.worn.put (kI i) (.lit (.bool true)) } else S
set_option maxRecDepth 100000 in
theorem wear_any (w : World) (g gb gp gw K : Nat) (S : St) (h : DiskAt w g gb gp gw K S) (hK : K ≤ 100000) (i : Int) (h1 : -9223372036854775808 ≤ i) (h2 : i ≤ 9223372036854775807) :
    Calls Tryz.prog 29 #[.pointer (some ⟨g, 0, none⟩), .int .i64 i] w (DPost (.int .i64 (wearE S i)) g gb gp gw (K + 1) (wearS S i) w) := by
  obtain ⟨c0, c1, c2, c3, c4⟩ := h.cells
  have n2 := h.n2
  have H := Lib.hid h
  obtain ⟨n, hn⟩ : ∃ n, n = S.bl.length := ⟨_, rfl⟩
  rw [← hn] at c0 n2
  by_cases hi : 0 ≤ i ∧ i < n
  · have he : isB S i = true := by simp only [isB, decide_eq_true_eq]; omega
    have hE : wearE S i = 0 := by rw [wearE, he]; rfl
    have HS := Lib.hid (show { S with worn := S.worn.put (kI i) (.lit (.bool true)) } = wearS S i by rw [wearS, he]; rfl)
    obtain ⟨w1, hr, hm, ht⟩ := h.worn.store law3 Tryz.underlying63 (by unfold maxLen; omega) (key_i h1 h2) (plainElem_bool Tryz.underlying4 true)
    have HD := Lib.hid (h.setWorn hm ht (by omega))
    have HT := Lib.hid ht
    rw [hE]
    obtain ⟨i0, i1⟩ := hi
    clear he hE h hn hm ht
    go_enter Tryz.func29, Tryz.ntmps29
    go_wp2_with fail
    go_ret
    exact DPost.ret HS.out HD.out ((Keep.refl _ _).turned HT.out (by simp))
  · have he : isB S i = false := by simp only [isB, decide_eq_false_iff_not]; omega
    have hE : wearE S i = 1 := by rw [wearE, he]; rfl
    have HS := Lib.hid (show S = wearS S i by rw [wearS, he]; rfl)
    have HD := Lib.hid (h.mono (K' := K + 1) (by omega))
    rw [hE]
    clear he hE h hn
    by_cases h0 : 0 ≤ i
    · go_enter Tryz.func29, Tryz.ntmps29
      go_wp2_with fail
      go_ret
      exact DPost.ret HS.out HD.out (Keep.refl _ _)
    · go_enter Tryz.func29, Tryz.ntmps29
      go_wp2_with fail
      go_ret
      exact DPost.ret HS.out HD.out (Keep.refl _ _)

def writeE (S : St) (i : Int) (b : Bs) : Int := if checkE S i ≠ 0 then checkE S i else if b.length ≠ 64 then 1 else stepE S
def writeS (S : St) (i : Int) (b : Bs) : St := if checkE S i ≠ 0 ∨ b.length ≠ 64 then S else if stepE S ≠ 0 then stepS S else { stepS S with pend := (stepS S).pend.put (kI i) (.lit (.string b)) }
set_option maxHeartbeats 4000000 in
set_option maxRecDepth 100000 in
theorem write_all (w : World) (g gb gp gw K : Nat) (S : St) (h : DiskAt w g gb gp gw K S) (hK : K ≤ 100000) (i : Int) (h1 : -9223372036854775808 ≤ i) (h2 : i ≤ 9223372036854775807) (s : ByteArray) :
    Calls Tryz.prog 32 #[.pointer (some ⟨g, 0, none⟩), .int .i64 i, .string s] w (DPost (.int .i64 (writeE S i s.data.toList)) g gb gp gw (K + 1) (writeS S i s.data.toList) w) := by
  have hls : s.data.toList.length = s.size := by simp
  by_cases hc : checkE S i = 0
  · by_cases h64 : s.size = 64
    · have l64 : s.data.toList.length = 64 := by rw [hls, h64]
      have hE : writeE S i s.data.toList = stepE S := by rw [writeE, if_neg (by simp [hc]), if_neg (by simp [l64])]
      have hS : writeS S i s.data.toList = if stepE S ≠ 0 then stepS S else { stepS S with pend := (stepS S).pend.put (kI i) (.lit (.string s.data.toList)) } := by rw [writeS, if_neg (by simp [hc, l64])]
      rw [hE]
      have HS := Lib.hid hS
      have H := Lib.hid h
      have HC := Lib.hid hc
      obtain ⟨b, hb⟩ : ∃ b, b = s.data.toList := ⟨_, rfl⟩
      rw [← hb] at l64 HS ⊢
      have HB := Lib.hid hb
      obtain ⟨E, hEE⟩ : ∃ E, E = stepE S := ⟨_, rfl⟩
      rw [← hEE] at HS ⊢
      have HEE := Lib.hid hEE
      have hf : (s.size : Int) = 64 := by omega
      clear h hc hE hS hb hEE hls
      go_enter Tryz.func32, Tryz.ntmps32
      go_wp2_with fail
      refine (check_any w g gb gp gw K S H.out i 0 HC).mono ?_
      rintro e w' ⟨rfl, rfl⟩
      go_wp2_with fail
      refine (step_any w g gb gp gw K S H.out).mono ?_
      rintro e w2 ⟨rfl, h3, k3⟩
      rw [← HEE.out]
      by_cases hE0 : E = 0
      · subst hE0
        obtain ⟨c0, c1, c2, c3, c4⟩ := h3.cells
        have hlt := h3.lt
        have hcv := Lib.run_convert_string_bytes (P := Tryz.prog) w2.drew 9 84 5 s Tryz.underlying9 Tryz.underlying84 Tryz.underlying5
        have hbl : Below w2.heap.size w2 (Lib.bytesWorld w2.drew 5 s) := ⟨rfl, rfl, rfl, by rw [Lib.bytesWorld_size]; exact Nat.le_succ _, fun k hk => Lib.bytesWorld_at_old w2.drew 5 s k hk⟩
        have h4 := h3.below hbl
        have c1' := h4.cells.2.1
        have hra : (Lib.bytesWorld w2.drew 5 s).rangeAt w2.heap.size 0 (cellsOfB b) := fun j v hv => by
          have hl : (cellsOfB b).length = 64 := by rw [cellsOfB, List.length_map, l64]
          have hj : j < 64 := by rw [← hl]; exact (List.getElem?_eq_some_iff.1 hv).1
          rw [Nat.zero_add]
          refine (Lib.bytesWorld_cell w2.drew 5 s j (by omega)).trans ?_
          rw [← hv, cellsOfB, List.getElem?_map, HB.out, List.getD_eq_getElem?_getD, List.getElem?_eq_getElem (by rw [← HB.out]; omega)]
          rfl
        have hi70 : (Tryz.prog.info? 99).map (·.size) = some (cellsOfB b).length := by
          rw [show (cellsOfB b).length = 64 from by rw [cellsOfB, List.length_map, l64]]
          exact (zero_of_info info70).2
        have hu70 := Tryz.underlying99
        obtain ⟨w5, hr, hm, ht⟩ := h4.pend.store law3 Tryz.underlying90 (by unfold maxLen; omega) (key_i h1 h2) (blockR_enc l64)
        rw [show encB b = .agg (cellsOfB b).toArray from rfl] at hr
        have H5 := Lib.hid (h4.setPend hm ht (by omega))
        have c1x := (h4.setPend hm ht (K' := K + 1) (by omega)).cells.2.1
        have HT := Lib.hid ht
        have HBL := Lib.hid hbl
        have K3 := Lib.hid k3
        rw [h64] at hcv
        have har := run_arrayAt (P := Tryz.prog) (Lib.bytesWorld w2.drew 5 s) 99 5 64 (some ⟨w2.heap.size, 0, none⟩) 64 (grownCap w2.drew 64 0 5) Tryz.underlying99 (Nat.le_refl _)
        clear h3 h4 hbl hm ht k3
        generalize Lib.bytesWorld w2.drew 5 s = w4 at *
        generalize grownCap w2.drew 64 0 5 = cp at *
        go_wp2_with fail
        refine wp_region_held_drew (S := fun W => W.cell? ⟨g, 1, none⟩ = some (.map (some gp))) (by kernel_rfl) c1 (fun hHeld => ?_)
        refine wpAnyH_take (i := 0) (v := ?v0) rfl (by kernel_rfl) (by kernel_rfl) (by kernel_rfl) (fun _ _ _ h => h) (Or.inl ⟨by rfl, ?y0⟩) (by assumption) ?r0
        case y0 => intro w hSw; (try dsimp only at hSw); go_simp; try with_reducible rfl
        simp only [Act.put]
        refine wpAnyH_take (i := 1) (v := ?v1) rfl (by kernel_rfl) (by kernel_rfl) (by kernel_rfl) (fun _ _ _ h => h) (Or.inl ⟨by rfl, ?y1⟩) (by assumption) ?r1
        case y1 => intro w hSw; (try dsimp only at hSw); go_simp; try with_reducible rfl
        simp only [Act.put]
        refine wpAnyH_take (i := 2) (v := ?v2) rfl (by kernel_rfl) (by kernel_rfl) (by kernel_rfl) (fun _ _ _ h => h) (Or.inl ⟨by rfl, ?y2⟩) (by assumption) ?r2
        case y2 => intro w hSw; (try dsimp only at hSw); go_simp; try with_reducible rfl
        simp only [Act.put]
        refine wpAnyH_take (i := 3) (v := ?v3) rfl (by kernel_rfl) (by kernel_rfl) (by kernel_rfl) (fun _ _ _ h => h) (Or.inl ⟨by rfl, ?y3⟩) (by assumption) ?r3
        case y3 => intro w hSw; (try dsimp only at hSw); go_simp; try with_reducible rfl
        simp only [Act.put]
        refine wpAnyH_take (i := 4) (v := ?v4) rfl (by kernel_rfl) (by kernel_rfl) (by kernel_rfl) (fun _ _ _ h => h) (Or.inl ⟨by rfl, ?y4⟩) (by assumption) ?r4
        case y4 => intro w hSw; (try dsimp only at hSw); go_simp; try with_reducible rfl
        simp only [Act.put]
        refine wpAnyH_take (i := 5) (v := ?v5) rfl (by kernel_rfl) (by kernel_rfl) (by kernel_rfl) (fun _ _ _ h => h) (Or.inl ⟨by rfl, ?y5⟩) (by assumption) ?r5
        case y5 => intro w hSw; (try dsimp only at hSw); go_simp; try with_reducible rfl
        simp only [Act.put]
        refine wpAnyH_ready (rs := [6]) (by kernel_rfl) (by simp) ?_
        refine AllReadyH.cons rfl (fun K hK => ?_) AllReadyH.nil
        go_simp
        refine hK.out _ _ c1' (fun hHeld => ?_)
        clear hK K
        try simp only [Act.put]
        refine wpAnyH_ready (rs := [7]) (by kernel_rfl) (by simp) ?_
        refine AllReadyH.cons rfl (fun K hK => ?_) AllReadyH.nil
        go_simp
        refine hK.out _ _ c1' (fun hHeld => ?_)
        clear hK K
        try simp only [Act.put]
        refine wpAnyH_ready (rs := [8]) (by kernel_rfl) (by simp) ?_
        refine AllReadyH.cons rfl (fun K hK => ?_) AllReadyH.nil
        rw [if_pos (by rfl)]
        refine wp_load_mid _ _ rfl _ _ rfl (cellsOfB b) _ hra hu70 rfl hi70 ?_
        refine hK.out _ _ c1' (fun hHeld => ?_)
        clear hK K
        simp only [Act.put]
        refine wpAnyH_ready (rs := [9]) (by kernel_rfl) (by simp) ?_
        refine AllReadyH.cons rfl (fun K hK => ?_) AllReadyH.nil
        go_simp
        refine hK.out _ _ c1x (fun hHeld => ?_)
        clear hK K
        refine wpAnyH_done (by kernel_rfl) ?_ _
        go_wp2_with fail
        go_ret
        exact DPost.ret (by rw [HS.out, if_neg (by simp)]) H5.out ((K3.out.trans (Keep.of_below HBL.out _)).turned HT.out (by simp))
      · have hb : (E == 0) = false := beq_eq_false_iff_ne.2 hE0
        have H3 := Lib.hid h3
        have K3 := Lib.hid k3
        clear h3 k3
        go_wp2_with fail
        go_ret
        exact DPost.ret (by rw [HS.out, if_pos hE0]) (H3.out.mono (by omega)) K3.out
    · have hE : writeE S i s.data.toList = 1 := by rw [writeE, if_neg (by simp [hc]), if_pos (by rw [hls]; exact h64)]
      have HS := Lib.hid (show S = writeS S i s.data.toList by rw [writeS, if_pos (.inr (by rw [hls]; exact h64))])
      rw [hE]
      have H := Lib.hid h
      have HC := Lib.hid hc
      have hf : ((s.size : Int) == 64) = false := beq_eq_false_iff_ne.2 (by omega)
      clear h hc hE hls h64
      go_enter Tryz.func32, Tryz.ntmps32
      go_wp2_with fail
      refine (check_any w g gb gp gw K S H.out i 0 HC).mono ?_
      rintro e w' ⟨rfl, rfl⟩
      go_wp2_with fail
      go_ret
      exact DPost.ret HS.out (H.out.mono (by omega)) (Keep.refl _ _)
  · have hE : writeE S i s.data.toList = checkE S i := by rw [writeE, if_pos hc]
    have HS := Lib.hid (show S = writeS S i s.data.toList by rw [writeS, if_pos (.inl hc)])
    rw [hE]
    obtain ⟨E, hEE⟩ : ∃ E, E = checkE S i := ⟨_, rfl⟩
    rw [← hEE] at hc ⊢
    have HE := Lib.hid hEE.symm
    have hb : (E == 0) = false := beq_eq_false_iff_ne.2 hc
    have H := Lib.hid h
    clear h hE hls hEE
    go_enter Tryz.func32, Tryz.ntmps32
    go_wp2_with fail
    refine (check_any w g gb gp gw K S H.out i E HE).mono ?_
    rintro e w' ⟨rfl, rfl⟩
    go_wp2_with fail
    go_ret
    exact DPost.ret HS.out (H.out.mono (by omega)) (Keep.refl _ _)
theorem write_any (w : World) (g gb gp gw K : Nat) (S : St) (h : DiskAt w g gb gp gw K S) (hK : K ≤ 100000) (i : Int) (h1 : -9223372036854775808 ≤ i) (h2 : i ≤ 9223372036854775807) (s : ByteArray) (_hs : s.size ≤ 9223372036854775807) :
    Calls Tryz.prog 32 #[.pointer (some ⟨g, 0, none⟩), .int .i64 i, .string s] w (DPost (.int .i64 (writeE S i s.data.toList)) g gb gp gw (K + 1) (writeS S i s.data.toList) w) :=
  write_all w g gb gp gw K S h hK i h1 h2 s
end Go.Proofs.YtddpjahoeldleaaGreatDoor.Dk
