/- The reference's Check. -/
import Derived.Test.YtflfachkoffiiaaCheck
namespace Go.Proofs.Ytflfachkoffiiaa
open Go.RowKit Go.Lib

theorem contains_step {zs : List Int} {k : Nat} (h : k < zs.length) (z : Int) : (zs.take (k + 1)).contains z = ((zs.take k).contains z || (zs[k] == z)) := by
  rw [List.take_succ_eq_append_getElem h, Bool.eq_iff_iff]
  simp only [List.contains_iff_mem, List.mem_append, List.mem_singleton, Bool.or_eq_true, beq_iff_eq]
  exact ⟨fun h => h.imp id Eq.symm, fun h => h.imp id Eq.symm⟩

set_option maxHeartbeats 8000000 in
set_option maxRecDepth 100000 in
theorem rcheck_any (A1 : Option Addr) (n1 c1 : Nat) (l : List ClV) (A : Option Addr) (n c : Nat) (sel : List Int) (A2 : Option Addr) (m cm : Nat) (core : List Int) (w : World) (h1 : Cls w w.heap.size A1 n1 l) (hn1 : n1 ≤ 9223372036854775807) (h2 : Rd w w.heap.size 1 A n (intCells sel)) (hn : n ≤ 1000)
    (h3 : Rd w w.heap.size 1 A2 m (intCells core)) (hm : m ≤ 1000) (hmc : m ≤ cm) (r : Int) (hr : Hid (checkV l sel core = r)) :
    Calls Try.prog 22 #[.slice A1 n1 c1, .slice A n c, .slice A2 m cm] w (RetB (.int .i64 r) w) := by
  have HL := Lib.hid h1.len
  have HS := Lib.hid (int_len h2)
  have HC := Lib.hid (int_len h3)
  have H1 := Lib.hid h1
  have H2 := Lib.hid h2
  have H3 := Lib.hid h3
  clear h1 h2 h3
  cases hv : validB l
  · have HV := Lib.hid hv
    have HR := Lib.hid (show 1 = r by rw [← hr.out, checkV, hv]; rfl)
    clear hv
    go_enter Try.func22, Try.ntmps22
    go_wp2_with fail
    refine (rvalid_any A1 n1 c1 l w H1.out hn1 false HV).mono ?_
    rintro e w1 ⟨rfl, b1⟩
    go_wp2_with fail
    go_ret
    exact RetB.of (by rw [← HR.out]; rfl) b1
  · have HV := Lib.hid hv
    have HSM := Lib.hid (small_of_valid hv)
    have h32 : n1 ≤ 32 := by have := HSM.out.1; have := HL.out; omega
    have HFV := Lib.hid (fun s : List Int => show fineV l s = fineB l s by rw [fineV, hv]; rfl)
    obtain ⟨all, hall⟩ : ∃ all, all = sortedTo sel n1 := ⟨_, rfl⟩
    have HR := Lib.hid (show (if (List.range core.length).all (okAt all core) = true then (if fineB l core = true then (27 : Int) else if (List.range core.length).all (fun i => fineB l (core.eraseIdx i)) = true then 0 else 27) else 27) = r by rw [← hr.out, checkV, hv, if_pos rfl, HL.out, hall])
    have hal : all.length ≤ n1 := by rw [hall]; exact sortedTo_len _ _
    clear hv hr
    go_enter Try.func22, Try.ntmps22
    go_wp2_with fail
    refine (rvalid_any A1 n1 c1 l w H1.out hn1 true HV).mono ?_
    rintro e w1 ⟨rfl, b1⟩
    have HB1 := Lib.hid b1
    clear b1
    go_wp2_with fail
    refine (rsorted_any A1 n1 c1 A n c sel w1 (H2.out.go HB1.out) (by omega) (by omega)).mono ?_
    rw [← hall]
    rintro e w2 h4
    obtain ⟨As, cs, rfl, hrs, hcs, b2⟩ := h4.open_
    obtain ⟨nl, hnl⟩ : ∃ nl, nl = all.length := ⟨_, rfl⟩
    rw [← hnl] at hrs hcs hal ⊢
    have HRS := Lib.hid hrs
    have HNL := Lib.hid hnl.symm
    have HB2 := Lib.hid (below_go HB1.out b2)
    clear hrs b2 hall hnl h4
    go_wp2_with fail
    go_loopw [8] (fun x wr => ∃ k : Nat, k ≤ m ∧ x = .int .i64 k ∧ Hid (∀ j, j < k → okAt all core j = true) ∧ Hid (Below w2.heap.size w2 wr)) (fun x _ => m - (intOf x).toNat)
    case atStart => exact ⟨0, by omega, rfl, Lib.hid (fun j hj => absurd hj (by omega)), Lib.hid (Below.refl _ _)⟩
    case round =>
      obtain ⟨k, hk, rfl, M, B⟩ := hrel
      have HB3 := Lib.hid (below_go HB2.out B.out)
      by_cases hlt : k < m
      · have j1 : (k : Int) < (m : Int) := by omega
        have j0 : (0 : Int) ≤ (k : Int) := by omega
        obtain ⟨b3, o3, rfl, hbb, x1⟩ := (H3.out.go HB3.out).int hlt
        obtain ⟨z, hzz⟩ : ∃ z, z = core.getD k 0 := ⟨_, rfl⟩
        rw [← hzz] at x1
        have HX1 := Lib.hid x1
        have HBB := Lib.hid hbb
        clear x1
        have HZ := Lib.hid hzz
        clear hzz
        obtain ⟨wo, rfl⟩ : ∃ wo, wo = wr := ⟨_, rfl⟩
        go_wp2_with fail
        go_loopw [9, 10] (fun f y wq => ∃ q : Nat, q ≤ nl ∧ y = .int .i64 q ∧ f = .bool ((all.take q).contains z) ∧ Hid (Below wo.heap.size wo wq)) (fun _ y _ => nl - (intOf y).toNat)
        case atStart => exact ⟨0, by omega, rfl, rfl, Lib.hid (Below.refl _ _)⟩
        case round =>
          obtain ⟨q, hq, rfl, rfl, B4⟩ := hrel
          have x1 := (B4.out.cell (p := ⟨b3, o3 + k, none⟩) HBB.out).trans HX1.out
          by_cases hql : q < nl
          · have i1 : (q : Int) < (nl : Int) := by omega
            have i0 : (0 : Int) ≤ (q : Int) := by omega
            have hqa : q < all.length := by rw [HNL.out]; exact hql
            obtain ⟨b4, o4, rfl, hb4, y1⟩ := ((HRS.out.go B.out).go B4.out).int hql
            have hz : all.getD q 0 = all[q] := by rw [List.getD_eq_getElem?_getD, List.getElem?_eq_getElem hqa]; rfl
            rw [hz] at y1
            have HST := Lib.hid (contains_step hqa z)
            obtain ⟨y, hy⟩ : ∃ y, y = all[q] := ⟨_, rfl⟩
            rw [← hy] at y1 HST
            obtain ⟨f, hf⟩ : ∃ f, (all.take q).contains z = f := ⟨_, rfl⟩
            rw [hf] at HST ⊢
            clear hz hy hf
            have HB5 := Lib.hid B4.out.drew
            cases f
            · go_wp2_with fail
              go_quiet (fail)
              go_wp2_with fail
              go_roundw
              case rel => exact ⟨q + 1, by omega, by go_num, by rw [HST.out]; rfl, Lib.hid (below_drewN B4.out _)⟩
              case measure => simp [intOf]; omega
            · go_wp2_with fail
              go_quiet (fail)
              go_wp2_with fail
              go_roundw
              case rel => exact ⟨q + 1, by omega, by go_num, by rw [HST.out]; rfl, Lib.hid (below_drewN B4.out _)⟩
              case measure => simp [intOf]; omega
          · obtain rfl : q = nl := by omega
            obtain ⟨f, hf⟩ : ∃ f, all.contains z = f := ⟨_, rfl⟩
            rw [List.take_of_length_le (by rw [HNL.out]; exact Nat.le_refl _), hf]
            have HB5 := Lib.hid (below_go B.out B4.out)
            have HB6 := Lib.hid (below_go HB3.out B4.out)
            by_cases hk0 : k = 0
            · subst hk0
              have HOK := Lib.hid (show okAt all core 0 = f by rw [okAt, ← HZ.out, hf]; simp)
              rw [Nat.add_zero] at x1
              clear hf
              cases f
              · have HR2 := Lib.hid (show 27 = r by rw [← HR.out, all_range_bad (i := 0) (by rw [HC.out]; omega) HOK.out, if_neg (by simp)])
                go_wp2_with fail
                go_quiet (fail)
                go_wp2_with fail
                go_ret
                exact RetB.of (by rw [← HR2.out]; rfl) (below_drewN HB6.out _)
              · have M2 := Lib.hid (show ∀ j, j < 0 + 1 → okAt all core j = true from fun j hj => by rw [show j = 0 by omega]; exact HOK.out)
                go_wp2_with fail
                go_quiet (fail)
                go_wp2_with fail
                go_roundw
                case rel => exact ⟨0 + 1, by omega, by go_num, M2, Lib.hid (below_drewN HB5.out _)⟩
                case measure => simp [intOf]; omega
            · obtain ⟨g, rfl⟩ : ∃ g, k = g + 1 := ⟨k - 1, by omega⟩
              obtain ⟨b3', o3', he, _, y1⟩ := ((H3.out.go HB3.out).go B4.out).int (k := g) (by omega)
              injection he with he
              injection he with he1 he2
              subst he1 he2
              obtain ⟨y, hy⟩ : ∃ y, y = core.getD g 0 := ⟨_, rfl⟩
              rw [← hy] at y1
              obtain ⟨d, hd⟩ : ∃ d, decide (y < z) = d := ⟨_, rfl⟩
              have HOK := Lib.hid (show okAt all core (g + 1) = (f && d) by rw [okAt, ← HZ.out, hf, Nat.add_sub_cancel, ← hy, hd]; simp)
              have i1 : (g : Int) < (m : Int) := by omega
              have i2 : (0 : Int) < (g : Int) + 1 := by omega
              have i3 : ((g : Int) + 1) < (m : Int) := by omega
              clear hf hy
              cases f
              · have HR2 := Lib.hid (show 27 = r by rw [← HR.out, all_range_bad (i := g + 1) (by rw [HC.out]; omega) (by rw [HOK.out]; rfl), if_neg (by simp)])
                go_wp2_with fail
                go_quiet (fail)
                go_wp2_with fail
                go_ret
                exact RetB.of (by rw [← HR2.out]; rfl) (below_drewN HB6.out _)
              · cases d
                · have HR2 := Lib.hid (show 27 = r by rw [← HR.out, all_range_bad (i := g + 1) (by rw [HC.out]; omega) (by rw [HOK.out]; rfl), if_neg (by simp)])
                  have hd1 : z ≤ y := by have := of_decide_eq_false hd; omega
                  clear hd
                  go_wp2_with fail
                  go_quiet (fail)
                  go_wp2_with fail
                  go_ret
                  exact RetB.of (by rw [← HR2.out]; rfl) (below_drewN HB6.out _)
                · have hd1 : ¬ z ≤ y := by have := of_decide_eq_true hd; omega
                  have M2 := Lib.hid (show ∀ j, j < g + 1 + 1 → okAt all core j = true from fun j hj => by
                    by_cases e : j = g + 1
                    · subst e; rw [HOK.out]; rfl
                    · exact M.out j (by omega))
                  clear hd
                  go_wp2_with fail
                  go_quiet (fail)
                  go_wp2_with fail
                  go_roundw
                  case rel => exact ⟨g + 1 + 1, by omega, by go_num, M2, Lib.hid (below_drewN HB5.out _)⟩
                  case measure => simp [intOf]; omega
      · obtain rfl : k = m := by omega
        have HOKA := Lib.hid (all_range (p := okAt all core) (n := core.length) (fun j hj => M.out j (by rw [← HC.out]; exact hj)))
        rw [HOKA.out, if_pos rfl] at HR
        obtain ⟨f, hf⟩ : ∃ f, fineB l core = f := ⟨_, rfl⟩
        rw [hf] at HR
        have HF := Lib.hid hf
        clear hf M
        go_wp2_with fail
        refine (rfine_any A1 n1 c1 l A2 k cm core wr (H1.out.go HB3.out) hn1 (H3.out.go HB3.out) hm).mono ?_
        rw [HFV.out, HF.out]
        rintro e w3 ⟨rfl, b4⟩
        have HB5 := Lib.hid (below_go HB3.out b4)
        clear b4
        cases f
        · rw [if_neg (by simp)] at HR
          have HC3 := Lib.hid (H1.out.go HB5.out)
          have H33 := Lib.hid (H3.out.go HB5.out)
          clear HB2 HB3 B HB1
          go_wp2_with fail
          go_loopw [11] (fun x wq => ∃ i : Nat, i ≤ k ∧ x = .int .i64 i ∧ Hid (∀ j, j < i → fineB l (core.eraseIdx j) = true) ∧ Hid (Below w3.heap.size w3 wq)) (fun x _ => k - (intOf x).toNat)
          case atStart => exact ⟨0, by omega, rfl, Lib.hid (fun j hj => absurd hj (by omega)), Lib.hid (Below.refl _ _)⟩
          case round =>
            obtain ⟨i, hi, rfl, M, B⟩ := hrel
            by_cases hil : i < k
            · obtain ⟨b3, o3, rfl, hbb, x1⟩ := (H33.out.go B.out).int hil
              have j1 : (i : Int) < (k : Int) := by omega
              obtain ⟨fe, hfe⟩ : ∃ fe, fineB l (core.eraseIdx i) = fe := ⟨_, rfl⟩
              have HFE := Lib.hid hfe
              obtain ⟨ne, hne⟩ : ∃ ne, (intCells (core.eraseIdx i)).length = ne := ⟨_, rfl⟩
              have hne9 : ne ≤ 1000 := by rw [← hne, intCells, List.length_map]; exact Nat.le_trans (List.length_eraseIdx_le core i) (by rw [HC.out]; exact hm)
              have HNE := Lib.hid hne
              have HX := Lib.hid (H33.out.go B.out)
              clear hfe hne x1
              go_wp2_with fail
              refine (without_any b3 o3 k cm i core wr HX.out hm hmc hil).mono ?_
              rintro e w4 ⟨v4, rfl, hq4, b4⟩
              obtain ⟨A4, c4, rfl, hc4, hr4⟩ := hq4.rd
              rw [HNE.out] at hr4 hc4 ⊢
              have HR4 := Lib.hid hr4
              have HB7 := Lib.hid b4
              clear hq4 hr4 b4 hc4
              go_wp2_with fail
              refine (rfine_any A1 n1 c1 l A4 ne c4 (core.eraseIdx i) w4 ((HC3.out.go B.out).go HB7.out) hn1 HR4.out hne9).mono ?_
              rw [HFV.out, HFE.out]
              rintro e w5 ⟨rfl, b5⟩
              have HB8 := Lib.hid (below_go HB7.out b5)
              clear b5
              cases fe
              · have HR2 := Lib.hid (show 27 = r by rw [← HR.out, all_range_bad (i := i) (by rw [HC.out]; exact hil) HFE.out, if_neg (by simp)])
                have HB9 := Lib.hid (below_go HB5.out (below_go B.out HB8.out))
                go_wp2_with fail
                go_ret
                exact RetB.of (by rw [← HR2.out]; rfl) HB9.out
              · have M2 := Lib.hid (show ∀ j, j < i + 1 → fineB l (core.eraseIdx j) = true from fun j hj => by
                  by_cases e : j = i
                  · subst e; exact HFE.out
                  · exact M.out j (by omega))
                have HB9 := Lib.hid (below_go B.out HB8.out)
                go_wp2_with fail
                go_roundw
                case rel => exact ⟨i + 1, by omega, by go_num, M2, HB9⟩
                case measure => simp [intOf]; omega
            · obtain rfl : i = k := by omega
              have HR2 := Lib.hid (show 0 = r by rw [← HR.out, all_range (fun j hj => M.out j (by rw [← HC.out]; exact hj)), if_pos rfl])
              have HB6 := Lib.hid (below_go HB5.out B.out)
              go_wp2_with fail
              go_ret
              exact RetB.of (by rw [← HR2.out]; rfl) HB6.out
        · have HR2 := Lib.hid (show 27 = r by rw [← HR.out, if_pos rfl])
          go_wp2_with fail
          go_ret
          exact RetB.of (by rw [← HR2.out]; rfl) HB5.out
end Go.Proofs.Ytflfachkoffiiaa
