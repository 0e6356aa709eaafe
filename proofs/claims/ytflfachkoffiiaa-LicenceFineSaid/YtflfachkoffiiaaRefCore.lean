/- The reference's Core. -/
import Derived.Test.YtflfachkoffiiaaSubs
namespace Go.Proofs.Ytflfachkoffiiaa
open Go.RowKit Go.Lib

/-- the best contradiction so far -/
structure Best (l : List ClV) (all : List Int) (bits : Nat) (b : List Int) : Prop where
  sub : b.Sublist all
  bad : fineB l b = false
  least : ∀ j, j < bits → fineB l (chosenL all j) = false → lessB (chosenL all j) b = false
theorem less_irr (b : List Int) : lessB b b = false := by
  unfold lessB
  rw [if_pos rfl]
  induction b with
  | nil => rfl
  | cons x b ih => rw [lexB, if_pos rfl]; exact ih
theorem Best.take {l : List ClV} {all b : List Int} {bits : Nat} (h : Best l all bits b) (hl : lessB (chosenL all bits) b = true) (hf : fineB l (chosenL all bits) = false) : Best l all (bits + 1) (chosenL all bits) := by
  refine ⟨chosen_sub _ _, hf, fun j hj hb => ?_⟩
  by_cases e : j = bits
  · subst e; exact less_irr _
  · cases hc : lessB (chosenL all j) (chosenL all bits)
    · rfl
    · have := less_trans hc hl
      rw [h.least j (by omega) hb] at this; cases this
theorem Best.skip {l : List ClV} {all b : List Int} {bits : Nat} (h : Best l all bits b) (hl : lessB (chosenL all bits) b = false ∨ fineB l (chosenL all bits) = true) : Best l all (bits + 1) b := by
  refine ⟨h.sub, h.bad, fun j hj hb => ?_⟩
  by_cases e : j = bits
  · subst e
    rcases hl with hl | hl
    · exact hl
    · rw [hl] at hb; cases hb
  · exact h.least j (by omega) hb
theorem Best.done {l : List ClV} {all b : List Int} (h : Best l all (2 ^ all.length) b) : IsCore l all b := by
  refine ⟨h.sub, h.bad, fun x hx hf => ?_⟩
  obtain ⟨j, hj, rfl⟩ := sub_chosen hx
  exact h.least j hj hf

theorem pow_wrap (nl : Nat) (h : nl ≤ 8) : wrap64 ((2 : Int) ^ nl) = ((2 ^ nl : Nat) : Int) := by
  have h1 : (2 : Int) ^ nl = ((2 ^ nl : Nat) : Int) := by rw [Int.natCast_pow]; rfl
  have h2 : 2 ^ nl ≤ 2 ^ 8 := Nat.pow_le_pow_right (by omega) h
  rw [h1]
  generalize 2 ^ nl = a at *
  exact IntWalk.wrap64_in _ (by omega)
set_option maxHeartbeats 8000000 in
set_option maxRecDepth 100000 in
theorem rcore_any (A1 : Option Addr) (n1 c1 : Nat) (l : List ClV) (A : Option Addr) (n c : Nat) (sel : List Int) (w : World) (h1 : Cls w w.heap.size A1 n1 l) (hn1 : n1 ≤ 1000) (h2 : Rd w w.heap.size 1 A n (intCells sel)) (hn : n ≤ 1000) (h8 : validB l = true → (sortedTo sel l.length).length ≤ 8) (zs : List Int) (hz : Hid (coreV l sel = zs)) :
    Calls Try.prog 19 #[.slice A1 n1 c1, .slice A n c] w (IntsPost zs w) := by
  have HL := Lib.hid h1.len
  have HS := Lib.hid (int_len h2)
  have H1 := Lib.hid h1
  have H2 := Lib.hid h2
  clear h1 h2
  cases hv : validB l
  · have HV := Lib.hid hv
    have HZ := Lib.hid (show [] = zs by rw [← hz.out, coreV_invalid hv])
    have HFV := Lib.hid (fun s : List Int => show fineV l s = false by rw [fineV, hv]; rfl)
    obtain ⟨all, hall⟩ : ∃ all, all = sortedTo sel n1 := ⟨_, rfl⟩
    have hal : all.length ≤ n1 := by rw [hall]; exact sortedTo_len _ _
    obtain ⟨nl, hnl⟩ : ∃ nl, nl = all.length := ⟨_, rfl⟩
    clear hv hz
    go_enter Try.func19, Try.ntmps19
    go_wp2_with fail
    refine (rsorted_any A1 n1 c1 A n c sel w H2.out (by omega) (by omega)).mono ?_
    rw [← hall]
    rintro e w2 h4
    obtain ⟨As, cs, rfl, hrs, hcs, b2⟩ := h4.open_
    rw [← hnl] at hrs hcs ⊢
    have HRS := Lib.hid hrs
    have HB2 := Lib.hid b2
    have hnl9 : nl ≤ 1000 := by omega
    clear hrs b2 hall hnl h4 hal
    go_wp2_with fail
    refine (rfine_any A1 n1 c1 l As nl cs all w2 (H1.out.go HB2.out) (by omega) HRS.out hnl9).mono ?_
    rw [HFV.out]
    rintro e w3 ⟨rfl, b3⟩
    have HB3 := Lib.hid (below_go HB2.out b3)
    clear b3
    go_wp2_with fail
    refine (rvalid_any A1 n1 c1 l w3 (H1.out.go HB3.out) (by omega) false HV).mono ?_
    rintro e w4 ⟨rfl, b4⟩
    have HB4 := Lib.hid (below_go HB3.out b4)
    clear b4
    go_wp2_with fail
    go_ret
    exact ⟨none, 0, by rw [← HZ.out]; rfl, by rw [← HZ.out]; exact Rd.nil, by rw [← HZ.out]; exact Nat.le_refl _, HB4.out⟩
  · have HV := Lib.hid hv
    have h8 := h8 hv
    rw [HL.out] at h8
    have HFV := Lib.hid (fun s : List Int => show fineV l s = fineB l s by rw [fineV, hv]; rfl)
    obtain ⟨all, hall⟩ : ∃ all, all = sortedTo sel n1 := ⟨_, rfl⟩
    rw [← hall] at h8
    obtain ⟨nl, hnl⟩ : ∃ nl, nl = all.length := ⟨_, rfl⟩
    rw [← hnl] at h8
    have HNL := Lib.hid hnl.symm
    have HALL := Lib.hid hall
    cases hf : fineB l all
    · have HF := Lib.hid hf
      have HBest := Lib.hid (show Best l all 0 all from ⟨List.Sublist.refl _, hf, fun j hj => absurd hj (by omega)⟩)
      have HFin := Lib.hid (show ∀ b, Best l all (2 ^ nl) b → b = zs from fun b hb => by
        rw [← hz.out]
        have hc := (show Best l all (2 ^ all.length) b by rw [← hnl]; exact hb).done
        rw [hall, ← HL.out] at hc
        exact (coreV_of HV.out (by rw [HL.out, ← hall, ← hnl]; omega) hc).symm)
      obtain ⟨N, hN⟩ : ∃ N, N = 2 ^ nl := ⟨_, rfl⟩
      have hw := pow_wrap nl h8
      have hN9 : N ≤ 256 := by rw [hN]; exact Nat.pow_le_pow_right (by omega : 0 < 2) h8
      rw [← hN] at hw HFin
      have HW := Lib.hid hw
      clear hv hf hz hN hw
      go_enter Try.func19, Try.ntmps19
      go_wp2_with fail
      refine (rsorted_any A1 n1 c1 A n c sel w H2.out (by omega) (by omega)).mono ?_
      rw [← hall]
      rintro e w2 h4
      obtain ⟨As, cs, rfl, hrs, hcs, b2⟩ := h4.open_
      rw [← hnl] at hrs hcs ⊢
      have HRS := Lib.hid hrs
      have HB2 := Lib.hid b2
      clear hrs b2 hall hnl h4
      go_wp2_with fail
      refine (rfine_any A1 n1 c1 l As nl cs all w2 (H1.out.go HB2.out) (by omega) HRS.out (by omega)).mono ?_
      rw [HFV.out, HF.out]
      rintro e w3 ⟨rfl, b3⟩
      have HB3 := Lib.hid (below_go HB2.out b3)
      have HR3 := Lib.hid (HRS.out.go b3)
      clear b3
      go_wp2_with fail
      refine (rvalid_any A1 n1 c1 l w3 (H1.out.go HB3.out) (by omega) true HV).mono ?_
      rintro e w4 ⟨rfl, b4⟩
      have HB4 := Lib.hid (below_go HB3.out b4)
      have HR4 := Lib.hid (HR3.out.go b4)
      clear b4
      go_wp2_with fail
      go_loopw [6, 7] (fun v x wr => ∃ (bits : Nat) (bl : List Int) (Ab : Option Addr) (nb cb : Nat), bits ≤ N ∧ x = .int .i64 bits ∧ v = .slice Ab nb cb ∧ nb ≤ cb ∧ Hid (Rd wr wr.heap.size 1 Ab nb (intCells bl)) ∧ Hid (Best l all bits bl) ∧ Hid (Below w4.heap.size w4 wr)) (fun _ x _ => N - (intOf x).toNat)
      case atStart => exact ⟨0, all, As, nl, cs, Nat.zero_le _, rfl, rfl, hcs, HR4, HBest, Lib.hid (Below.refl _ _)⟩
      case round =>
        obtain ⟨bits, bl, Ab, nb, cb, hbits, rfl, rfl, hnb, Q, HBe, B⟩ := hrel
        have hw := HW.out
        by_cases hlt : bits < N
        · have j1 : (bits : Int) < (N : Int) := by omega
          have hnb9 : nb ≤ 8 := by have := HBe.out.sub.length_le; have := int_len Q.out; have := HNL.out; omega
          obtain ⟨x, hx⟩ : ∃ x, chosenL all bits = x := ⟨_, rfl⟩
          have HX := Lib.hid hx
          have hxl : x.length ≤ nl := by rw [← hx, ← HNL.out]; exact (chosen_sub all bits).length_le
          obtain ⟨f, hf⟩ : ∃ f, lessB x bl = f := ⟨_, rfl⟩
          have HF1 := Lib.hid hf
          obtain ⟨fe, hfe⟩ : ∃ fe, fineB l x = fe := ⟨_, rfl⟩
          have HFE := Lib.hid hfe
          clear hf hfe
          go_wp2_with fail
          refine (chosen_any As nl cs all bits wr (HR4.out.go B.out) h8).mono ?_
          rw [hx]
          rintro e w5 ⟨v5, rfl, hq5, b5⟩
          obtain ⟨A5, c5, rfl, hc5, hr5⟩ := hq5.rd
          obtain ⟨nx, hnx⟩ : ∃ nx, nx = (intCells x).length := ⟨_, rfl⟩
          have hnx9 : nx ≤ 8 := by rw [hnx, intCells, List.length_map]; omega
          rw [← hnx] at hc5 hr5 ⊢
          have HR5 := Lib.hid hr5
          have HB5 := Lib.hid (below_go B.out b5)
          have HQ5 := Lib.hid (Q.out.go b5)
          clear hx hq5 b5 hr5 hnx hxl
          go_wp2_with fail
          refine (less_any A5 Ab nx nb c5 cb x bl w5 HR5.out HQ5.out (by omega) (by omega) f HF1).mono ?_
          rintro e w6 ⟨rfl, b6⟩
          have HB6 := Lib.hid (below_go HB5.out b6)
          have HR6 := Lib.hid (HR5.out.go b6)
          have HQ6 := Lib.hid (HQ5.out.go b6)
          clear b6
          cases f
          · have HN2 := Lib.hid (HBe.out.skip (.inl (by rw [HX.out]; exact HF1.out)))
            go_wp2_with fail
            go_roundw
            case rel => exact ⟨bits + 1, bl, Ab, nb, cb, by omega, by go_num, rfl, hnb, HQ6, HN2, HB6⟩
            case measure => simp [intOf]; omega
          · go_wp2_with fail
            refine (rfine_any A1 n1 c1 l A5 nx c5 x w6 ((H1.out.go HB4.out).go HB6.out) (by omega) HR6.out (by omega)).mono ?_
            rw [HFV.out, HFE.out]
            rintro e w7 ⟨rfl, b7⟩
            have HB7 := Lib.hid (below_go HB6.out b7)
            have HR7 := Lib.hid (HR6.out.go b7)
            have HQ7 := Lib.hid (HQ6.out.go b7)
            clear b7
            cases fe
            · have HN2 := Lib.hid (HBe.out.take (by rw [HX.out]; exact HF1.out) (by rw [HX.out]; exact HFE.out))
              rw [HX.out] at HN2
              go_wp2_with fail
              go_roundw
              case rel => exact ⟨bits + 1, x, A5, nx, c5, by omega, by go_num, rfl, hc5, HR7, HN2, HB7⟩
              case measure => simp [intOf]; omega
            · have HN2 := Lib.hid (HBe.out.skip (.inr (by rw [HX.out]; exact HFE.out)))
              go_wp2_with fail
              go_roundw
              case rel => exact ⟨bits + 1, bl, Ab, nb, cb, by omega, by go_num, rfl, hnb, HQ7, HN2, HB7⟩
              case measure => simp [intOf]; omega
        · obtain rfl : bits = N := by omega
          have HE := Lib.hid (HFin.out bl HBe.out)
          have HE2 := Lib.hid (int_len Q.out)
          have HB5 := Lib.hid (below_go HB4.out B.out)
          go_wp2_with fail
          go_ret
          exact ⟨Ab, cb, by rw [← HE.out, HE2.out]; rfl, by rw [← HE.out, HE2.out]; exact Q.out, by rw [← HE.out, HE2.out]; exact hnb, HB5.out⟩
    · have HF := Lib.hid hf
      have HZ := Lib.hid (show [] = zs by rw [← hz.out, coreV_fine (by rw [HL.out, ← hall]; exact hf)])
      clear hv hf hz
      go_enter Try.func19, Try.ntmps19
      go_wp2_with fail
      refine (rsorted_any A1 n1 c1 A n c sel w H2.out (by omega) (by omega)).mono ?_
      rw [← hall]
      rintro e w2 h4
      obtain ⟨As, cs, rfl, hrs, hcs, b2⟩ := h4.open_
      rw [← hnl] at hrs hcs ⊢
      have HRS := Lib.hid hrs
      have HB2 := Lib.hid b2
      clear hrs b2 hall hnl h4
      go_wp2_with fail
      refine (rfine_any A1 n1 c1 l As nl cs all w2 (H1.out.go HB2.out) (by omega) HRS.out (by omega)).mono ?_
      rw [HFV.out, HF.out]
      rintro e w3 ⟨rfl, b3⟩
      have HB3 := Lib.hid (below_go HB2.out b3)
      clear b3
      go_wp2_with fail
      go_ret
      exact ⟨none, 0, by rw [← HZ.out]; rfl, by rw [← HZ.out]; exact Rd.nil, by rw [← HZ.out]; exact Nat.le_refl _, HB3.out⟩
end Go.Proofs.Ytflfachkoffiiaa
