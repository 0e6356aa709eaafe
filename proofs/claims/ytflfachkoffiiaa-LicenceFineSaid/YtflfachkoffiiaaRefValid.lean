/- The reference's Valid. -/
import Derived.Test.YtflfachkoffiiaaValid
namespace Go.Proofs.Ytflfachkoffiiaa
open Go.RowKit

theorem valid_all {l : List ClV} {n : Nat} (hl : l.length = n) (h32 : n ≤ 32) (h : ∀ c ∈ l.take n, badC c = false) : validB l = true := by
  rw [List.take_of_length_le (by omega)] at h
  rw [validB, hl, decide_eq_true h32, List.any_eq_false.2 (fun x hx => by rw [h x hx]; simp)]; rfl
theorem valid_bad {l : List ClV} {k : Nat} {c : ClV} (h : l[k]? = some c) (hb : badC c = true) : validB l = false := by
  rw [validB, any_hit h hb, Bool.not_true, Bool.and_false]
theorem all_take {α : Type} {l : List α} {n : Nat} {P : α → Prop} (hl : l.length = n) (h : ∀ y ∈ l.take n, P y) : ∀ y ∈ l, P y := by
  rw [List.take_of_length_le (by omega)] at h; exact h

set_option maxHeartbeats 4000000 in
set_option maxRecDepth 100000 in
theorem rvalid_any (A : Option Addr) (n c : Nat) (l : List ClV) (w : World) (h : Cls w w.heap.size A n l) (_hn : n ≤ 9223372036854775807) (b : Bool) (hb : Hid (validB l = b)) : Calls Try.prog 12 #[.slice A n c] w (RetB (.bool b) w) := by
  have H := Lib.hid h
  have HL := Lib.hid h.len
  by_cases h32 : n ≤ 32
  · clear h
    go_enter Try.func12, Try.ntmps12
    go_wp2_with fail
    go_loopw [3] (fun x wr => ∃ k : Nat, k ≤ n ∧ x = .int .i64 k ∧ Hid (∀ y ∈ l.take k, badC y = false) ∧ Hid (Below w.heap.size w wr)) (fun x _ => n - (intOf x).toNat)
    case atStart => exact ⟨0, by omega, rfl, Lib.hid (by simp), Lib.hid (Below.refl _ _)⟩
    case round =>
      obtain ⟨k, hk, rfl, M, B⟩ := hrel
      by_cases hlt : k < n
      · obtain ⟨b1, o1, x, rfl, hbb, hx, hxa, x0, x1, x2⟩ := (H.out.keep (w' := wr) (fun p hp => B.out.cell hp)).at_ hlt
        have l1 := hxa.l1
        have l2 := hxa.l2
        obtain ⟨name, A1, n1, c1, must, A2, n2, c2, nots⟩ := x
        obtain ⟨nm, m1, m2, r1, r2, f1, f2⟩ := hxa
        dsimp only at nm m1 m2 r1 r2 f1 f2 l1 l2 x0 x1 x2
        have HX := Lib.hid hx
        have HBD := Lib.hid (show badC ⟨name, A1, n1, c1, must, A2, n2, c2, nots⟩ = (decide (16 < name.length) || decide (8 < n1) || decide (8 < n2) || must.any (fun s => !condB s) || nots.any (fun s => !atomB s)) by unfold badC; rw [l1, l2])
        obtain ⟨sn, hsn⟩ : ∃ sn : ByteArray, sn = ⟨name.toArray⟩ := ⟨_, rfl⟩
        have zn : sn.size = name.length := by rw [hsn, mk_size]
        obtain ⟨nl, hnl⟩ : ∃ nl, nl = name.length := ⟨_, rfl⟩
        rw [← hnl] at zn HBD
        rw [show str name = .string sn by rw [hsn]] at x0
        have L1 := Lib.hid l1
        have L2 := Lib.hid l2
        have F1 := Lib.hid f1
        have F2 := Lib.hid f2
        have R1 := Lib.hid r1
        have R2 := Lib.hid r2
        have HB0 := Lib.hid (Nat.lt_of_lt_of_le hbb B.out.size)
        have HC := Lib.hid (And.intro x0 (And.intro x1 x2))
        have j1 : (k : Int) < (n : Int) := by omega
        have j0 : (0 : Int) ≤ (k : Int) := by omega
        clear hx hsn hnl nm l1 l2 f1 f2 r1 r2
        by_cases h1 : 16 < nl
        · have HV := Lib.hid (valid_bad HX.out (by rw [HBD.out]; simp [h1]))
          go_wp2_with fail
          go_ret
          exact RetB.of (by rw [← hb.out, HV.out]; rfl) B.out
        by_cases h2 : 8 < n1
        · have HV := Lib.hid (valid_bad HX.out (by rw [HBD.out]; simp [h2]))
          go_wp2_with fail
          go_ret
          exact RetB.of (by rw [← hb.out, HV.out]; rfl) B.out
        by_cases h3 : 8 < n2
        · have HV := Lib.hid (valid_bad HX.out (by rw [HBD.out]; simp [h3]))
          go_wp2_with fail
          go_ret
          exact RetB.of (by rw [← hb.out, HV.out]; rfl) B.out
        rw [decide_eq_false h1, decide_eq_false h2, decide_eq_false h3] at HBD
        have n1' : n1 ≤ 8 := by omega
        have n2' : n2 ≤ 8 := by omega
        have HW := Lib.hid B.out
        obtain ⟨wm, rfl⟩ : ∃ wm, wm = wr := ⟨_, rfl⟩
        go_wp2_with fail
        go_loopw [4] (fun y wq => ∃ q : Nat, q ≤ n1 ∧ y = .int .i64 q ∧ Hid (∀ s ∈ must.take q, condB s = true) ∧ Hid (Below wm.heap.size wm wq)) (fun y _ => n1 - (intOf y).toNat)
        case atStart => exact ⟨0, by omega, rfl, Lib.hid (by simp), Lib.hid (Below.refl _ _)⟩
        case round =>
          obtain ⟨q, hq, rfl, M1, B1⟩ := hrel
          have x1 := (B1.out.cell (p := ⟨b1, o1 + k * 3 + 1, none⟩) HB0.out).trans HC.out.2.1
          have x2 := (B1.out.cell (p := ⟨b1, o1 + k * 3 + 2, none⟩) HB0.out).trans HC.out.2.2
          by_cases hql : q < n1
          · obtain ⟨b2, o2, rfl, _, y1⟩ := ((R1.out.more HW.out.size).below B1.out).str L1.out hql
            have hkl : q < must.length := by have := L1.out; omega
            have i1 : (q : Int) < (n1 : Int) := by omega
            have i0 : (0 : Int) ≤ (q : Int) := by omega
            have MX := Lib.hid (List.getElem?_eq_getElem hkl)
            obtain ⟨sp, hsp⟩ : ∃ sp : ByteArray, sp = ⟨must[q].toArray⟩ := ⟨_, rfl⟩
            rw [← hsp] at y1
            have zs : sp.size ≤ 9223372036854775807 := by rw [hsp, mk_size]; exact F1.out _ (List.getElem_mem hkl)
            obtain ⟨p, hp⟩ : ∃ p, condB must[q] = p := ⟨_, rfl⟩
            have HP := Lib.hid (show condB sp.data.toList = p by rw [← hp, hsp])
            cases p
            · have HV := Lib.hid (valid_bad HX.out (by rw [HBD.out, any_hit (p := fun s => !condB s) MX.out (by show (!condB must[q]) = true; rw [hp]; rfl)]; rfl))
              clear hsp hp
              go_wp2_with fail
              refine (rcond_any sp wr zs false HP).mono ?_
              rintro e w' ⟨rfl, hb'⟩
              go_wp2_with fail
              go_ret
              exact RetB.of (by rw [← hb.out, HV.out]; rfl) (below_go HW.out (below_go B1.out hb'))
            · have M2 := Lib.hid (take_more (P := fun s => condB s = true) MX.out M1.out hp)
              clear hsp hp
              go_wp2_with fail
              refine (rcond_any sp wr zs true HP).mono ?_
              rintro e w' ⟨rfl, hb'⟩
              go_wp2_with fail
              go_roundw
              case rel => exact ⟨q + 1, by omega, by go_num, M2, Lib.hid (below_go B1.out hb')⟩
              case measure => simp [intOf]; omega
          · obtain rfl : q = n1 := by omega
            have HM := Lib.hid (show must.any (fun s => !condB s) = false from any_miss L1.out (fun y hy => by simp only [M1.out y hy]; rfl))
            rw [HM.out] at HBD
            have HW2 := Lib.hid (below_go HW.out B1.out)
            have HB1 := Lib.hid (Nat.lt_of_lt_of_le HB0.out B1.out.size)
            have HC1 := Lib.hid (And.intro x1 x2)
            have R2' := Lib.hid ((R2.out.more HW.out.size).below B1.out)
            obtain ⟨wn, rfl⟩ : ∃ wn, wn = wr := ⟨_, rfl⟩
            go_wp2_with fail
            go_loopw [5] (fun y wq => ∃ q : Nat, q ≤ n2 ∧ y = .int .i64 q ∧ Hid (∀ s ∈ nots.take q, atomB s = true) ∧ Hid (Below wn.heap.size wn wq)) (fun y _ => n2 - (intOf y).toNat)
            case atStart => exact ⟨0, by omega, rfl, Lib.hid (by simp), Lib.hid (Below.refl _ _)⟩
            case round =>
              obtain ⟨r, hr, rfl, M3, B3⟩ := hrel
              have x2 := (B3.out.cell (p := ⟨b1, o1 + k * 3 + 2, none⟩) HB1.out).trans HC1.out.2
              by_cases hrl : r < n2
              · obtain ⟨b2, o2, rfl, _, y1⟩ := ((R2'.out.more B1.out.size).below B3.out).str L2.out hrl
                have hkl : r < nots.length := by have := L2.out; omega
                have i1 : (r : Int) < (n2 : Int) := by omega
                have i0 : (0 : Int) ≤ (r : Int) := by omega
                have MX := Lib.hid (List.getElem?_eq_getElem hkl)
                obtain ⟨sp, hsp⟩ : ∃ sp : ByteArray, sp = ⟨nots[r].toArray⟩ := ⟨_, rfl⟩
                rw [← hsp] at y1
                have zs : sp.size ≤ 9223372036854775807 := by rw [hsp, mk_size]; exact F2.out _ (List.getElem_mem hkl)
                obtain ⟨p, hp⟩ : ∃ p, atomB nots[r] = p := ⟨_, rfl⟩
                have HP := Lib.hid (show atomB sp.data.toList = p by rw [← hp, hsp])
                cases p
                · have HV := Lib.hid (valid_bad HX.out (by rw [HBD.out, any_hit (p := fun s => !atomB s) MX.out (by show (!atomB nots[r]) = true; rw [hp]; rfl)]; rfl))
                  clear hsp hp
                  go_wp2_with fail
                  refine (ratom_any sp wr zs false HP).mono ?_
                  rintro e w' ⟨rfl, hb'⟩
                  go_wp2_with fail
                  go_ret
                  exact RetB.of (by rw [← hb.out, HV.out]; rfl) (below_go HW2.out (below_go B3.out hb'))
                · have M2 := Lib.hid (take_more (P := fun s => atomB s = true) MX.out M3.out hp)
                  clear hsp hp
                  go_wp2_with fail
                  refine (ratom_any sp wr zs true HP).mono ?_
                  rintro e w' ⟨rfl, hb'⟩
                  go_wp2_with fail
                  go_roundw
                  case rel => exact ⟨r + 1, by omega, by go_num, M2, Lib.hid (below_go B3.out hb')⟩
                  case measure => simp [intOf]; omega
              · obtain rfl : r = n2 := by omega
                have HM2 := Lib.hid (show nots.any (fun s => !atomB s) = false from any_miss L2.out (fun y hy => by simp only [M3.out y hy]; rfl))
                rw [HM2.out] at HBD
                have M4 := Lib.hid (take_more HX.out M.out HBD.out)
                go_wp2_with fail
                go_roundw
                case rel => exact ⟨k + 1, by omega, by go_num, M4, Lib.hid (below_go HW2.out B3.out)⟩
                case measure => simp [intOf]; omega
      · obtain rfl : k = n := by omega
        have HV := Lib.hid (valid_all HL.out h32 M.out)
        go_wp2_with fail
        go_ret
        exact RetB.of (by rw [← hb.out, HV.out]; rfl) B.out
  · have HB := Lib.hid (show false = b by rw [← hb.out, validB, h.len, decide_eq_false h32]; rfl)
    clear h hb
    go_enter Try.func12, Try.ntmps12
    go_wp2_with fail
    go_ret
    exact RetB.of (by rw [← HB.out]; rfl) (Below.refl _ _)
end Go.Proofs.Ytflfachkoffiiaa
