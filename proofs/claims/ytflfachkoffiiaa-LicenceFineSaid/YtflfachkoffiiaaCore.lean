/- The program's Core. -/
import Derived.Test.YtflfachkoffiiaaCombos
import Derived.WalkMore
namespace Go.Proofs.Ytflfachkoffiiaa
open Go.RowKit Go.Lib

/-- a row of numbers told by a function -/
def rowI (n : Nat) (h : Nat → Int) : Array Value := ((List.range n).map (fun j => Value.int .i64 (h j))).toArray
theorem rowI_size (n : Nat) (h : Nat → Int) : (rowI n h).size = n := by simp [rowI]
theorem rowI_get (n : Nat) (h : Nat → Int) {j : Nat} (hj : j < n) : (rowI n h)[j]? = some (.int .i64 (h j)) := by
  rw [rowI, List.getElem?_toArray, List.getElem?_map, List.getElem?_range hj]; rfl
theorem rowI_set (n : Nat) (h : Nat → Int) (k : Nat) (v : Int) : (rowI n h).setIfInBounds k (.int .i64 v) = rowI n (fun j => if j = k then v else h j) := by
  apply Array.ext_getElem?
  intro j
  rw [Array.getElem?_setIfInBounds]
  by_cases hj : j < n
  · rw [rowI_get n _ hj]
    by_cases e : k = j
    · subst e
      rw [if_pos rfl, if_pos (by rw [rowI_size]; exact hj), rowI_get _ _ hj, if_pos rfl]
    · rw [if_neg e, rowI_get n _ hj, if_neg (fun e' => e e'.symm)]
  · have h1 : (rowI n h)[j]? = none := Array.getElem?_eq_none (by rw [rowI_size]; omega)
    have h2 : (rowI n (fun j => if j = k then v else h j))[j]? = none := Array.getElem?_eq_none (by rw [rowI_size]; omega)
    rw [h1, h2]
    split
    · rw [if_neg (by rw [rowI_size]; omega)]
    · rfl
theorem rowI_congr {n : Nat} {h h' : Nat → Int} (e : ∀ j, j < n → h j = h' j) : rowI n h = rowI n h' := by
  unfold rowI
  rw [List.map_congr_left (fun j hj => by rw [e j (List.mem_range.1 hj)])]
theorem rowI_made (n : Nat) : madeCells (Value.int .i64 0).cells n = rowI n (fun _ => 0) := by
  apply Array.ext_getElem?
  intro j
  by_cases hj : j < n
  · rw [rowI_get n _ hj]
    have := congrArg (·[j]?) (made_list (.int .i64 0) n)
    simp only [Array.getElem?_toList] at this
    show (madeCells #[Value.int .i64 0] n)[j]? = _
    rw [this, List.getElem?_replicate, if_pos hj]
  · rw [Array.getElem?_eq_none (by show (madeCells #[Value.int .i64 0] n).size ≤ j; simp [madeCells]; omega), Array.getElem?_eq_none (by rw [rowI_size]; omega)]
theorem blk_rd {w : World} {g n : Nat} {h : Nat → Int} (hb : Blk w g 3 (rowI n h)) : Rd w w.heap.size 1 (some ⟨g, 0, none⟩) n (intCells ((List.range n).map h)) := by
  refine ⟨by simp [intCells], fun _ => ⟨g, 0, rfl, hb.lt, fun j u hu => ?_⟩⟩
  rw [Nat.zero_add, hb.cell]
  rw [rowI, List.getElem?_toArray]
  simpa [intCells] using hu
theorem make_run (w : World) (n : Nat) (hn : n ≤ 1000) : (Instr.makeSlice 22 (.int .i64 (n : Int)) (.int .i64 (n : Int))).run Try.prog w = .ok (.slice (some ⟨w.heap.size, 0, none⟩) n n) (w.alloc (.cells (rowI n (fun _ => 0)) 3)) := by
  obtain ⟨i0, hi, hz0, hz1, hz2⟩ := info_parts info3
  have h := run_make_rowN (P := Try.prog) 22 3 i0 _ Try.underlying22 hi hz0 .i64 .i64 n n (Nat.le_refl _) (by rw [hz2]; omega) (by omega) w
  rw [h, hz1, Nat.mul_one, rowI_made]
theorem below_set {B : Nat} {a w : World} (h : Below B a w) {p : Addr} (hp : B ≤ p.block) (u : Value) : Below B a (w.setCell p u) :=
  ⟨h.os, h.tape, h.output, by simpa [World.setCell] using h.size, fun i hi => (Below.heap_setCell _ _ _ _ (by omega)).trans (h.block i hi)⟩
theorem Blk.other {w : World} {g : Nat} {t : TypeId} {cs : Array Value} (h : Blk w g t cs) {p : Addr} (hp : p.block ≠ g) (u : Value) : Blk (w.setCell p u) g t cs := (Below.heap_setCell _ _ _ _ (fun e => hp e.symm)).trans h

theorem short_one (l : List ClV) (all : List Int) : Short l all 1 := by
  intro x _ hl
  obtain rfl : x = [] := List.eq_nil_of_length_eq_zero (by omega)
  exact fineB_iff.2 (fun i hi => by cases hi)
theorem rowI_upto {n : Nat} (k : Nat) (h : Nat → Int) {h' : Nat → Int} : (rowI n (fun j => if j < k then h j else h' j)).setIfInBounds k (.int .i64 (h k)) = rowI n (fun j => if j < k + 1 then h j else h' j) := by
  rw [rowI_set]
  refine rowI_congr (fun j _ => ?_)
  by_cases e : j = k
  · subst e; rw [if_pos rfl, if_pos (by omega)]
  · rw [if_neg e]
    by_cases e2 : j < k
    · rw [if_pos e2, if_pos (by omega)]
    · rw [if_neg e2, if_neg (by omega)]

/-- at the head of the endless loop: the row at block g, m steps ahead of the end -/
def MidS (l : List ClV) (all : List Int) (nl n g : Nat) (w4 wr : World) (m : Nat) : Prop :=
  ∃ f, Inc n all.length f ∧ Blk wr g 3 (rowI n (fun j => (f j : Int))) ∧ Ahead l all n f ∧ Below w4.heap.size w4 wr ∧ m = (nl + 1) ^ n - rankF nl f n

set_option maxHeartbeats 8000000 in
set_option maxRecDepth 100000 in
theorem core_any (A1 : Option Addr) (n1 c1 : Nat) (l : List ClV) (A : Option Addr) (n c : Nat) (sel : List Int) (w : World) (h1 : Cls w w.heap.size A1 n1 l) (hn1 : n1 ≤ 1000) (h2 : Rd w w.heap.size 1 A n (intCells sel)) (hn : n ≤ 1000) (zs : List Int) (hz : Hid (coreV l sel = zs)) :
    Calls Try.prog 18 #[.slice A1 n1 c1, .slice A n c] w (IntsPost zs w) := by
  have HL := Lib.hid h1.len
  have HS := Lib.hid (int_len h2)
  have H1 := Lib.hid h1
  have H2 := Lib.hid h2
  clear h1 h2
  obtain ⟨all, hall⟩ : ∃ all, all = sortedTo sel n1 := ⟨_, rfl⟩
  have hal : all.length ≤ n1 := by rw [hall]; exact sortedTo_len _ _
  obtain ⟨nl, hnl⟩ : ∃ nl, nl = all.length := ⟨_, rfl⟩
  rw [← hnl] at hal
  have HNL := Lib.hid hnl.symm
  have HALL := Lib.hid hall
  have HRng := Lib.hid (show ∀ i ∈ all, 0 ≤ i ∧ i < n1 by rw [hall]; exact sorted_range)
  have HAs := Lib.hid (show all.Pairwise (· < ·) by rw [hall]; exact sortedTo_rising sel n1)
  have HSorted := Lib.hid (show ∀ W : World, Rd W W.heap.size 1 A n (intCells sel) → Calls Try.prog 37 #[.slice A1 n1 c1, .slice A n c] W (IntsPost all W) from fun W hW => by rw [hall]; exact sorted_any A1 n1 c1 A n c sel W hW (by omega))
  cases hv : validB l
  · have HV := Lib.hid hv
    have HZ := Lib.hid (show [] = zs by rw [← hz.out, coreV_invalid hv])
    clear hv hz hall hnl
    go_enter Try.func18, Try.ntmps18
    go_wp2_with fail
    apply wp_scope_straight
    go_wp2_with fail
    refine (HSorted.out w H2.out).mono ?_
    rintro e w2 ⟨As, cs, rfl, hrs, hcs, b2⟩
    rw [HNL.out] at hrs hcs ⊢
    have HB2 := Lib.hid b2
    clear hrs b2
    go_wp2_with fail
    refine (valid_any A1 n1 c1 l w2 (H1.out.go HB2.out) (by omega) false HV).mono ?_
    rintro e w3 ⟨rfl, b3⟩
    have HB3 := Lib.hid (below_go HB2.out b3)
    clear b3
    go_wp2_with fail
    go_ret
    exact ⟨none, 0, by rw [← HZ.out]; rfl, by rw [← HZ.out]; exact Rd.nil, by rw [← HZ.out]; exact Nat.le_refl _, HB3.out⟩
  · have HV := Lib.hid hv
    by_cases h16 : nl ≤ 16
    · cases hf : fineB l all
      · have HF := Lib.hid hf
        have HSM := Lib.hid (small_of_valid hv)
        have HFin := Lib.hid (show ∀ b, IsCore l all b → b = zs from fun b hb => by
          rw [← hz.out]
          exact (coreV_of hv (by rw [HL.out, ← hall, ← hnl]; exact h16) (by rw [HL.out, ← hall]; exact hb)).symm)
        clear hv hz hall hnl hf
        go_enter Try.func18, Try.ntmps18
        go_wp2_with fail
        apply wp_scope_straight
        go_wp2_with fail
        refine (HSorted.out w H2.out).mono ?_
        rintro e w2 ⟨As, cs, rfl, hrs, hcs, b2⟩
        rw [HNL.out] at hrs hcs ⊢
        have HRS := Lib.hid hrs
        have HB2 := Lib.hid b2
        clear hrs b2
        go_wp2_with fail
        refine (valid_any A1 n1 c1 l w2 (H1.out.go HB2.out) (by omega) true HV).mono ?_
        rintro e w3 ⟨rfl, b3⟩
        have HB3 := Lib.hid (below_go HB2.out b3)
        have HR3 := Lib.hid (HRS.out.go b3)
        clear b3
        go_wp2_with fail
        refine (fine_any A1 n1 c1 l As nl cs all w3 (H1.out.go HB3.out) HR3.out HSM.out (by omega) HRng.out).mono ?_
        rw [HF.out]
        rintro e w4 ⟨rfl, b4⟩
        have HB4 := Lib.hid (below_go HB3.out b4)
        have HR4 := Lib.hid (HR3.out.go b4)
        have HC4 := Lib.hid (H1.out.go HB4.out)
        clear b4 HB3 HR3 HB2 HRS HSorted
        go_wp2_with fail
        apply wp_label
        go_wp2_with fail
        go_loopw [7] (fun x wr => ∃ sz : Nat, 1 ≤ sz ∧ sz ≤ nl + 1 ∧ x = .int .i64 sz ∧ Hid (Short l all sz) ∧ Hid (Below w4.heap.size w4 wr)) (fun x _ => nl + 1 - (intOf x).toNat)
        case atStart => exact ⟨1, by omega, by omega, rfl, Lib.hid (short_one l all), Lib.hid (Below.refl _ _)⟩
        case round =>
          obtain ⟨sz, hsz1, hsz, rfl, HSh, B⟩ := hrel
          by_cases hlt : sz ≤ nl
          · have j1 : (sz : Int) ≤ (nl : Int) := by omega
            have hmk := make_run wr sz (by omega)
            have HBk := Lib.hid (Blk.new wr 3 (rowI sz (fun _ => 0)))
            have HBa := Lib.hid (B.out.alloc B.out.size (.cells (rowI sz (fun _ => 0)) 3))
            obtain ⟨g, hg⟩ : ∃ g, g = wr.heap.size := ⟨_, rfl⟩
            have hg4 : w4.heap.size ≤ g := by rw [hg]; exact B.out.size
            rw [← hg] at hmk HBk
            obtain ⟨wa, hwa⟩ : ∃ wa, wa = wr.alloc (.cells (rowI sz (fun _ => 0)) 3) := ⟨_, rfl⟩
            rw [← hwa] at hmk HBk HBa
            clear hg hwa B
            go_wp2_with fail
            clear hmk
            go_loopw [41] (fun x wq => ∃ k : Nat, k ≤ sz ∧ x = .int .i64 k ∧ Blk wq g 3 (rowI sz (fun j => if j < k then (j : Int) else 0)) ∧ Hid (Below w4.heap.size w4 wq)) (fun x _ => sz - (intOf x).toNat)
            case atStart => exact ⟨0, by omega, rfl, by rw [rowI_congr (h' := fun _ => 0) (fun j _ => if_neg (by omega))]; exact HBk.out, HBa⟩
            case round =>
              obtain ⟨k, hk, rfl, hbk, B1⟩ := hrel
              by_cases hkl : k < sz
              · have i1 : (k : Int) < (sz : Int) := by omega
                have i0 : (0 : Int) ≤ (k : Int) := by omega
                have y1 := (hbk.cell k).trans (rowI_get _ _ hkl)
                have y2 := hbk.frozen k
                have HN := Lib.hid (hbk.set_ k (.int .i64 (k : Int)))
                have HB5 := Lib.hid (B1.out.setCell (p := ⟨g, k, none⟩) hg4 (.int .i64 (k : Int)))
                clear hbk
                go_wp2_with fail
                go_roundw
                case rel => exact ⟨k + 1, by omega, by go_num, by rw [← rowI_upto k (fun j => (j : Int))]; exact HN.out, HB5⟩
                case measure => simp [intOf]; omega
              · obtain rfl : k = sz := by omega
                have HSt := Lib.hid (show ∃ m, MidS l all nl k g w4 wr m from ⟨_, fun j => j, by rw [HNL.out]; exact inc_id (by omega), by rw [← rowI_congr (h := fun j => if j < k then (j : Int) else 0) (fun j hj => if_pos hj)]; exact hbk, fun h hh hl => absurd hl (first_least hh), B1.out, rfl⟩)
                clear hbk B1 HBk HBa
                go_wp2_with fail
                go_loopw [] (fun wq => ∃ m, MidS l all nl k g w4 wq m) (fun wq => gmeas (MidS l all nl k g w4 wq))
                case atStart => exact HSt.out
                case round =>
                  clear HSt
                  have hgm := gmeas_spec hrel
                  clear hrel
                  obtain ⟨mm, hmm⟩ : ∃ m, gmeas (MidS l all nl k g w4 wr) = m := ⟨_, rfl⟩
                  rw [hmm] at hgm
                  have HG := Lib.hid hmm
                  clear hmm
                  obtain ⟨f, hInc, hblk, hA, hB, hrk⟩ := hgm
                  have HInc := Lib.hid hInc
                  have HA := Lib.hid hA
                  have HRk := Lib.hid hrk
                  have HBlk := Lib.hid hblk
                  have HBm := Lib.hid hB
                  have hmk := make_run wr k (by omega)
                  have HB2' := Lib.hid (Blk.new wr 3 (rowI k (fun _ => 0)))
                  have HBa := Lib.hid (hB.alloc hB.size (.cells (rowI k (fun _ => 0)) 3))
                  have HBg := Lib.hid (hblk.below (below_new wr (.cells (rowI k (fun _ => 0)) 3)) hblk.lt)
                  obtain ⟨g2, hg2⟩ : ∃ g2, g2 = wr.heap.size := ⟨_, rfl⟩
                  have hg24 : w4.heap.size ≤ g2 := by rw [hg2]; exact hB.size
                  have hgg : g ≠ g2 := by rw [hg2]; exact Nat.ne_of_lt hblk.lt
                  rw [← hg2] at hmk HB2'
                  obtain ⟨wa, hwa⟩ : ∃ wa, wa = wr.alloc (.cells (rowI k (fun _ => 0)) 3) := ⟨_, rfl⟩
                  rw [← hwa] at hmk HB2' HBa HBg
                  clear hg2 hwa hInc hA hrk hblk hB
                  go_wp2_with fail
                  clear hmk
                  go_loopw [53] (fun x wq => ∃ q : Nat, q ≤ k ∧ x = .int .i64 q ∧ Blk wq g2 3 (rowI k (fun j => if j < q then all.getD (f j) 0 else 0)) ∧ Blk wq g 3 (rowI k (fun j => (f j : Int))) ∧ Hid (Below w4.heap.size w4 wq)) (fun x _ => k - (intOf x).toNat)
                  case atStart => exact ⟨0, by omega, rfl, by rw [rowI_congr (h' := fun _ => 0) (fun j _ => if_neg (by omega))]; exact HB2'.out, HBg.out, HBa⟩
                  case round =>
                    obtain ⟨q, hq, rfl, hb2, hbg, B1⟩ := hrel
                    by_cases hql : q < k
                    · have i1 : (q : Int) < (k : Int) := by omega
                      have i0 : (0 : Int) ≤ (q : Int) := by omega
                      have hfq : f q < nl := by rw [← HNL.out]; exact HInc.out.2 q hql
                      have y1 := (hbg.cell q).trans (rowI_get _ _ hql)
                      obtain ⟨b5, o5, rfl, hb5, z1⟩ := (HR4.out.go B1.out).int hfq
                      have y2 := (hb2.cell q).trans (rowI_get _ _ hql)
                      have y3 := hb2.frozen q
                      have HN := Lib.hid (hb2.set_ q (.int .i64 (all.getD (f q) 0)))
                      have HN2 := Lib.hid (hbg.other (p := ⟨g2, q, none⟩) (fun e => hgg e.symm) (.int .i64 (all.getD (f q) 0)))
                      have HB5 := Lib.hid (B1.out.setCell (p := ⟨g2, q, none⟩) hg24 (.int .i64 (all.getD (f q) 0)))
                      have i2 : ((f q : Nat) : Int) < (nl : Int) := by omega
                      have i3 : (0 : Int) ≤ ((f q : Nat) : Int) := by omega
                      clear hb2 hbg
                      generalize hz9 : all.getD (f q) 0 = z9 at *
                      have HZ9 := Lib.hid hz9
                      clear hz9
                      go_wp2_with fail
                      go_roundw
                      case rel => exact ⟨q + 1, by omega, by go_num, by rw [← rowI_upto q (fun j => all.getD (f j) 0), HZ9.out]; exact HN.out, HN2.out, HB5⟩
                      case measure => simp [intOf]; omega
                    · obtain rfl : q = k := by omega
                      have HRd := Lib.hid (show Rd wr wr.heap.size 1 (some ⟨g2, 0, none⟩) q (intCells (pickF all q f)) by
                        have := blk_rd hb2
                        rwa [show (List.range q).map (fun j => if j < q then all.getD (f j) 0 else 0) = pickF all q f from List.map_congr_left (fun j hj => if_pos (List.mem_range.1 hj))] at this)
                      have HBg2 := Lib.hid hbg
                      obtain ⟨fe, hfe⟩ : ∃ fe, fineB l (pickF all q f) = fe := ⟨_, rfl⟩
                      have HFE := Lib.hid hfe
                      have HPr := Lib.hid (show ∀ i ∈ pickF all q f, 0 ≤ i ∧ i < n1 from fun i hi => by
                        obtain ⟨j, hj, rfl⟩ := List.mem_map.1 hi
                        have h9 := HInc.out.2 j (List.mem_range.1 hj)
                        rw [List.getD_eq_getElem?_getD, List.getElem?_eq_getElem h9]
                        exact HRng.out _ (List.getElem_mem h9))
                      clear hb2 hfe
                      go_wp2_with fail
                      refine (fine_any A1 n1 c1 l (some ⟨g2, 0, none⟩) q q (pickF all q f) wr (HC4.out.go B1.out) HRd.out HSM.out (by omega) HPr.out).mono ?_
                      rw [HFE.out]
                      rintro e w6 ⟨rfl, b6⟩
                      have HB6 := Lib.hid (below_go B1.out b6)
                      have HR6 := Lib.hid (HRd.out.go b6)
                      have hbg6 := HBg2.out.below b6 HBg2.out.lt
                      clear b6 hbg HBg2 HBg
                      cases fe
                      · have HZ2 := Lib.hid (HFin.out _ (core_found HAs.out HSh.out HInc.out HA.out HFE.out))
                        have HBe := Lib.hid (below_go HB4.out HB6.out)
                        clear hbg6
                        go_wp2_with fail
                        go_ret
                        exact ⟨some ⟨g2, 0, none⟩, q, by rw [← HZ2.out, pick_len]; rfl, by rw [← HZ2.out, pick_len]; exact HR6.out, by rw [← HZ2.out, pick_len]; exact Nat.le_refl _, HBe.out⟩
                      · have HBk6 := Lib.hid hbg6
                        clear hbg6
                        obtain ⟨wb, rfl⟩ : ∃ wb, wb = w6 := ⟨_, rfl⟩
                        go_wp2_with fail
                        go_loopw [13] (fun x wq => ∃ e : Nat, e ≤ q ∧ x = .int .i64 ((e : Int) - 1) ∧ Hid (∀ j, e ≤ j → j < q → f j + q = nl + j) ∧ wq = wb) (fun x _ => (intOf x + 1).toNat)
                        case atStart => exact ⟨q, Nat.le_refl _, by go_num, Lib.hid (fun j h1 h2 => by omega), rfl⟩
                        case round =>
                          obtain ⟨e, he, rfl, HMx, rfl⟩ := hrel
                          rcases Nat.eq_zero_or_pos e with rfl | hep
                          · have HSn := Lib.hid (short_more HSh.out (fun j hj => by rw [HNL.out]; exact HMx.out j (Nat.zero_le _) hj) HA.out HFE.out)
                            go_wp2_with fail
                            go_roundw
                            case rel => exact ⟨q + 1, by omega, by omega, by go_num, HSn, HB6⟩
                            case measure => simp [intOf]; omega
                          · obtain ⟨s, rfl⟩ : ∃ s, e = s + 1 := ⟨e - 1, by omega⟩
                            have hsq : s < q := by omega
                            have y1 := (HBk6.out.cell s).trans (rowI_get _ _ hsq)
                            have i1 : (s : Int) < (q : Int) := by omega
                            have i0 : (0 : Int) ≤ (s : Int) := by omega
                            rw [show (((s + 1 : Nat) : Int) - 1) = (s : Int) by omega]
                            by_cases hfe : f s + q = nl + s
                            · have hb9 : (((f s : Nat) : Int) == (nl : Int) - (q : Int) + (s : Int)) = true := beq_iff_eq.2 (by omega)
                              have HMx2 := Lib.hid (show ∀ j, s ≤ j → j < q → f j + q = nl + j from fun j h1 h2 => by
                                by_cases e9 : j = s
                                · subst e9; exact hfe
                                · exact HMx.out j (by omega) h2)
                              clear hfe
                              go_wp2_with fail
                              go_roundw
                              case rel => exact ⟨s, by omega, by go_num, HMx2, trivial⟩
                              case measure => simp [intOf]
                            · have hb9 : (((f s : Nat) : Int) == (nl : Int) - (q : Int) + (s : Int)) = false := beq_eq_false_iff_ne.2 (by omega)
                              have HNe := Lib.hid (show f s + q ≠ all.length + s by rw [HNL.out]; exact hfe)
                              have HNx := Lib.hid (next_inc HInc.out hsq HNe.out)
                              have HAn := Lib.hid (ahead_next hsq (fun j h1 h2 => by rw [HNL.out]; exact HMx.out j h1 h2) HA.out HFE.out)
                              have HRkn := Lib.hid (show (nl + 1) ^ q - rankF nl (nextF s f) q < mm from by
                                have h1 := rank_lt (m := nl) q (fun j hj => by rw [← HNL.out]; exact HInc.out.2 j hj) (next_gt hsq)
                                have h2 := rank_top (m := nl) (f := nextF s f) q (fun j hj => by rw [← HNL.out]; exact HNx.out.2 j hj)
                                rw [HRk.out]; omega)
                              have hfs : f s < nl := by rw [← HNL.out]; exact HInc.out.2 s hsq
                              have y2 := HBk6.out.frozen s
                              have HN := Lib.hid (show Blk (wr.setCell ⟨g, s, none⟩ (.int .i64 ((f s : Int) + 1))) g 3 (rowI q (fun j => if j < s + 1 then ((nextF s f j : Nat) : Int) else (f j : Int))) from by
                                have := HBk6.out.set_ s (.int .i64 ((f s : Int) + 1))
                                rw [rowI_set] at this
                                rwa [rowI_congr (h' := fun j => if j < s + 1 then ((nextF s f j : Nat) : Int) else (f j : Int)) (fun j hj => by
                                  unfold nextF
                                  by_cases e1 : j = s
                                  · subst e1; rw [if_pos rfl, if_pos (by omega), if_neg (by omega)]; omega
                                  · rw [if_neg e1]
                                    by_cases e2 : j < s + 1
                                    · rw [if_pos e2, if_pos (by omega)]
                                    · rw [if_neg e2])] at this)
                              have HB7 := Lib.hid (HB6.out.setCell (p := ⟨g, s, none⟩) hg4 (.int .i64 ((f s : Int) + 1)))
                              clear hfe
                              go_wp2_with fail
                              go_loopw [14] (fun x wq => ∃ t : Nat, s + 1 ≤ t ∧ t ≤ q ∧ x = .int .i64 t ∧ Blk wq g 3 (rowI q (fun j => if j < t then ((nextF s f j : Nat) : Int) else (f j : Int))) ∧ Hid (Below w4.heap.size w4 wq)) (fun x _ => q - (intOf x).toNat)
                              case atStart => exact ⟨s + 1, by omega, by omega, by go_num, HN.out, HB7⟩
                              case round =>
                                obtain ⟨t, ht1, ht, rfl, hbt, B7⟩ := hrel
                                by_cases htl : t < q
                                · obtain ⟨r, rfl⟩ : ∃ r, t = r + 1 := ⟨t - 1, by omega⟩
                                  have z1 := (hbt.cell r).trans (rowI_get _ _ (by omega))
                                  rw [if_pos (Nat.lt_succ_self r)] at z1
                                  have z2 := (hbt.cell (r + 1)).trans (rowI_get _ _ htl)
                                  have z3 := hbt.frozen (r + 1)
                                  have hnr : nextF s f (r + 1) = nextF s f r + 1 := by
                                    unfold nextF
                                    rw [if_neg (by omega), if_neg (by omega)]; omega
                                  have hnl9 : nextF s f r < nl := by rw [← HNL.out]; exact HNx.out.2 r (by omega)
                                  have hset := hbt.set_ (r + 1) (.int .i64 (((nextF s f (r + 1) : Nat) : Int)))
                                  rw [rowI_upto (r + 1) (fun j => ((nextF s f j : Nat) : Int)), hnr] at hset
                                  obtain ⟨v9, hv9⟩ : ∃ v9, v9 = nextF s f r := ⟨_, rfl⟩
                                  rw [← hv9] at hset z1 hnl9
                                  rw [show (((v9 + 1 : Nat)) : Int) = (v9 : Int) + 1 by omega] at hset
                                  have HSet := Lib.hid hset
                                  have HB8 := Lib.hid (B7.out.setCell (p := ⟨g, r + 1, none⟩) hg4 (.int .i64 ((v9 : Int) + 1)))
                                  have i4 : (r : Int) + 1 < (q : Int) := by omega
                                  have i5 : (0 : Int) ≤ (r : Int) := by omega
                                  have i6 : (r : Int) < (q : Int) := by omega
                                  clear hset hbt hnr hv9
                                  go_wp2_with fail
                                  go_roundw
                                  case rel => exact ⟨r + 1 + 1, by omega, by omega, by go_num, HSet.out, HB8⟩
                                  case measure => simp [intOf]; omega
                                · obtain rfl : t = q := by omega
                                  have HM2 := Lib.hid (show MidS l all nl t g w4 wr ((nl + 1) ^ t - rankF nl (nextF s f) t) from ⟨nextF s f, HNx.out, by rw [← rowI_congr (h := fun j => if j < t then ((nextF s f j : Nat) : Int) else (f j : Int)) (fun j hj => if_pos hj)]; exact hbt, HAn.out, B7.out, rfl⟩)
                                  clear hbt
                                  go_wp2_with fail
                                  go_roundw
                                  case rel => exact ⟨_, HM2.out⟩
                                  case measure => rw [HG.out]; exact Nat.lt_of_le_of_lt (gmeas_le HM2.out) HRkn.out
          · have HX := Lib.hid (show False from by
              have := HSh.out all (List.Sublist.refl _) (by rw [HNL.out]; omega)
              rw [HF.out] at this; cases this)
            exact HX.out.elim
      · have HF := Lib.hid hf
        have HSM := Lib.hid (small_of_valid hv)
        have HZ := Lib.hid (show [] = zs by rw [← hz.out, coreV_fine (by rw [HL.out, ← hall]; exact hf)])
        clear hv hz hall hnl hf
        go_enter Try.func18, Try.ntmps18
        go_wp2_with fail
        apply wp_scope_straight
        go_wp2_with fail
        refine (HSorted.out w H2.out).mono ?_
        rintro e w2 ⟨As, cs, rfl, hrs, hcs, b2⟩
        rw [HNL.out] at hrs hcs ⊢
        have HRS := Lib.hid hrs
        have HB2 := Lib.hid b2
        clear hrs b2
        go_wp2_with fail
        refine (valid_any A1 n1 c1 l w2 (H1.out.go HB2.out) (by omega) true HV).mono ?_
        rintro e w3 ⟨rfl, b3⟩
        have HB3 := Lib.hid (below_go HB2.out b3)
        have HR3 := Lib.hid (HRS.out.go b3)
        clear b3
        go_wp2_with fail
        refine (fine_any A1 n1 c1 l As nl cs all w3 (H1.out.go HB3.out) HR3.out HSM.out (by omega) HRng.out).mono ?_
        rw [HF.out]
        rintro e w4 ⟨rfl, b4⟩
        have HB4 := Lib.hid (below_go HB3.out b4)
        clear b4
        go_wp2_with fail
        go_ret
        exact ⟨none, 0, by rw [← HZ.out]; rfl, by rw [← HZ.out]; exact Rd.nil, by rw [← HZ.out]; exact Nat.le_refl _, HB4.out⟩
    · have HZ := Lib.hid (show [] = zs by rw [← hz.out, coreV_long (by rw [HL.out, ← hall, ← hnl]; omega)])
      clear hv hz hall hnl
      go_enter Try.func18, Try.ntmps18
      go_wp2_with fail
      apply wp_scope_straight
      go_wp2_with fail
      refine (HSorted.out w H2.out).mono ?_
      rintro e w2 ⟨As, cs, rfl, hrs, hcs, b2⟩
      rw [HNL.out] at hrs hcs ⊢
      have HB2 := Lib.hid b2
      clear hrs b2
      go_wp2_with fail
      refine (valid_any A1 n1 c1 l w2 (H1.out.go HB2.out) (by omega) true HV).mono ?_
      rintro e w3 ⟨rfl, b3⟩
      have HB3 := Lib.hid (below_go HB2.out b3)
      clear b3
      go_wp2_with fail
      go_ret
      exact ⟨none, 0, by rw [← HZ.out]; rfl, by rw [← HZ.out]; exact Rd.nil, by rw [← HZ.out]; exact Nat.le_refl _, HB3.out⟩
end Go.Proofs.Ytflfachkoffiiaa
