/- The program's Check. -/
import Derived.Test.YtflfachkoffiiaaConcat
namespace Go.Proofs.Ytflfachkoffiiaa
open Go.RowKit Go.Lib

theorem bsearch_any (A : Option Addr) (n c : Nat) (zs : List Int) (x : Int) (w : World) (h : Rd w w.heap.size 1 A n (intCells zs)) (hn : n ≤ 1000) (hs : zs.Pairwise (· < ·)) :
    Calls Try.prog 42 #[.slice A n c, .int .i64 x] w fun e w' => (∃ p, e = .returned (.tuple #[.int .i64 p, .bool (zs.contains x)])) ∧ Below w.heap.size w w' := by
  have hl := int_len h
  rcases Nat.eq_zero_or_pos n with rfl | hp
  · obtain rfl : zs = [] := List.eq_nil_of_length_eq_zero hl
    refine (Try.slices_BinarySearch_int_empty A c x w).mono ?_
    rintro e w' ⟨rfl, rfl⟩
    exact ⟨⟨0, rfl⟩, Below.refl _ _⟩
  · obtain ⟨b, o, rfl, _, hc⟩ := h.2 hp
    refine (Try.slices_BinarySearch_int b o n c zs x w (by omega) (by omega) (fun j hj => ?_) ?_).mono ?_
    · have := hc j (.int .i64 (zs.getD j 0)) (by rw [intCells, List.getElem?_map, List.getElem?_eq_getElem hj, List.getD_eq_getElem?_getD, List.getElem?_eq_getElem hj]; rfl)
      exact this
    · rw [List.take_of_length_le (by omega)]
      exact hs.imp (fun h => by omega)
    · rintro e w' ⟨rfl, q, rfl⟩
      rw [List.take_of_length_le (by omega)]
      exact ⟨⟨_, rfl⟩, below_drewN (Below.refl _ _) q⟩

def okAt (all core : List Int) (i : Nat) : Bool := all.contains (core.getD i 0) && (decide (i = 0) || decide (core.getD (i - 1) 0 < core.getD i 0))
noncomputable def checkV (l : List ClV) (sel core : List Int) : Int :=
  if validB l = true then
    if (List.range core.length).all (okAt (sortedTo sel l.length) core) = true then
      if fineB l core = true then 27
      else if (List.range core.length).all (fun i => fineB l (core.eraseIdx i)) = true then 0 else 27
    else 27
  else 1
theorem all_range {n : Nat} {p : Nat → Bool} (h : ∀ j, j < n → p j = true) : (List.range n).all p = true := List.all_eq_true.2 (fun j hj => h j (List.mem_range.1 hj))
theorem all_range_bad {n i : Nat} {p : Nat → Bool} (hi : i < n) (h : p i = false) : (List.range n).all p = false := by
  rw [List.all_eq_false]
  exact ⟨i, List.mem_range.2 hi, by rw [h]; simp⟩
theorem ok_range {sel core : List Int} {n : Nat} (h : ∀ j, j < core.length → okAt (sortedTo sel n) core j = true) : ∀ i ∈ core, 0 ≤ i ∧ i < n := by
  intro i hi
  obtain ⟨j, hj, rfl⟩ := List.getElem_of_mem hi
  have := h j hj
  unfold okAt at this
  rw [Bool.and_eq_true, List.contains_iff_mem, List.getD_eq_getElem?_getD, List.getElem?_eq_getElem hj] at this
  exact sorted_range _ this.1

set_option maxHeartbeats 8000000 in
set_option maxRecDepth 100000 in
theorem check_any (A1 : Option Addr) (n1 c1 : Nat) (l : List ClV) (A : Option Addr) (n c : Nat) (sel : List Int) (A2 : Option Addr) (m cm : Nat) (core : List Int) (w : World) (h1 : Cls w w.heap.size A1 n1 l) (hn1 : n1 ≤ 9223372036854775807) (h2 : Rd w w.heap.size 1 A n (intCells sel)) (hn : n ≤ 1000)
    (h3 : Rd w w.heap.size 1 A2 m (intCells core)) (hm : m ≤ 1000) (hmc : m ≤ cm) (r : Int) (hr : Hid (checkV l sel core = r)) :
    Calls Try.prog 21 #[.slice A1 n1 c1, .slice A n c, .slice A2 m cm] w (RetB (.int .i64 r) w) := by
  have HL := Lib.hid h1.len
  have HS := Lib.hid (int_len h2)
  have HC := Lib.hid (int_len h3)
  have H1 := Lib.hid h1
  have H2 := Lib.hid h2
  have H3 := Lib.hid h3
  clear h1 h2 h3
  cases hv : validB l
  · have HV := Lib.hid hv
    have HR := Lib.hid (show 1 = r by rw [← hr.out, checkV, hv]; rfl)
    clear hv
    go_enter Try.func21, Try.ntmps21
    go_wp2_with fail
    refine (valid_any A1 n1 c1 l w H1.out hn1 false HV).mono ?_
    rintro e w1 ⟨rfl, b1⟩
    go_wp2_with fail
    go_ret
    exact RetB.of (by rw [← HR.out]; rfl) b1
  · have HV := Lib.hid hv
    have HSM := Lib.hid (small_of_valid hv)
    have h32 : n1 ≤ 32 := by have := HSM.out.1; have := HL.out; omega
    obtain ⟨all, hall⟩ : ∃ all, all = sortedTo sel n1 := ⟨_, rfl⟩
    have HR := Lib.hid (show (if (List.range core.length).all (okAt all core) = true then (if fineB l core = true then (27 : Int) else if (List.range core.length).all (fun i => fineB l (core.eraseIdx i)) = true then 0 else 27) else 27) = r by rw [← hr.out, checkV, hv, if_pos rfl, HL.out, hall])
    have hal : all.length ≤ n1 := by rw [hall]; exact sortedTo_len _ _
    have HAS := Lib.hid (show all.Pairwise (· < ·) by rw [hall]; exact sortedTo_rising sel n1)
    have HALL := Lib.hid hall
    clear hv hr
    go_enter Try.func21, Try.ntmps21
    go_wp2_with fail
    refine (valid_any A1 n1 c1 l w H1.out hn1 true HV).mono ?_
    rintro e w1 ⟨rfl, b1⟩
    have HB1 := Lib.hid b1
    clear b1
    go_wp2_with fail
    refine (sorted_any A1 n1 c1 A n c sel w1 (H2.out.go HB1.out) (by omega)).mono ?_
    rw [← hall]
    rintro e w2 ⟨As, cs, rfl, hrs, hcs, b2⟩
    obtain ⟨nl, hnl⟩ : ∃ nl, nl = all.length := ⟨_, rfl⟩
    rw [← hnl] at hrs hcs hal ⊢
    have HRS := Lib.hid hrs
    have HB2 := Lib.hid (below_go HB1.out b2)
    clear hrs b2 hall hnl
    go_wp2_with fail
    go_loopw [21] (fun x wr => ∃ k : Nat, k ≤ m ∧ x = .int .i64 k ∧ Hid (∀ j, j < k → okAt all core j = true) ∧ Hid (Below w2.heap.size w2 wr)) (fun x _ => m - (intOf x).toNat)
    case atStart => exact ⟨0, by omega, rfl, Lib.hid (fun j hj => absurd hj (by omega)), Lib.hid (Below.refl _ _)⟩
    case round =>
      obtain ⟨k, hk, rfl, M, B⟩ := hrel
      have HB3 := Lib.hid (below_go HB2.out B.out)
      by_cases hlt : k < m
      · obtain ⟨b3, o3, rfl, hbb, x1⟩ := (H3.out.go HB3.out).int hlt
        have j1 : (k : Int) < (m : Int) := by omega
        have j0 : (0 : Int) ≤ (k : Int) := by omega
        obtain ⟨z, hzz⟩ : ∃ z, z = core.getD k 0 := ⟨_, rfl⟩
        rw [← hzz] at x1
        obtain ⟨f, hf⟩ : ∃ f, all.contains z = f := ⟨_, rfl⟩
        by_cases hk0 : k = 0
        · subst hk0
          have HOK := Lib.hid (show okAt all core 0 = f by rw [okAt, ← hzz, hf]; simp)
          clear hzz
          rw [Nat.add_zero] at x1
          go_wp2_with fail
          refine (bsearch_any As nl cs all z wr (HRS.out.go B.out) (by omega) HAS.out).mono ?_
          rw [hf]
          rintro e w3 ⟨⟨p, rfl⟩, b4⟩
          have HB4 := Lib.hid (below_go B.out b4)
          have HB5 := Lib.hid (below_go HB3.out b4)
          clear b4 hf
          cases f
          · have HR2 := Lib.hid (show 27 = r by rw [← HR.out, all_range_bad (i := 0) (by rw [HC.out]; omega) HOK.out, if_neg (by simp)])
            go_wp2_with fail
            go_ret
            exact RetB.of (by rw [← HR2.out]; rfl) HB5.out
          · have M2 := Lib.hid (show ∀ j, j < 0 + 1 → okAt all core j = true from fun j hj => by rw [show j = 0 by omega]; exact HOK.out)
            go_wp2_with fail
            go_roundw
            case rel => exact ⟨0 + 1, by omega, by go_num, M2, HB4⟩
            case measure => simp [intOf]; omega
        · obtain ⟨q, rfl⟩ : ∃ q, k = q + 1 := ⟨k - 1, by omega⟩
          obtain ⟨b3', o3', he, _, y1⟩ := (H3.out.go HB3.out).int (k := q) (by omega)
          injection he with he
          injection he with he1 he2
          subst he1 he2
          obtain ⟨y, hy⟩ : ∃ y, y = core.getD q 0 := ⟨_, rfl⟩
          rw [← hy] at y1
          obtain ⟨d, hd⟩ : ∃ d, decide (y < z) = d := ⟨_, rfl⟩
          have HOK := Lib.hid (show okAt all core (q + 1) = (f && d) by rw [okAt, ← hzz, hf, Nat.add_sub_cancel, ← hy, hd]; simp)
          have i1 : (q : Int) < (m : Int) := by omega
          have i2 : (0 : Int) < (q : Int) + 1 := by omega
          have i3 : ((q : Int) + 1) < (m : Int) := by omega
          clear hzz hy
          go_wp2_with fail
          refine (bsearch_any As nl cs all z wr (HRS.out.go B.out) (by omega) HAS.out).mono ?_
          rw [hf]
          rintro e w3 ⟨⟨p, rfl⟩, b4⟩
          have HB4 := Lib.hid (below_go B.out b4)
          have HB5 := Lib.hid (below_go HB3.out b4)
          have x1 := (b4.cell (p := ⟨b3, o3 + (q + 1), none⟩) hbb).trans x1
          have y1 := (b4.cell (p := ⟨b3, o3 + q, none⟩) hbb).trans y1
          clear b4 hf
          cases f
          · have HR2 := Lib.hid (show 27 = r by rw [← HR.out, all_range_bad (i := q + 1) (by rw [HC.out]; omega) (by rw [HOK.out]; rfl), if_neg (by simp)])
            go_wp2_with fail
            go_ret
            exact RetB.of (by rw [← HR2.out]; rfl) HB5.out
          · cases d
            · have HR2 := Lib.hid (show 27 = r by rw [← HR.out, all_range_bad (i := q + 1) (by rw [HC.out]; omega) (by rw [HOK.out]; rfl), if_neg (by simp)])
              have hd1 : z ≤ y := by have := of_decide_eq_false hd; omega
              clear hd
              go_wp2_with fail
              go_ret
              exact RetB.of (by rw [← HR2.out]; rfl) HB5.out
            · have hd1 : ¬ z ≤ y := by have := of_decide_eq_true hd; omega
              have M2 := Lib.hid (show ∀ j, j < q + 1 + 1 → okAt all core j = true from fun j hj => by
                by_cases e : j = q + 1
                · subst e; rw [HOK.out]; rfl
                · exact M.out j (by omega))
              clear hd
              go_wp2_with fail
              go_roundw
              case rel => exact ⟨q + 1 + 1, by omega, by go_num, M2, HB4⟩
              case measure => simp [intOf]; omega
      · obtain rfl : k = m := by omega
        have HOKA := Lib.hid (all_range (p := okAt all core) (n := core.length) (fun j hj => M.out j (by rw [← HC.out]; exact hj)))
        have hrng : ∀ i ∈ core, 0 ≤ i ∧ i < n1 := ok_range (fun j hj => by rw [← HALL.out]; exact M.out j (by rw [← HC.out]; exact hj))
        have HRNG := Lib.hid hrng
        rw [HOKA.out, if_pos rfl] at HR
        obtain ⟨f, hf⟩ : ∃ f, fineB l core = f := ⟨_, rfl⟩
        rw [hf] at HR
        have HF := Lib.hid hf
        clear hrng hf M
        go_wp2_with fail
        refine (fine_any A1 n1 c1 l A2 k cm core wr (H1.out.go HB3.out) (H3.out.go HB3.out) HSM.out hm HRNG.out).mono ?_
        rw [HF.out]
        rintro e w3 ⟨rfl, b4⟩
        have HB5 := Lib.hid (below_go HB3.out b4)
        clear b4
        cases f
        · rw [if_neg (by simp)] at HR
          have HC3 := Lib.hid (H1.out.go HB5.out)
          have H33 := Lib.hid (H3.out.go HB5.out)
          clear HB2 HB3 B HB1
          go_wp2_with fail
          obtain ⟨K, hK⟩ : ∃ K : Int, K = (k : Int) := ⟨_, rfl⟩
          rw [← hK]
          have HK := Lib.hid hK
          clear hK
          go_loopw [53] (fun x wq => ∃ i : Nat, i ≤ k ∧ x = .int .i64 i ∧ Hid (∀ j, j < i → fineB l (core.eraseIdx j) = true) ∧ Hid (Below w3.heap.size w3 wq)) (fun x _ => k - (intOf x).toNat)
          case atStart => exact ⟨0, by omega, rfl, Lib.hid (fun j hj => absurd hj (by omega)), Lib.hid (Below.refl _ _)⟩
          case round =>
            obtain ⟨i, hi, rfl, M, B⟩ := hrel
            by_cases hil : i < k
            · obtain ⟨b3, o3, rfl, hbb, x1⟩ := (H33.out.go B.out).int hil
              have j1 : (i : Int) < K := by rw [HK.out]; omega
              have j0 : (0 : Int) ≤ (i : Int) := by omega
              have j2 : ((i : Int) + 1) ≤ (k : Int) := by omega
              have j3 : (i : Int) ≤ (cm : Int) := by omega
              have HX := Lib.hid (H33.out.go B.out)
              have hw : IntKind.i64.wrap ((i : Int) + 1) = (i : Int) + 1 := by rw [IntKind.wrap_i64]; omega
              have hw2 : ((i : Int) + 1).toNat = i + 1 := by omega
              have hw3 : (0 : Int) ≤ (i : Int) + 1 := by omega
              obtain ⟨fe, hfe⟩ : ∃ fe, fineB l (core.eraseIdx i) = fe := ⟨_, rfl⟩
              have HFE := Lib.hid hfe
              obtain ⟨ne, hne⟩ : ∃ ne, (intCells (core.eraseIdx i)).length = ne := ⟨_, rfl⟩
              have hne9 : ne ≤ 1000 := by rw [← hne, intCells, List.length_map]; exact Nat.le_trans (List.length_eraseIdx_le core i) (by rw [HC.out]; exact hm)
              have HNE := Lib.hid hne
              have HRE := Lib.hid (fun j (hj : j ∈ core.eraseIdx i) => HRNG.out j (List.mem_of_mem_eraseIdx hj))
              clear hfe hne
              by_cases hci : cm = i + 1
              · have hk1 : k = i + 1 := by omega
                subst hk1
                subst hci
                have j5 : (i : Int) ≤ (i : Int) + 1 := by omega
                have HE := Lib.hid (show core.take i ++ [] = core.eraseIdx i by rw [← erase_eq, List.drop_of_length_le (by rw [HC.out]; exact Nat.le_refl _)])
                have HTk := Lib.hid (rd_front HX.out (Nat.le_of_lt hil) hmc (by omega))
                have HBk := Lib.hid (show Rd wr wr.heap.size 1 (some ⟨b3, o3, none⟩) 0 (intCells []) from Rd.nil)
                obtain ⟨wa, hwa⟩ : ∃ wa, wa = (wr.alloc (.cells #[.slice (some ⟨b3, o3, none⟩) i (i + 1), .slice (some ⟨b3, o3, none⟩) (0) (0)] 22)).drew := ⟨_, rfl⟩
                have xa := Lib.hid (show wa.cell? ⟨wr.heap.size, 0, none⟩ = some (.slice (some ⟨b3, o3, none⟩) i (i + 1)) ∧ wa.cell? ⟨wr.heap.size, 1, none⟩ = some (.slice (some ⟨b3, o3, none⟩) (0) (0)) from by
                  rw [hwa]
                  exact ⟨(World.cell?_alloc_at _ _ _ _ rfl).trans rfl, (World.cell?_alloc_at _ _ _ _ rfl).trans rfl⟩)
                have HBa := Lib.hid (show Below wr.heap.size wr wa by rw [hwa]; exact (below_new wr _).drew)
                have hga : wr.heap.size < wa.heap.size := by rw [hwa]; simp
                go_wp2_with fail
                go_region_law (first
                  | (go_simp; rw [← hwa]; refine (concat_any wr.heap.size i (i + 1) (0) (0) _ _ (core.take i) ([]) wa xa.out.1 xa.out.2 hga (HTk.out.go HBa.out) (HBk.out.go HBa.out) (by omega)).mono ?_; rintro e w4 ⟨v4, rfl, hq4, b4⟩; rw [HE.out] at hq4; obtain ⟨A4, c4, rfl, hc4, hr4⟩ := hq4.rd; rw [show (intCells (core.eraseIdx i)).length = ne from HNE.out] at *; have HR4 := Lib.hid hr4; have HB7 := Lib.hid (below_go HBa.out b4); clear hq4 hr4 b4 hc4; dsimp only)
                  | (go_simp; refine (fine_any A1 n1 c1 l A4 ne c4 (core.eraseIdx i) w4 ((HC3.out.go B.out).go HB7.out) HR4.out HSM.out (by omega) HRE.out).mono ?_; rw [HFE.out]; rintro e w5 ⟨rfl, b5⟩; have HB8 := Lib.hid (below_go HB7.out b5); clear b5; dsimp only))
                cases fe
                · have HR2 := Lib.hid (show 27 = r by rw [← HR.out, all_range_bad (i := i) (by rw [HC.out]; exact hil) HFE.out, if_neg (by simp)])
                  have HB9 := Lib.hid (below_go HB5.out (below_go B.out HB8.out))
                  go_wp2_with fail
                  go_ret
                  exact RetB.of (by rw [← HR2.out]; rfl) HB9.out
                · have M2 := Lib.hid (show ∀ j, j < i + 1 → fineB l (core.eraseIdx j) = true from fun j hj => by
                    by_cases e : j = i
                    · subst e; exact HFE.out
                    · exact M.out j (by omega))
                  have HB9 := Lib.hid (below_go B.out HB8.out)
                  go_wp2_with fail
                  go_roundw
                  case rel => exact ⟨i + 1, by omega, by go_num, M2, HB9⟩
                  case measure => simp [intOf]
              · have HE := Lib.hid (erase_eq core i)
                have HTk := Lib.hid (rd_front HX.out (Nat.le_of_lt hil) hmc (by omega))
                have HBk := Lib.hid (show Rd wr wr.heap.size 1 (some ⟨b3, o3 + (i + 1), none⟩) (k - (i + 1)) (intCells (core.drop (i + 1))) by have := rd_back (k := i + 1) HX.out (by omega) hmc; rw [if_neg hci] at this; rwa [show (some (⟨b3, o3, none⟩ : Addr)).map (fun x => x.add (i + 1)) = some ⟨b3, o3 + (i + 1), none⟩ by simp [Addr.add]] at this)
                obtain ⟨wa, hwa⟩ : ∃ wa, wa = (wr.alloc (.cells #[.slice (some ⟨b3, o3, none⟩) i cm, .slice (some ⟨b3, o3 + (i + 1), none⟩) (k - (i + 1)) (cm - (i + 1))] 22)).drew := ⟨_, rfl⟩
                have xa := Lib.hid (show wa.cell? ⟨wr.heap.size, 0, none⟩ = some (.slice (some ⟨b3, o3, none⟩) i cm) ∧ wa.cell? ⟨wr.heap.size, 1, none⟩ = some (.slice (some ⟨b3, o3 + (i + 1), none⟩) (k - (i + 1)) (cm - (i + 1))) from by
                  rw [hwa]
                  exact ⟨(World.cell?_alloc_at _ _ _ _ rfl).trans rfl, (World.cell?_alloc_at _ _ _ _ rfl).trans rfl⟩)
                have HBa := Lib.hid (show Below wr.heap.size wr wa by rw [hwa]; exact (below_new wr _).drew)
                have hga : wr.heap.size < wa.heap.size := by rw [hwa]; simp
                go_wp2_with fail
                go_region_law (first
                  | (go_simp; rw [← hwa]; refine (concat_any wr.heap.size i cm (k - (i + 1)) (cm - (i + 1)) _ _ (core.take i) (core.drop (i + 1)) wa xa.out.1 xa.out.2 hga (HTk.out.go HBa.out) (HBk.out.go HBa.out) (by omega)).mono ?_; rintro e w4 ⟨v4, rfl, hq4, b4⟩; rw [HE.out] at hq4; obtain ⟨A4, c4, rfl, hc4, hr4⟩ := hq4.rd; rw [show (intCells (core.eraseIdx i)).length = ne from HNE.out] at *; have HR4 := Lib.hid hr4; have HB7 := Lib.hid (below_go HBa.out b4); clear hq4 hr4 b4 hc4; dsimp only)
                  | (go_simp; refine (fine_any A1 n1 c1 l A4 ne c4 (core.eraseIdx i) w4 ((HC3.out.go B.out).go HB7.out) HR4.out HSM.out (by omega) HRE.out).mono ?_; rw [HFE.out]; rintro e w5 ⟨rfl, b5⟩; have HB8 := Lib.hid (below_go HB7.out b5); clear b5; dsimp only))
                cases fe
                · have HR2 := Lib.hid (show 27 = r by rw [← HR.out, all_range_bad (i := i) (by rw [HC.out]; exact hil) HFE.out, if_neg (by simp)])
                  have HB9 := Lib.hid (below_go HB5.out (below_go B.out HB8.out))
                  go_wp2_with fail
                  go_ret
                  exact RetB.of (by rw [← HR2.out]; rfl) HB9.out
                · have M2 := Lib.hid (show ∀ j, j < i + 1 → fineB l (core.eraseIdx j) = true from fun j hj => by
                    by_cases e : j = i
                    · subst e; exact HFE.out
                    · exact M.out j (by omega))
                  have HB9 := Lib.hid (below_go B.out HB8.out)
                  go_wp2_with fail
                  go_roundw
                  case rel => exact ⟨i + 1, by omega, by go_num, M2, HB9⟩
                  case measure => simp [intOf]; omega
            · obtain rfl : i = k := by omega
              have j1 : ¬ (i : Int) < K := by rw [HK.out]; omega
              have HR2 := Lib.hid (show 0 = r by rw [← HR.out, all_range (fun j hj => M.out j (by rw [← HC.out]; exact hj)), if_pos rfl])
              have HB6 := Lib.hid (below_go HB5.out B.out)
              go_wp2_with fail
              go_ret
              exact RetB.of (by rw [← HR2.out]; rfl) HB6.out
        · have HR2 := Lib.hid (show 27 = r by rw [← HR.out, if_pos rfl])
          go_wp2_with fail
          go_ret
          exact RetB.of (by rw [← HR2.out]; rfl) HB5.out
end Go.Proofs.Ytflfachkoffiiaa
