/- The reference's Greatest. -/
import Derived.Test.YtflfachkoffiiaaGreat
import Derived.Deep.RegionHeld3
import Derived.Deep.RegionLaw
namespace Go.Proofs.Ytflfachkoffiiaa
open Go.RowKit Go.Lib

theorem IAt.empty {w : World} {base g : Nat} (h1 : base ≤ g) (h2 : g < w.heap.size) : IAt w base (.slice (some ⟨g, 0, none⟩) 0 0) [] :=
  .inr ⟨g, 0, 0, rfl, h1, h2, Nat.le_refl _, by decide, fun j hj => by omega, fun j u hu => by simp at hu⟩
theorem src_cell {w : World} {g : Nat} {z : Int} (h : w.cell? ⟨g, 0, none⟩ = some (.int .i64 z)) : Src Try.prog 1 22 (.slice (some ⟨g, 0, none⟩) 1 1) 1 [.int .i64 z] w :=
  Src.ofSlice _ Try.underlying22 _ 1 1 [.int .i64 z] rfl (fun j u hu => by
    match j, hu with
    | 0, hu => simp at hu; subst hu; rw [Addr.add_lit]; exact h
    | j + 1, hu => simp at hu) (by intro u hu; simp at hu; subst hu; rfl)
theorem own_lt {g k b : Nat} {n c : Nat} (h : (Value.slice (some ⟨g, 0, none⟩) n c).ownBlock = some k) (hb : b ≤ g) : b ≤ k := by injection h with h; rw [← h]; exact hb

set_option maxHeartbeats 8000000 in
set_option maxRecDepth 100000 in
theorem rgreat_any (A1 : Option Addr) (n1 c1 : Nat) (l : List ClV) (A : Option Addr) (n c : Nat) (sel : List Int) (w : World) (h1 : Cls w w.heap.size A1 n1 l) (hn1 : n1 ≤ 9223372036854775807) (h2 : Rd w w.heap.size 1 A n (intCells sel)) (hn : n ≤ 1000) :
    Calls Try.prog 24 #[.slice A1 n1 c1, .slice A n c] w (IntsPost (greatV l sel) w) := by
  have HL := Lib.hid h1.len
  have HS := Lib.hid (int_len h2)
  have H1 := Lib.hid h1
  have H2 := Lib.hid h2
  clear h1 h2
  cases hv : validB l
  · have HV := Lib.hid hv
    rw [greatV, hv]
    clear hv
    go_enter Try.func24, Try.ntmps24
    go_wp2_with fail
    refine (rvalid_any A1 n1 c1 l w H1.out hn1 false HV).mono ?_
    rintro e w1 ⟨rfl, b1⟩
    go_wp2_with fail
    go_ret
    exact ⟨none, 0, rfl, Rd.nil, Nat.zero_le _, b1⟩
  · have HV := Lib.hid hv
    have HSM := Lib.hid (small_of_valid hv)
    have h32 : n1 ≤ 32 := by have := HSM.out.1; have := HL.out; omega
    rw [greatV, hv, if_pos rfl]
    clear hv
    have HK := Lib.hid (fun k => great_len l (sel.take k))
    go_enter Try.func24, Try.ntmps24
    go_wp2_with fail
    refine (rvalid_any A1 n1 c1 l w H1.out hn1 true HV).mono ?_
    rintro e w1 ⟨rfl, b1⟩
    have HB1 := Lib.hid b1
    clear b1
    go_wp2_with fail
    go_loopw [5, 6] (fun v x wr => ∃ (k : Nat) (Ao : Option Addr) (co no : Nat), k ≤ n ∧ x = .int .i64 k ∧ v = .slice Ao no co ∧ no ≤ co ∧ Hid (Rd wr wr.heap.size 1 Ao no (intCells (greatL l (sel.take k)))) ∧ Hid (Below w.heap.size w wr)) (fun _ x _ => n - (intOf x).toNat)
    case atStart => exact ⟨0, none, 0, 0, by omega, rfl, rfl, Nat.le_refl _, Lib.hid Rd.nil, HB1⟩
    case round =>
      obtain ⟨k, Ao, co, no, hk, rfl, rfl, hno, Q, B⟩ := hrel
      by_cases hlt : k < n
      · obtain ⟨b2, o2, rfl, hbb, x1⟩ := (H2.out.go B.out).int hlt
        have hkl : k < sel.length := by have := HS.out; omega
        have j1 : (k : Int) < (n : Int) := by omega
        have j0 : (0 : Int) ≤ (k : Int) := by omega
        have hz : sel.getD k 0 = sel[k] := by rw [List.getD_eq_getElem?_getD, List.getElem?_eq_getElem hkl]; rfl
        rw [hz] at x1
        have HST := Lib.hid (great_step (l := l) hkl)
        obtain ⟨z, hzz⟩ : ∃ z, z = sel[k] := ⟨_, rfl⟩
        rw [← hzz] at x1 HST
        clear hz hzz
        have hno9 : no ≤ 32 := by have := HK.out k; have := int_len Q.out; have := HL.out; omega
        obtain ⟨out, hout⟩ : ∃ out, out = greatL l (sel.take k) := ⟨_, rfl⟩
        rw [← hout] at HST Q
        have HOL := Lib.hid (int_len Q.out)
        clear hout
        go_wp2_with fail
        have D1 : Below wr.heap.size wr (wr.alloc (.cells #[] 3)) := below_new wr _
        have D2 : Below wr.heap.size wr ((wr.alloc (.cells #[] 3)).alloc (.cells #[.int .i64 z] 3)) := D1.alloc (by simp) _
        have D3 : Below wr.heap.size wr ((wr.alloc (.cells #[.int .i64 z] 3)).alloc (.cells #[] 3)) := (below_new wr _).alloc (by simp) _
        have E2 : ((wr.alloc (.cells #[] 3)).alloc (.cells #[.int .i64 z] 3)).cell? ⟨wr.heap.size + 1, 0, none⟩ = some (.int .i64 z) := by rw [World.cell?_alloc_at _ _ _ _ (by simp)]; rfl
        have E3 : ((wr.alloc (.cells #[.int .i64 z] 3)).alloc (.cells #[] 3)).cell? ⟨wr.heap.size, 0, none⟩ = some (.int .i64 z) := by
          rw [((Below.refl (wr.heap.size + 1) (wr.alloc (.cells #[.int .i64 z] 3))).alloc (by simp) (.cells #[] 3)).cell (p := ⟨wr.heap.size, 0, none⟩) (by simp), World.cell?_alloc_at _ _ _ _ rfl]; rfl
        have hl0 : ([] ++ intCells out).length + 1 ≤ 1000000 := by rw [List.nil_append, intCells, List.length_map, HOL.out]; omega
        have hli : (intCells out).length = no := by rw [intCells, List.length_map, HOL.out]
        go_region_law (first
          | (refine step_append_i _ (by rfl) _ _ (by rfl) (by rfl) wr.heap.size (.slice (some ⟨wr.heap.size, 0, none⟩) 0 0) [] (by rfl) (IAt.empty (by omega) (by simp; try omega)) (by simp; try omega) (.slice Ao no co) no (intCells out) (by rfl) (src_rdI (Rd.below Q.out (by first | exact D1.drew | exact D2.drew | exact D3.drew))) (by simp; omega) ?_; intro v2 w2 hq2 hgr2 hloc2; have hb2 : Below wr.heap.size wr w2 := Below.grown (by first | exact D1.drew | exact D2.drew | exact D3.drew) hgr2 (by simp; try omega) (fun g hg => own_lt hg (by omega)); have x2 := (hb2.cell (p := ⟨b2, o2 + k, none⟩) hbb).trans x1; (first | (have hz2 : w2.cell? ⟨wr.heap.size + 1, 0, none⟩ = some (.int .i64 z) := hgr2.cell (by first | exact E2 | exact E3) (by show some (wr.heap.size + 1) ≠ some wr.heap.size; simp)) | skip); have HQ2 := Lib.hid hq2; have HB2 := Lib.hid hb2; have hws := hb2.size; clear hq2 hgr2 hloc2 hb2)
          | (refine step_append_i _ (by rfl) _ _ (by rfl) (by rfl) wr.heap.size (.slice (some ⟨wr.heap.size + 1, 0, none⟩) 0 0) [] (by rfl) (IAt.empty (by omega) (by simp; try omega)) (by simp; try omega) (.slice Ao no co) no (intCells out) (by rfl) (src_rdI (Rd.below Q.out (by first | exact D1.drew | exact D2.drew | exact D3.drew))) (by simp; omega) ?_; intro v2 w2 hq2 hgr2 hloc2; have hb2 : Below wr.heap.size wr w2 := Below.grown (by first | exact D1.drew | exact D2.drew | exact D3.drew) hgr2 (by simp; try omega) (fun g hg => own_lt hg (by omega)); have x2 := (hb2.cell (p := ⟨b2, o2 + k, none⟩) hbb).trans x1; (first | (have hz2 : w2.cell? ⟨wr.heap.size, 0, none⟩ = some (.int .i64 z) := hgr2.cell (by first | exact E2 | exact E3) (by show some wr.heap.size ≠ some (wr.heap.size + 1); simp)) | skip); have HQ2 := Lib.hid hq2; have HB2 := Lib.hid hb2; have hws := hb2.size; clear hq2 hgr2 hloc2 hb2)
          | (refine step_append_i _ (by rfl) _ _ (by rfl) (by rfl) wr.heap.size v2 _ (by rfl) (by first | exact HQ2.out | exact HQ2.out.alloc _) (by first | exact hws | (simp; omega)) (.slice (some ⟨wr.heap.size, 0, none⟩) 1 1) 1 [.int .i64 z] (by rfl) (src_cell (by first | exact hz2 | (rw [World.cell?_alloc_at _ _ _ _ rfl]; rfl))) hl0 ?_; intro v3 w3 hq3 hgr3 hloc3; have hb3 : Below wr.heap.size wr w3 := (by first | exact HB2.out.grown hgr3 HB2.out.size (fun g hg => (HQ2.out.lt hg).1) | exact (HB2.out.alloc HB2.out.size _).grown hgr3 (Nat.le_trans HB2.out.size (by simp)) (fun g hg => (HQ2.out.lt hg).1)); rw [List.nil_append, ← intCells_snoc] at hq3; obtain ⟨A3, c3, rfl, hc3, hr3⟩ := hq3.rd; rw [show (intCells (out ++ [z])).length = no + 1 by rw [intCells, List.length_map, List.length_append, HOL.out]; rfl] at *; have HR3 := Lib.hid hr3; have HB3 := Lib.hid hb3; clear hq3 hgr3 hloc3 hc3 hr3 hb3)
          | (refine step_append_i _ (by rfl) _ _ (by rfl) (by rfl) wr.heap.size v2 _ (by rfl) (by first | exact HQ2.out | exact HQ2.out.alloc _) (by first | exact hws | (simp; omega)) (.slice (some ⟨wr.heap.size + 1, 0, none⟩) 1 1) 1 [.int .i64 z] (by rfl) (src_cell (by first | exact hz2 | (rw [World.cell?_alloc_at _ _ _ _ rfl]; rfl))) hl0 ?_; intro v3 w3 hq3 hgr3 hloc3; have hb3 : Below wr.heap.size wr w3 := (by first | exact HB2.out.grown hgr3 HB2.out.size (fun g hg => (HQ2.out.lt hg).1) | exact (HB2.out.alloc HB2.out.size _).grown hgr3 (Nat.le_trans HB2.out.size (by simp)) (fun g hg => (HQ2.out.lt hg).1)); rw [List.nil_append, ← intCells_snoc] at hq3; obtain ⟨A3, c3, rfl, hc3, hr3⟩ := hq3.rd; rw [show (intCells (out ++ [z])).length = no + 1 by rw [intCells, List.length_map, List.length_append, HOL.out]; rfl] at *; have HR3 := Lib.hid hr3; have HB3 := Lib.hid hb3; clear hq3 hgr3 hloc3 hc3 hr3 hb3)
          | (refine step_append_i _ (by rfl) _ _ (by rfl) (by rfl) wr.heap.size v2 _ (by rfl) (by first | exact HQ2.out | exact HQ2.out.alloc _) (by first | exact hws | (simp; omega)) (.slice (some ⟨w2.heap.size, 0, none⟩) 1 1) 1 [.int .i64 z] (by rfl) (src_cell (by first | exact hz2 | (rw [World.cell?_alloc_at _ _ _ _ rfl]; rfl))) hl0 ?_; intro v3 w3 hq3 hgr3 hloc3; have hb3 : Below wr.heap.size wr w3 := (by first | exact HB2.out.grown hgr3 HB2.out.size (fun g hg => (HQ2.out.lt hg).1) | exact (HB2.out.alloc HB2.out.size _).grown hgr3 (Nat.le_trans HB2.out.size (by simp)) (fun g hg => (HQ2.out.lt hg).1)); rw [List.nil_append, ← intCells_snoc] at hq3; obtain ⟨A3, c3, rfl, hc3, hr3⟩ := hq3.rd; rw [show (intCells (out ++ [z])).length = no + 1 by rw [intCells, List.length_map, List.length_append, HOL.out]; rfl] at *; have HR3 := Lib.hid hr3; have HB3 := Lib.hid hb3; clear hq3 hgr3 hloc3 hc3 hr3 hb3)
          | (go_simp; refine (rsorted_any A1 n1 c1 A3 (no + 1) c3 (out ++ [z]) w3 HR3.out (by omega) (by omega)).mono ?_; rintro e w4 h4; obtain ⟨A4, c4, rfl, hr4, hc4, b4⟩ := h4.open_; have HR4 := Lib.hid hr4; have HB4 := Lib.hid (below_go HB3.out b4); clear hr4 b4; dsimp only))
        all_goals
          have HQ4 := Lib.hid (Q.out.go HB4.out)
          have HB5 := Lib.hid (below_go B.out HB4.out)
          have HC4 := Lib.hid (H1.out.go HB5.out)
          obtain ⟨nx, hnx⟩ : ∃ nx, nx = sortedTo (out ++ [z]) n1 := ⟨_, rfl⟩
          have hnxl : nx.length ≤ n1 := by rw [hnx]; exact sortedTo_len _ _
          have hnr : ∀ i ∈ nx, 0 ≤ i ∧ i < n1 := by rw [hnx]; exact sorted_range
          unfold greatS at HST
          rw [HL.out, ← hnx] at HST
          rw [← hnx] at HR4 hc4 ⊢
          obtain ⟨f, hf⟩ : ∃ f, fineB l nx = f := ⟨_, rfl⟩
          rw [hf] at HST
          have hfv : fineV l nx = f := by rw [fineV, HV.out, hf]; rfl
          have HF := Lib.hid hfv
          obtain ⟨nl, hnl⟩ : ∃ nl, nl = nx.length := ⟨_, rfl⟩
          rw [← hnl] at HR4 hc4 hnxl ⊢
          clear hnx hf hnl hfv
          go_wp2_with fail
          refine (rfine_any A1 n1 c1 l A4 nl c4 nx w4 HC4.out hn1 HR4.out (by omega)).mono ?_
          rintro e w5 ⟨rfl, b5⟩
          have HB6 := Lib.hid (below_go HB5.out b5)
          have HQ5 := Lib.hid (HQ4.out.go b5)
          have HR5 := Lib.hid (HR4.out.go b5)
          rw [HF.out]
          clear b5
          cases f
          · have HST2 := Lib.hid (HST.out.trans (if_neg (by simp)))
            go_wp2_with fail
            go_roundw
            case rel => exact ⟨k + 1, Ao, co, no, by omega, by go_num, rfl, hno, Lib.hid (by rw [HST2.out]; exact HQ5.out), HB6⟩
            case measure => simp [intOf]; omega
          · have HST2 := Lib.hid (HST.out.trans (if_pos rfl))
            go_wp2_with fail
            go_roundw
            case rel => exact ⟨k + 1, A4, c4, nl, by omega, by go_num, rfl, hc4, Lib.hid (by rw [HST2.out]; exact HR5.out), HB6⟩
            case measure => simp [intOf]; omega
      · obtain rfl : k = n := by omega
        have Q2 := Lib.hid (show Rd wr wr.heap.size 1 Ao no (intCells (greatL l sel)) by have := Q.out; rwa [List.take_of_length_le (by have := HS.out; omega)] at this)
        have HOL := Lib.hid (int_len Q2.out)
        go_wp2_with fail
        go_ret
        exact ⟨Ao, co, by rw [HOL.out]; rfl, by rw [HOL.out]; exact Q2.out, by rw [HOL.out]; exact hno, B.out⟩
end Go.Proofs.Ytflfachkoffiiaa
