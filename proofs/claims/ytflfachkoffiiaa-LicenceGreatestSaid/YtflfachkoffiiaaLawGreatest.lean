/- The walk of LicenceGreatest. -/
import Derived.Test.YtflfachkoffiiaaLawSmallest
import Derived.Deep.RegionLaw
namespace Go.Proofs.Ytflfachkoffiiaa
open Go.RowKit Go.Lib

theorem step_append_ig (w : World) {ops : Array Oper} {o : Oper} {a : Act} {K : Act → World → Prop} {Q : Exit → Act → World → Prop} {E : Prop} (hw : Region.wanted o (yielded ops a.tmps) = true) (s x : Operand)
    (ho : o.op = .call { callee := .builtin .append, args := #[s, x], argTypes := #[22, 22] }) (hty : o.type = 22)
    (base : Nat) (v : Value) (xs : List Value) (hs : a.eval s = v) (hq : IAt w base v xs) (hbase : base ≤ w.heap.size)
    (xv : Value) (n : Nat) (news : List Value) (hx : a.eval x = xv) (hsrc : Src Try.prog 1 22 xv n news w) (hn : xs.length + n ≤ 1000000)
    (h : ∀ v' w', IAt w' base v' (xs ++ news) → w.grownBy w' v.ownBlock → (v'.ownBlock = v.ownBlock ∨ v'.ownBlock = some w.heap.size) → K (a.put o.dst v') w') :
    if Region.wanted o (yielded ops a.tmps) = true then Oper.wp Try.prog o a w K Q else E := by
  rw [if_pos hw]
  obtain ⟨v', w', hr, h2, h3, h4⟩ := run_append_i w base v xs hq hbase xv n news hsrc hn
  unfold Oper.wp execOp
  simp only [ho, hty, resolve, invoke, builtin, Sem.run_bind, Sem.run_pure, Result.andThen_ok, List.map_toArray, List.map_cons, List.map_nil, hs, hx, hr]
  exact h v' w' h2 h3 h4
theorem greatV_len (l : List ClV) (sel : List Int) : (greatV l sel).length ≤ l.length := by
  unfold greatV
  split
  · exact great_len l sel
  · exact Nat.zero_le _

set_option maxHeartbeats 8000000 in
set_option maxRecDepth 100000 in
theorem greatest_any (A : Option Addr) (n c : Nat) (zs : List Int) (A2 : Option Addr) (n2 c2 : Nat) (ms : List Int) (how by' : Int) (w : World) (h1 : Rd w w.heap.size 1 A n (intCells zs)) (f1 : Fits zs) (hn : n ≤ 9223372036854775807)
    (h2 : Rd w w.heap.size 1 A2 n2 (intCells ms)) (f2 : Fits ms) (hn2 : n2 ≤ 9223372036854775807) (hb1 : -9223372036854775808 ≤ how ∧ how ≤ 9223372036854775807) (hb2 : -9223372036854775808 ≤ by' ∧ by' ≤ 9223372036854775807) :
    Calls Try.prog 6 #[.slice A n c, .slice A2 n2 c2, .int .i64 how, .int .i64 by'] w (RetB (.bool true) w) := by
  have H1 := Lib.hid h1
  have H2 := Lib.hid h2
  have F1 := Lib.hid f1
  have F2 := Lib.hid f2
  clear h1 h2 f1 f2
  go_enter Try.func6, Try.ntmps6
  go_wp2_with fail
  refine (clauses_any A n c zs w H1.out F1.out hn).mono ?_
  rintro e w1 ⟨Ac, nc, cc, cs, rfl, hnc, hcc, hcl, hv, b1⟩
  have HC := Lib.hid hcl
  have HV := Lib.hid hv
  have HB := Lib.hid b1
  have HL := Lib.hid hcl.len
  clear hcl hv b1
  go_wp2_with fail
  refine (picks_any A2 n2 c2 ms w1 (H2.out.go HB.out) F2.out hn2).mono ?_
  rintro e w2 hp
  obtain ⟨As, c4, rfl, hr, hc3, b2⟩ := hp.open_
  have hs10 := picks_len ms
  obtain ⟨s, hs⟩ : ∃ s, s = picksL ms := ⟨_, rfl⟩
  rw [← hs] at hr hc3 hs10 ⊢
  obtain ⟨ns, hns⟩ : ∃ ns, ns = s.length := ⟨_, rfl⟩
  rw [← hns] at hr hc3 hs10 ⊢
  have HNS := Lib.hid hns
  have HS := Lib.hid hr
  have HC := Lib.hid (HC.out.go b2)
  have HB := Lib.hid (below_go HB.out b2)
  clear hp hr b2 hs hns
  go_wp2_with fail
  refine (spoilt_any Ac nc cc cs how by' w2 HC.out hnc HV.out hb1 hb2).mono ?_
  rintro e w3 ⟨Ax, nx, cx, xs, rfl, hx8, hx9, hxc, hxl, b3⟩
  have HX := Lib.hid hxl
  have HC := Lib.hid (HC.out.go b3)
  have HS := Lib.hid (HS.out.go b3)
  have HB := Lib.hid (below_go HB.out b3)
  have HXL := Lib.hid hxl.len
  clear hxl b3
  go_wp2_with fail
  refine (great_any Ac nc cc cs As ns c4 s w3 HC.out (by omega) HS.out (by omega)).mono ?_
  rintro e w4 ⟨Ag, cg, rfl, hg, hgc, b4⟩
  have hg8 := greatV_len cs s
  rw [HL.out] at hg8
  have HGV := Lib.hid (show greatV cs s = greatL cs s by rw [greatV, if_pos HV.out])
  obtain ⟨g, hgg⟩ : ∃ g, g = greatV cs s := ⟨_, rfl⟩
  rw [← hgg] at hg hgc hg8 HGV ⊢
  have HGG := Lib.hid hgg.symm
  obtain ⟨ng, hng⟩ : ∃ ng, ng = g.length := ⟨_, rfl⟩
  rw [← hng] at hg hgc hg8 ⊢
  have HNG := Lib.hid hng
  have HG := Lib.hid hg
  have HX := Lib.hid (HX.out.go b4)
  have HC := Lib.hid (HC.out.go b4)
  have HS := Lib.hid (HS.out.go b4)
  have HB := Lib.hid (below_go HB.out b4)
  clear hg b4 hng hgg
  go_wp2_with fail
  refine (rgreat_any Ac nc cc cs As ns c4 s w4 HC.out (by omega) HS.out (by omega)).mono ?_
  rw [HGG.out]
  rintro e w5 ⟨Ar, cr, rfl, hr, _, b5⟩
  have HR := Lib.hid hr
  have HG := Lib.hid (HG.out.go b5)
  have HX := Lib.hid (HX.out.go b5)
  have HC := Lib.hid (HC.out.go b5)
  have HS := Lib.hid (HS.out.go b5)
  have HB := Lib.hid (below_go HB.out b5)
  clear hr b5
  go_wp2_with fail
  refine (sameInts_any Ag Ar ng _ cg cr g g w5 HG.out HR.out (by omega) true (Lib.hid (decide_eq_true rfl))).mono ?_
  rintro e w6 ⟨rfl, b6⟩
  have HG := Lib.hid (HG.out.go b6)
  have HX := Lib.hid (HX.out.go b6)
  have HC := Lib.hid (HC.out.go b6)
  have HS := Lib.hid (HS.out.go b6)
  have HB := Lib.hid (below_go HB.out b6)
  clear b6 HR
  go_wp2_with fail
  refine (great_any Ax nx cx xs As ns c4 s w6 HX.out (by omega) HS.out (by omega)).mono ?_
  rintro e w7 ⟨Ay, cy, rfl, hy, _, b7⟩
  have HY := Lib.hid hy
  have HG := Lib.hid (HG.out.go b7)
  have HX := Lib.hid (HX.out.go b7)
  have HC := Lib.hid (HC.out.go b7)
  have HS := Lib.hid (HS.out.go b7)
  have HB := Lib.hid (below_go HB.out b7)
  clear b7 hy
  go_wp2_with fail
  refine (rgreat_any Ax nx cx xs As ns c4 s w7 HX.out (by omega) HS.out (by omega)).mono ?_
  rintro e w8 ⟨Az, cz, rfl, hz, _, b8⟩
  have HZ := Lib.hid hz
  have HY := Lib.hid (HY.out.go b8)
  have HG := Lib.hid (HG.out.go b8)
  have HC := Lib.hid (HC.out.go b8)
  have HS := Lib.hid (HS.out.go b8)
  have HB := Lib.hid (below_go HB.out b8)
  clear b8 hz HX
  have hgx := greatV_len xs s
  rw [HXL.out] at hgx
  go_wp2_with fail
  refine (sameInts_any Ay Az _ _ cy cz (greatV xs s) (greatV xs s) w8 HY.out HZ.out (by omega) true (Lib.hid (decide_eq_true rfl))).mono ?_
  rintro e w9 ⟨rfl, b9⟩
  have HG := Lib.hid (HG.out.go b9)
  have HC := Lib.hid (HC.out.go b9)
  have HS := Lib.hid (HS.out.go b9)
  have HB := Lib.hid (below_go HB.out b9)
  clear b9 HY HZ hgx
  go_wp2_with fail
  refine (pfine_any Ac nc cc cs Ag ng cg g w9 HC.out (by omega) HG.out (by omega)).mono ?_
  rw [fineV, HV.out, Bool.true_and, show fineB cs g = true by rw [HGV.out]; exact great_fine cs s]
  rintro e w10 ⟨rfl, b10⟩
  have HG := Lib.hid (HG.out.go b10)
  have HC := Lib.hid (HC.out.go b10)
  have HS := Lib.hid (HS.out.go b10)
  have HB := Lib.hid (below_go HB.out b10)
  clear b10
  go_wp2_with fail
  refine (rsorted_any Ac nc cc As ns c4 s w10 HS.out (by omega) (by omega)).mono ?_
  rintro e w11 ha
  obtain ⟨Aa, ca, rfl, hra, hca, b11⟩ := ha.open_
  have hal := sortedTo_len s nc
  obtain ⟨all, hall⟩ : ∃ all, all = sortedTo s nc := ⟨_, rfl⟩
  rw [← hall] at hra hca hal ⊢
  obtain ⟨na, hna⟩ : ∃ na, na = all.length := ⟨_, rfl⟩
  rw [← hna] at hra hca hal ⊢
  have HA := Lib.hid hra
  have HNA := Lib.hid hna
  have HOUT := Lib.hid (show ∀ x ∈ all, x ∉ g → fineB cs (g ++ [x]) = false from fun x hx hxg => by
    rw [HGV.out] at hxg ⊢
    exact great_more (by rw [HL.out, ← hall]; exact hx) hxg)
  have HG := Lib.hid (HG.out.go b11)
  have HC := Lib.hid (HC.out.go b11)
  have HB := Lib.hid (below_go HB.out b11)
  clear ha hra b11 hall hna HS
  go_wp2_with fail
  go_loopw [14] (fun x wr => ∃ (i : Nat), i ≤ na ∧ x = .int .i64 i ∧ Hid (Below w11.heap.size w11 wr)) (fun x _ => na - (intOf x).toNat)
  case atStart => exact ⟨0, by omega, rfl, Lib.hid (Below.refl _ _)⟩
  case round =>
    obtain ⟨i, hi, rfl, B⟩ := hrel
    by_cases hlt : i < na
    · have j0 : (0 : Int) ≤ (i : Int) := by omega
      have j1 : (i : Int) < (na : Int) := by omega
      have hia : i < all.length := by have := HNA.out; omega
      obtain ⟨b3, o3, rfl, hbb, x1⟩ := (HA.out.go B.out).int hlt
      obtain ⟨y, hy⟩ : ∃ y, y = all.getD i 0 := ⟨_, rfl⟩
      rw [← hy] at x1
      have HYM := Lib.hid (show y ∈ all by rw [hy, List.getD_eq_getElem?_getD, List.getElem?_eq_getElem hia]; exact List.getElem_mem hia)
      have HX1 := Lib.hid x1
      have HBB := Lib.hid hbb
      clear x1 hy
      obtain ⟨wo, rfl⟩ : ∃ wo, wo = wr := ⟨_, rfl⟩
      go_wp2_with fail
      go_loopw [15, 16] (fun f x wq => ∃ q : Nat, q ≤ ng ∧ x = .int .i64 q ∧ f = .bool ((g.take q).contains y) ∧ Hid (Below wo.heap.size wo wq)) (fun _ x _ => ng - (intOf x).toNat)
      case atStart => exact ⟨0, by omega, rfl, rfl, Lib.hid (Below.refl _ _)⟩
      case round =>
        obtain ⟨q, hq, rfl, rfl, B4⟩ := hrel
        have x1 := (B4.out.cell (p := ⟨b3, o3 + i, none⟩) HBB.out).trans HX1.out
        by_cases hql : q < ng
        · have i1 : (q : Int) < (ng : Int) := by omega
          have i0 : (0 : Int) ≤ (q : Int) := by omega
          have hqa : q < g.length := by rw [← HNG.out]; exact hql
          obtain ⟨b4, o4, rfl, hb4, y1⟩ := ((HG.out.go B.out).go B4.out).int hql
          have hz : g.getD q 0 = g[q] := by rw [List.getD_eq_getElem?_getD, List.getElem?_eq_getElem hqa]; rfl
          rw [hz] at y1
          have HST := Lib.hid (contains_step hqa y)
          obtain ⟨v, hv⟩ : ∃ v, v = g[q] := ⟨_, rfl⟩
          rw [← hv] at y1 HST
          obtain ⟨f, hf⟩ : ∃ f, (g.take q).contains y = f := ⟨_, rfl⟩
          rw [hf] at HST ⊢
          clear hz hv hf
          cases f
          · go_wp2_with fail
            go_quiet (fail)
            go_wp2_with fail
            go_roundw
            case rel => exact ⟨q + 1, by omega, by go_num, by rw [HST.out]; rfl, Lib.hid (below_drewN B4.out _)⟩
            case measure => simp [intOf]; omega
          · go_wp2_with fail
            go_quiet (fail)
            go_wp2_with fail
            go_roundw
            case rel => exact ⟨q + 1, by omega, by go_num, by rw [HST.out]; rfl, Lib.hid (below_drewN B4.out _)⟩
            case measure => simp [intOf]; omega
        · obtain rfl : q = ng := by omega
          rw [List.take_of_length_le (by rw [← HNG.out]; exact Nat.le_refl _)]
          have HB5 := Lib.hid (below_go B.out B4.out)
          cases hf : g.contains y
          · have HNF := Lib.hid (HOUT.out y HYM.out (fun h => by rw [List.contains_iff_mem.2 h] at hf; cases hf))
            clear hf
            have HGr := Lib.hid ((HG.out.go B.out).go B4.out)
            have HCr := Lib.hid ((HC.out.go B.out).go B4.out)
            have hbr : b3 < wr.heap.size := Nat.lt_of_lt_of_le HBB.out B4.out.size
            have D1 : Below wr.heap.size wr (wr.alloc (.cells #[] 3)) := below_new wr _
            have D2 : Below wr.heap.size wr ((wr.alloc (.cells #[] 3)).alloc (.cells #[.int .i64 y] 3)) := D1.alloc (by simp) _
            have D3 : Below wr.heap.size wr ((wr.alloc (.cells #[.int .i64 y] 3)).alloc (.cells #[] 3)) := (below_new wr _).alloc (by simp) _
            have E2 : ((wr.alloc (.cells #[] 3)).alloc (.cells #[.int .i64 y] 3)).cell? ⟨wr.heap.size + 1, 0, none⟩ = some (.int .i64 y) := by rw [World.cell?_alloc_at _ _ _ _ (by simp)]; rfl
            have E3 : ((wr.alloc (.cells #[.int .i64 y] 3)).alloc (.cells #[] 3)).cell? ⟨wr.heap.size, 0, none⟩ = some (.int .i64 y) := by
              rw [((Below.refl (wr.heap.size + 1) (wr.alloc (.cells #[.int .i64 y] 3))).alloc (by simp) (.cells #[] 3)).cell (p := ⟨wr.heap.size, 0, none⟩) (by simp), World.cell?_alloc_at _ _ _ _ rfl]; rfl
            have hl0 : ([] ++ intCells g).length + 1 ≤ 1000000 := by rw [List.nil_append, intCells, List.length_map, ← HNG.out]; omega
            go_wp2_with fail
            go_region_law (first
              | (refine step_append_ig _ (by rfl) _ _ (by rfl) (by rfl) wr.heap.size (.slice (some ⟨wr.heap.size, 0, none⟩) 0 0) [] (by rfl) (IAt.empty (by omega) (by simp; try omega)) (by simp; try omega) (.slice Ag q cg) q (intCells g) (by rfl) (src_rdI (Rd.below HGr.out (by first | exact D1.drew | exact D2.drew | exact D3.drew))) (by simp; omega) ?_; intro v2 w2 hq2 hgr2 hloc2; have hb2 : Below wr.heap.size wr w2 := Below.grown (by first | exact D1.drew | exact D2.drew | exact D3.drew) hgr2 (by simp; try omega) (fun g hg => own_lt hg (by omega)); have x2 := (hb2.cell (p := ⟨b3, o3 + i, none⟩) hbr).trans x1; (first | (have hz2 : w2.cell? ⟨wr.heap.size + 1, 0, none⟩ = some (.int .i64 y) := hgr2.cell (by first | exact E2 | exact E3) (by show some (wr.heap.size + 1) ≠ some wr.heap.size; simp)) | skip); have HQ2 := Lib.hid hq2; have HB2 := Lib.hid hb2; have hws := hb2.size; clear hq2 hgr2 hloc2 hb2)
              | (refine step_append_ig _ (by rfl) _ _ (by rfl) (by rfl) wr.heap.size (.slice (some ⟨wr.heap.size + 1, 0, none⟩) 0 0) [] (by rfl) (IAt.empty (by omega) (by simp; try omega)) (by simp; try omega) (.slice Ag q cg) q (intCells g) (by rfl) (src_rdI (Rd.below HGr.out (by first | exact D1.drew | exact D2.drew | exact D3.drew))) (by simp; omega) ?_; intro v2 w2 hq2 hgr2 hloc2; have hb2 : Below wr.heap.size wr w2 := Below.grown (by first | exact D1.drew | exact D2.drew | exact D3.drew) hgr2 (by simp; try omega) (fun g hg => own_lt hg (by omega)); have x2 := (hb2.cell (p := ⟨b3, o3 + i, none⟩) hbr).trans x1; (first | (have hz2 : w2.cell? ⟨wr.heap.size, 0, none⟩ = some (.int .i64 y) := hgr2.cell (by first | exact E2 | exact E3) (by show some wr.heap.size ≠ some (wr.heap.size + 1); simp)) | skip); have HQ2 := Lib.hid hq2; have HB2 := Lib.hid hb2; have hws := hb2.size; clear hq2 hgr2 hloc2 hb2)
              | (refine step_append_ig _ (by rfl) _ _ (by rfl) (by rfl) wr.heap.size v2 _ (by rfl) (by first | exact HQ2.out | exact HQ2.out.alloc _) (by first | exact hws | (simp; omega)) (.slice (some ⟨wr.heap.size, 0, none⟩) 1 1) 1 [.int .i64 y] (by rfl) (src_cell (by first | exact hz2 | (rw [World.cell?_alloc_at _ _ _ _ rfl]; rfl))) hl0 ?_; intro v3 w3 hq3 hgr3 hloc3; have hb3 : Below wr.heap.size wr w3 := (by first | exact HB2.out.grown hgr3 HB2.out.size (fun g hg => (HQ2.out.lt hg).1) | exact (HB2.out.alloc HB2.out.size _).grown hgr3 (Nat.le_trans HB2.out.size (by simp)) (fun g hg => (HQ2.out.lt hg).1)); rw [List.nil_append, ← intCells_snoc] at hq3; obtain ⟨A3, c3, rfl, hc3, hr3⟩ := hq3.rd; rw [show (intCells (g ++ [y])).length = q + 1 by rw [intCells, List.length_map, List.length_append, ← HNG.out]; rfl] at *; have HR3 := Lib.hid hr3; have HB3 := Lib.hid hb3; clear hq3 hgr3 hloc3 hc3 hr3 hb3)
              | (refine step_append_ig _ (by rfl) _ _ (by rfl) (by rfl) wr.heap.size v2 _ (by rfl) (by first | exact HQ2.out | exact HQ2.out.alloc _) (by first | exact hws | (simp; omega)) (.slice (some ⟨wr.heap.size + 1, 0, none⟩) 1 1) 1 [.int .i64 y] (by rfl) (src_cell (by first | exact hz2 | (rw [World.cell?_alloc_at _ _ _ _ rfl]; rfl))) hl0 ?_; intro v3 w3 hq3 hgr3 hloc3; have hb3 : Below wr.heap.size wr w3 := (by first | exact HB2.out.grown hgr3 HB2.out.size (fun g hg => (HQ2.out.lt hg).1) | exact (HB2.out.alloc HB2.out.size _).grown hgr3 (Nat.le_trans HB2.out.size (by simp)) (fun g hg => (HQ2.out.lt hg).1)); rw [List.nil_append, ← intCells_snoc] at hq3; obtain ⟨A3, c3, rfl, hc3, hr3⟩ := hq3.rd; rw [show (intCells (g ++ [y])).length = q + 1 by rw [intCells, List.length_map, List.length_append, ← HNG.out]; rfl] at *; have HR3 := Lib.hid hr3; have HB3 := Lib.hid hb3; clear hq3 hgr3 hloc3 hc3 hr3 hb3)
              | (refine step_append_ig _ (by rfl) _ _ (by rfl) (by rfl) wr.heap.size v2 _ (by rfl) (by first | exact HQ2.out | exact HQ2.out.alloc _) (by first | exact hws | (simp; omega)) (.slice (some ⟨w2.heap.size, 0, none⟩) 1 1) 1 [.int .i64 y] (by rfl) (src_cell (by first | exact hz2 | (rw [World.cell?_alloc_at _ _ _ _ rfl]; rfl))) hl0 ?_; intro v3 w3 hq3 hgr3 hloc3; have hb3 : Below wr.heap.size wr w3 := (by first | exact HB2.out.grown hgr3 HB2.out.size (fun g hg => (HQ2.out.lt hg).1) | exact (HB2.out.alloc HB2.out.size _).grown hgr3 (Nat.le_trans HB2.out.size (by simp)) (fun g hg => (HQ2.out.lt hg).1)); rw [List.nil_append, ← intCells_snoc] at hq3; obtain ⟨A3, c3, rfl, hc3, hr3⟩ := hq3.rd; rw [show (intCells (g ++ [y])).length = q + 1 by rw [intCells, List.length_map, List.length_append, ← HNG.out]; rfl] at *; have HR3 := Lib.hid hr3; have HB3 := Lib.hid hb3; clear hq3 hgr3 hloc3 hc3 hr3 hb3)
              | (go_simp; refine (pfine_any Ac nc cc cs A3 (q + 1) c3 (g ++ [y]) w3 (HCr.out.go HB3.out) (by omega) HR3.out (by omega)).mono ?_; rw [fineV, HV.out, Bool.true_and, HNF.out]; rintro e w4 ⟨rfl, b4⟩; have HB4 := Lib.hid (below_go HB3.out b4); clear b4; dsimp only))
            all_goals
              go_wp2_with fail
              go_roundw
              case rel => exact ⟨i + 1, by omega, by go_num, Lib.hid (below_go HB5.out HB4.out)⟩
              case measure => simp [intOf]; omega
          · clear hf
            go_wp2_with fail
            go_quiet (fail)
            go_wp2_with fail
            go_roundw
            case rel => exact ⟨i + 1, by omega, by go_num, Lib.hid (below_drewN HB5.out _)⟩
            case measure => simp [intOf]; omega
    · obtain rfl : i = na := by omega
      go_wp2_with fail
      refine (lives_any wr).mono ?_
      rintro e w17 ⟨rfl, b17⟩
      go_wp2_with fail
      go_ret
      exact ⟨rfl, below_go (below_go HB.out B.out) b17⟩
end Go.Proofs.Ytflfachkoffiiaa
