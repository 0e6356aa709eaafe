/- The walk of LicenceChecks. -/
import Derived.Test.YtflfachkoffiiaaLawCores
import Derived.Deep.RegionHeld3
namespace Go.Proofs.Ytflfachkoffiiaa
open Go.RowKit Go.Lib

theorem cell_go {w w' : World} {p : Addr} {v : Value} (hb : Below w.heap.size w w') (h : w.cell? p = some v) : w'.cell? p = some v := (hb.cell (World.block_lt_of_cell? w _ h)).trans h
theorem far_go {w0 w w' : World} (hb : Below w.heap.size w w') (h : Hid (Below w0.heap.size w0 w)) : Hid (Below w0.heap.size w0 w') := h.out.trans (hb.mono h.out.size)
/-- a list of numbers that reads -/
def LAt (w : World) (A : Option Addr) (n c : Nat) : Prop := n ≤ 1000 ∧ n ≤ c ∧ ∃ zs : List Int, Rd w w.heap.size 1 A n (intCells zs)
theorem LAt.go {w w' : World} {A : Option Addr} {n c : Nat} (h : LAt w A n c) (hb : Below w.heap.size w w') : LAt w' A n c := by
  obtain ⟨h1, h2, zs, hr⟩ := h
  exact ⟨h1, h2, zs, hr.go hb⟩
theorem core_check {l : List ClV} {sel : List Int} (hv : validB l = true) (h16 : (sortedTo sel l.length).length ≤ 16) (h0 : 0 < (coreV l sel).length) : checkV l sel (coreV l sel) = 0 := by
  cases hf : fineB l sel
  · exact (core_is hv h16 hf).check hv
  · rw [coreV_fine (by rw [fine_sorted rfl]; exact hf)] at h0; cases h0

set_option maxHeartbeats 16000000 in
set_option maxRecDepth 100000 in
theorem checks_any (A : Option Addr) (n c : Nat) (zs : List Int) (A2 : Option Addr) (n2 c2 : Nat) (ms : List Int) (A3 : Option Addr) (n3 c3 : Nat) (ks : List Int) (how by' : Int) (w : World) (h1 : Rd w w.heap.size 1 A n (intCells zs)) (f1 : Fits zs) (hn : n ≤ 9223372036854775807)
    (h2 : Rd w w.heap.size 1 A2 n2 (intCells ms)) (f2 : Fits ms) (hn2 : n2 ≤ 9223372036854775807) (h3 : Rd w w.heap.size 1 A3 n3 (intCells ks)) (f3 : Fits ks) (hn3 : n3 ≤ 9223372036854775807)
    (hb1 : -9223372036854775808 ≤ how ∧ how ≤ 9223372036854775807) (hb2 : -9223372036854775808 ≤ by' ∧ by' ≤ 9223372036854775807) :
    Calls Try.prog 5 #[.slice A n c, .slice A2 n2 c2, .slice A3 n3 c3, .int .i64 how, .int .i64 by'] w (RetB (.bool true) w) := by
  have H1 := Lib.hid h1
  have H2 := Lib.hid h2
  have H3 := Lib.hid h3
  have F1 := Lib.hid f1
  have F2 := Lib.hid f2
  have F3 := Lib.hid f3
  clear h1 h2 h3 f1 f2 f3
  go_enter Try.func5, Try.ntmps5
  go_wp2_with fail
  refine (clauses_any A n c zs w H1.out F1.out hn).mono ?_
  rintro e w1 ⟨Ac, nc, cc, cs, rfl, hnc, hcc, hcl, hv, b1⟩
  have HC := Lib.hid hcl
  have HV := Lib.hid hv
  have HB := Lib.hid b1
  have HL := Lib.hid hcl.len
  clear hcl hv b1
  go_wp2_with fail
  refine (picks_any A2 n2 c2 ms w1 (H2.out.go HB.out) F2.out hn2).mono ?_
  rintro e w2 hp
  obtain ⟨As, c4, rfl, hr, hc3, b2⟩ := hp.open_
  have hs10 := picks_len ms
  obtain ⟨s, hs⟩ : ∃ s, s = picksL ms := ⟨_, rfl⟩
  rw [← hs] at hr hc3 hs10 ⊢
  obtain ⟨ns, hns⟩ : ∃ ns, ns = s.length := ⟨_, rfl⟩
  rw [← hns] at hr hc3 hs10 ⊢
  have HNS := Lib.hid hns
  have HS := Lib.hid hr
  have HC := Lib.hid (HC.out.go b2)
  have HB := Lib.hid (below_go HB.out b2)
  clear hp hr b2 hs hns
  have hk8 := core_len cs s
  rw [HL.out] at hk8
  have H16 := Lib.hid (show (sortedTo s cs.length).length ≤ 16 by have := sortedTo_len s cs.length; have := HL.out; omega)
  go_wp2_with fail
  refine (rcore_any Ac nc cc cs As ns c4 s w2 HC.out (by omega) HS.out (by omega) (sp_core HL.out (.inl hnc) s) _ (Lib.hid rfl)).mono ?_
  rintro e w3 ⟨Ak, ck, rfl, hk, hkc, b3⟩
  obtain ⟨core, hcore⟩ : ∃ core, core = coreV cs s := ⟨_, rfl⟩
  rw [← hcore] at hk hkc hk8 ⊢
  obtain ⟨nk, hnk⟩ : ∃ nk, nk = core.length := ⟨_, rfl⟩
  rw [← hnk] at hk hkc hk8 ⊢
  have HNK := Lib.hid hnk
  have HCK := Lib.hid (show 0 < nk → checkV cs s core = 0 from fun h => by rw [hcore]; exact core_check HV.out H16.out (by rw [← hcore, ← hnk]; exact h))
  have HK := Lib.hid hk
  have HC := Lib.hid (HC.out.go b3)
  have HS := Lib.hid (HS.out.go b3)
  have HB := Lib.hid (below_go HB.out b3)
  clear hk b3 hcore hnk
  go_wp2_with fail
  refine (picks_any A3 n3 c3 ks w3 (H3.out.go HB.out) F3.out hn3).mono ?_
  rintro e w4 hp
  obtain ⟨Ap, cp, rfl, hr, hpc, b4⟩ := hp.open_
  have hp10 := picks_len ks
  obtain ⟨p, hp'⟩ : ∃ p, p = picksL ks := ⟨_, rfl⟩
  rw [← hp'] at hr hpc hp10 ⊢
  obtain ⟨np, hnp⟩ : ∃ np, np = p.length := ⟨_, rfl⟩
  rw [← hnp] at hr hpc hp10 ⊢
  have HP := Lib.hid hr
  have HK := Lib.hid (HK.out.go b4)
  have HC := Lib.hid (HC.out.go b4)
  have HS := Lib.hid (HS.out.go b4)
  have HB := Lib.hid (below_go HB.out b4)
  clear hp hr b4 hp' hnp
  go_wp2_with fail
  refine (rsorted_any Ac nc cc Ap np cp p w4 HP.out (by omega) (by omega)).mono ?_
  rintro e w5 hp
  obtain ⟨Aq, cq, rfl, hr, hqc, b5⟩ := hp.open_
  have hq10 := sortedTo_len p nc
  obtain ⟨nq, hnq⟩ : ∃ nq, nq = (sortedTo p nc).length := ⟨_, rfl⟩
  rw [← hnq] at hr hqc hq10 ⊢
  have L1 := Lib.hid (show LAt w5 Aq nq cq from ⟨by omega, hqc, sortedTo p nc, hr⟩)
  have HK := Lib.hid (HK.out.go b5)
  have HC := Lib.hid (HC.out.go b5)
  have HS := Lib.hid (HS.out.go b5)
  have HB := Lib.hid (below_go HB.out b5)
  clear hp hr b5 hq10 hqc hnq HP
  go_wp2_with fail
  refine (picks_any A3 n3 c3 ks w5 (H3.out.go HB.out) F3.out hn3).mono ?_
  rintro e w6 hp
  obtain ⟨Ar, cr, rfl, hr, hrc, b6⟩ := hp.open_
  have hr10 := picks_len ks
  obtain ⟨nr, hnr⟩ : ∃ nr, nr = (picksL ks).length := ⟨_, rfl⟩
  rw [← hnr] at hr hrc hr10 ⊢
  have L2 := Lib.hid (show LAt w6 Ar nr cr from ⟨by omega, hrc, picksL ks, hr⟩)
  have L1 := Lib.hid (L1.out.go b6)
  have HK := Lib.hid (HK.out.go b6)
  have HC := Lib.hid (HC.out.go b6)
  have HS := Lib.hid (HS.out.go b6)
  have HB := Lib.hid (below_go HB.out b6)
  clear hp hr b6 hr10 hrc hnr
  have HE := Lib.hid (IAt.empty (w := w6.alloc (.cells #[] 3)) (base := w6.heap.size) (g := w6.heap.size) (Nat.le_refl _) (by simp))
  have HKS := Lib.hid (src_rdI (c := ck) (HK.out.below (below_new w6 (.cells #[] 3))))
  have HLK := Lib.hid (show (intCells core).length = nk by rw [intCells, List.length_map, HNK.out])
  go_wp2_with (at_builtin; refine wpList_append_i _ rfl _ _ rfl rfl w6.heap.size (.slice (some ⟨w6.heap.size, 0, none⟩) 0 0) [] rfl HE.out (by simp) _ nk _ rfl HKS.out (by simp; omega) ?_)
  intro v7 w7 hq7 hgr hloc
  have HX7 := Lib.hid ((below_new w6 (.cells #[] 3)).grown hgr (by simp) (fun g hg => (HE.out.lt hg).1))
  have HQ7 := Lib.hid hq7
  clear hq7 hgr hloc HE HKS
  go_wp2_with (at_builtin; refine wpList_append_i _ rfl _ _ rfl rfl w6.heap.size v7 (intCells core) rfl (HQ7.out.alloc _) (Nat.le_trans HX7.out.size (by simp)) _ 1 _ rfl (src_oneI _ by' _) (by rw [HLK.out]; omega) ?_)
  intro v8 w8 hq8 hgr hloc
  have HX8 := Lib.hid ((HX7.out.alloc HX7.out.size _).grown hgr (Nat.le_trans HX7.out.size (by simp)) (fun g hg => (HQ7.out.lt hg).1))
  rw [← intCells_snoc] at hq8
  obtain ⟨A8, c8, rfl, hc8, hr8⟩ := hq8.rd
  rw [show (intCells (core ++ [by'])).length = nk + 1 by rw [intCells_snoc, List.length_append, HLK.out]; rfl] at *
  have L4 := Lib.hid (show LAt w8 A8 (nk + 1) c8 from ⟨by omega, hc8, _, hr8⟩)
  have L0 := Lib.hid (show LAt w8 Ak nk ck from ⟨by omega, hkc, core, HK.out.go HX8.out⟩)
  have L1 := Lib.hid (L1.out.go HX8.out)
  have L2 := Lib.hid (L2.out.go HX8.out)
  have L3 := Lib.hid (show LAt w8 none 0 0 from ⟨by omega, Nat.le_refl _, [], Rd.nil⟩)
  have HK := Lib.hid (HK.out.go HX8.out)
  have HC := Lib.hid (HC.out.go HX8.out)
  have HS := Lib.hid (HS.out.go HX8.out)
  have HB := Lib.hid (below_go HB.out HX8.out)
  clear hq8 hgr hloc hc8 hr8 HX7 HQ7 HX8 HLK
  have HBl := Lib.hid (Blk.new w8 22 #[.slice Ak nk ck, .slice Aq nq cq, .slice Ar nr cr, .slice none 0 0, .slice A8 (nk + 1) c8])
  go_wp2_with fail
  obtain ⟨w9, hw9⟩ : ∃ w9, w9 = w8.alloc (.cells #[.slice Ak nk ck, .slice Aq nq cq, .slice Ar nr cr, .slice none 0 0, .slice A8 (nk + 1) c8] 22) := ⟨_, rfl⟩
  rw [← hw9] at HBl ⊢
  have HX9 := Lib.hid (show Below w8.heap.size w8 w9 by rw [hw9]; exact below_new _ _)
  clear hw9
  obtain ⟨gl, hgl⟩ : ∃ gl, gl = w8.heap.size := ⟨_, rfl⟩
  rw [← hgl] at HBl ⊢
  clear hgl
  refine (spoilt_any Ac nc cc cs how by' w9 (HC.out.go HX9.out) hnc HV.out hb1 hb2).mono ?_
  rintro e w10 ⟨Ax, nx, cx, xs, rfl, hx8, hx9, hxc, hxl, b10⟩
  have HX := Lib.hid hxl
  have HY := Lib.hid (below_go HX9.out b10)
  have HC := Lib.hid (HC.out.go HY.out)
  have HS := Lib.hid (HS.out.go HY.out)
  have HK := Lib.hid (HK.out.go HY.out)
  have HB := Lib.hid (below_go HB.out HY.out)
  have HBl := Lib.hid (HBl.out.below b10 HBl.out.lt)
  have HLs := Lib.hid (show ∀ i, i < 5 → ∃ A n c, w10.cell? ⟨gl, i, none⟩ = some (.slice A n c) ∧ LAt w10 A n c from fun i hi => by
    have hc := HBl.out.cell i
    match i, hi with
    | 0, _ => exact ⟨_, _, _, hc, L0.out.go HY.out⟩
    | 1, _ => exact ⟨_, _, _, hc, L1.out.go HY.out⟩
    | 2, _ => exact ⟨_, _, _, hc, L2.out.go HY.out⟩
    | 3, _ => exact ⟨_, _, _, hc, L3.out.go HY.out⟩
    | 4, _ => exact ⟨_, _, _, hc, L4.out.go HY.out⟩)
  have HGL := Lib.hid HBl.out.lt
  clear hxl b10 HX9 HY HBl L0 L1 L2 L3 L4
  go_wp2_with fail
  go_loopw [16] (fun x wr => ∃ (i : Nat), i ≤ 5 ∧ x = .int .i64 i ∧ Hid (Below w10.heap.size w10 wr)) (fun x _ => 5 - (intOf x).toNat)
  case atStart => exact ⟨0, by omega, rfl, Lib.hid (Below.refl _ _)⟩
  case round =>
    obtain ⟨i, hi, rfl, B⟩ := hrel
    by_cases hlt : i < 5
    · have j0 : (0 : Int) ≤ (i : Int) := by omega
      have j1 : (i : Int) < 5 := by omega
      obtain ⟨Al, nl, cl, xc, hla⟩ := HLs.out i hlt
      obtain ⟨l1, l2, L, hrl⟩ := hla.go B.out
      have x1 := (B.out.cell (p := ⟨gl, i, none⟩) HGL.out).trans xc
      have x2 : wr.drew.cell? ⟨gl, i, none⟩ = some (.slice Al nl cl) := x1
      have HR := Lib.hid hrl
      have HCr := Lib.hid (HC.out.go B.out)
      have HSr := Lib.hid (HS.out.go B.out)
      have HXr := Lib.hid (HX.out.go B.out)
      obtain ⟨r1, hr1⟩ : ∃ r, checkV cs s L = r := ⟨_, rfl⟩
      obtain ⟨r2, hr2⟩ : ∃ r, checkV xs s L = r := ⟨_, rfl⟩
      obtain ⟨r3, hr3⟩ : ∃ r, checkV cs L L = r := ⟨_, rfl⟩
      have K1 := Lib.hid (show ∀ W, Hid (Below wr.heap.size wr W) → Calls Try.prog 21 #[.slice Ac nc cc, .slice As ns c4, .slice Al nl cl] W (RetB (.int .i64 r1) W) from fun W h => check_any Ac nc cc cs As ns c4 s Al nl cl L W (HCr.out.go h.out) (by omega) (HSr.out.go h.out) (by omega) (HR.out.go h.out) (by omega) l2 r1 (Lib.hid hr1))
      have K2 := Lib.hid (show ∀ W, Hid (Below wr.heap.size wr W) → Calls Try.prog 22 #[.slice Ac nc cc, .slice As ns c4, .slice Al nl cl] W (RetB (.int .i64 r1) W) from fun W h => rcheck_any Ac nc cc cs As ns c4 s Al nl cl L W (HCr.out.go h.out) (by omega) (HSr.out.go h.out) (by omega) (HR.out.go h.out) (by omega) l2 r1 (Lib.hid hr1))
      have K3 := Lib.hid (show ∀ W, Hid (Below wr.heap.size wr W) → Calls Try.prog 21 #[.slice Ax nx cx, .slice As ns c4, .slice Al nl cl] W (RetB (.int .i64 r2) W) from fun W h => check_any Ax nx cx xs As ns c4 s Al nl cl L W (HXr.out.go h.out) (by omega) (HSr.out.go h.out) (by omega) (HR.out.go h.out) (by omega) l2 r2 (Lib.hid hr2))
      have K4 := Lib.hid (show ∀ W, Hid (Below wr.heap.size wr W) → Calls Try.prog 22 #[.slice Ax nx cx, .slice As ns c4, .slice Al nl cl] W (RetB (.int .i64 r2) W) from fun W h => rcheck_any Ax nx cx xs As ns c4 s Al nl cl L W (HXr.out.go h.out) (by omega) (HSr.out.go h.out) (by omega) (HR.out.go h.out) (by omega) l2 r2 (Lib.hid hr2))
      have K5 := Lib.hid (show ∀ W, Hid (Below wr.heap.size wr W) → Calls Try.prog 21 #[.slice Ac nc cc, .slice Al nl cl, .slice Al nl cl] W (RetB (.int .i64 r3) W) from fun W h => check_any Ac nc cc cs Al nl cl L Al nl cl L W (HCr.out.go h.out) (by omega) (HR.out.go h.out) (by omega) (HR.out.go h.out) (by omega) l2 r3 (Lib.hid hr3))
      have K6 := Lib.hid (show ∀ W, Hid (Below wr.heap.size wr W) → Calls Try.prog 22 #[.slice Ac nc cc, .slice Al nl cl, .slice Al nl cl] W (RetB (.int .i64 r3) W) from fun W h => rcheck_any Ac nc cc cs Al nl cl L Al nl cl L W (HCr.out.go h.out) (by omega) (HR.out.go h.out) (by omega) (HR.out.go h.out) (by omega) l2 r3 (Lib.hid hr3))
      have y0 : Hid (Below wr.heap.size wr wr.drew) := Lib.hid (Below.refl _ _).drew
      clear hr1 hr2 hr3 hrl hla xc HR HCr HSr HXr
      go_wp2_with fail
      go_region_held3 (fun W => W.cell? ⟨gl, i, none⟩ = some (.slice Al nl cl) ∧ Hid (Below wr.heap.size wr W))
        (first | (go_split_ands; exact ⟨cell_go bn (by assumption), far_go bn (by assumption)⟩) | exact ⟨x2, y0⟩ | (go_split_ands; refine ⟨?_, ?_⟩ <;> assumption) | go_keep)
        (first
          | (go_at_call 21; go_split_ands; first | ((with_reducible refine (K1.out _ (by assumption)).mono ?_); rintro e wn ⟨rfl, bn⟩) | ((with_reducible refine (K3.out _ (by assumption)).mono ?_); rintro e wn ⟨rfl, bn⟩) | ((with_reducible refine (K5.out _ (by assumption)).mono ?_); rintro e wn ⟨rfl, bn⟩))
          | (go_at_call 22; go_split_ands; first | ((with_reducible refine (K2.out _ (by assumption)).mono ?_); rintro e wn ⟨rfl, bn⟩) | ((with_reducible refine (K4.out _ (by assumption)).mono ?_); rintro e wn ⟨rfl, bn⟩) | ((with_reducible refine (K6.out _ (by assumption)).mono ?_); rintro e wn ⟨rfl, bn⟩)))
      go_split_ands
      have HBn : Hid (Below wr.heap.size wr wn) := by assumption
      have HBf := Lib.hid (below_go B.out HBn.out)
      go_wp2_with fail
      go_roundw
      case rel => exact ⟨i + 1, by omega, by go_num, HBf⟩
      case measure => simp [intOf]; omega
    · obtain rfl : i = 5 := by omega
      have HC := Lib.hid (HC.out.go B.out)
      have HS := Lib.hid (HS.out.go B.out)
      have HK := Lib.hid (HK.out.go B.out)
      have HB := Lib.hid (below_go HB.out B.out)
      rcases Nat.eq_zero_or_pos nk with rfl | h0
      · go_wp2_with fail
        refine (lives_any wr).mono ?_
        rintro e w13 ⟨rfl, b13⟩
        go_wp2_with fail
        go_ret
        exact ⟨rfl, below_go HB.out b13⟩
      · have e0 : ((nk : Int) == 0) = false := beq_eq_false_iff_ne.2 (by omega)
        go_wp2_with fail
        refine (check_any Ac nc cc cs As ns c4 s Ak nk ck core wr HC.out (by omega) HS.out (by omega) HK.out (by omega) hkc 0 (Lib.hid (HCK.out h0))).mono ?_
        rintro e w12 ⟨rfl, b12⟩
        have HB := Lib.hid (below_go HB.out b12)
        clear b12
        go_wp2_with fail
        refine (lives_any w12).mono ?_
        rintro e w13 ⟨rfl, b13⟩
        go_wp2_with fail
        go_ret
        exact ⟨rfl, below_go HB.out b13⟩
end Go.Proofs.Ytflfachkoffiiaa
