/- The walk of LicenceFine. -/
import Derived.Test.YtflfachkoffiiaaLawChecks
namespace Go.Proofs.Ytflfachkoffiiaa
open Go.RowKit Go.Lib

/-- a list of clauses that reads -/
def CAt (w : World) (A : Option Addr) (n : Nat) : Prop := n ≤ 9223372036854775807 ∧ ∃ cs : List ClV, Cls w w.heap.size A n cs
theorem CAt.go {w w' : World} {A : Option Addr} {n : Nat} (h : CAt w A n) (hb : Below w.heap.size w w') : CAt w' A n := by
  obtain ⟨h1, cs, hr⟩ := h
  exact ⟨h1, cs, hr.go hb⟩

set_option maxHeartbeats 16000000 in
set_option maxRecDepth 100000 in
theorem fine_any_law (A : Option Addr) (n c : Nat) (zs : List Int) (A2 : Option Addr) (n2 c2 : Nat) (ms : List Int) (how by' : Int) (A4 : Option Addr) (n4 c4 : Nat) (raw : List ClV) (A5 : Option Addr) (n5 c5 : Nat) (ss : List Int) (w : World) (h1 : Rd w w.heap.size 1 A n (intCells zs)) (f1 : Fits zs) (hn : n ≤ 9223372036854775807)
    (h2 : Rd w w.heap.size 1 A2 n2 (intCells ms)) (f2 : Fits ms) (hn2 : n2 ≤ 9223372036854775807)
    (hb1 : -9223372036854775808 ≤ how ∧ how ≤ 9223372036854775807) (hb2 : -9223372036854775808 ≤ by' ∧ by' ≤ 9223372036854775807) (h4 : Cls w w.heap.size A4 n4 raw) (hn4 : n4 ≤ 9223372036854775807) (h5 : Rd w w.heap.size 1 A5 n5 (intCells ss)) (_f5 : Fits ss) (hn5 : n5 ≤ 9223372036854775807) :
    Calls Try.prog 3 #[.slice A n c, .slice A2 n2 c2, .int .i64 how, .int .i64 by', .slice A4 n4 c4, .slice A5 n5 c5] w (RetB (.bool true) w) := by
  have H1 := Lib.hid h1
  have H2 := Lib.hid h2
  have H4 := Lib.hid h4
  have H5 := Lib.hid h5
  have F1 := Lib.hid f1
  have F2 := Lib.hid f2
  clear h1 h2 f1 f2 h4 h5
  go_enter Try.func3, Try.ntmps3
  go_wp2_with fail
  refine (clauses_any A n c zs w H1.out F1.out hn).mono ?_
  rintro e w1 ⟨Ac, nc, cc, cs, rfl, hnc, hcc, hcl, hv, b1⟩
  have HC := Lib.hid hcl
  have HV := Lib.hid hv
  have HB := Lib.hid b1
  clear hcl hv b1
  go_wp2_with fail
  refine (spoilt_any Ac nc cc cs how by' w1 HC.out hnc HV.out hb1 hb2).mono ?_
  rintro e w2 ⟨Ax, nx, cx, xs, rfl, hx8, hx9, hxc, hxl, b2⟩
  have HX := Lib.hid hxl
  have HC := Lib.hid (HC.out.go b2)
  have HB := Lib.hid (below_go HB.out b2)
  clear hxl b2
  have HBl := Lib.hid (Blk.new w2 23 #[.slice Ac nc cc, .slice Ax nx cx, .slice A4 n4 c4])
  go_wp2_with fail
  obtain ⟨w3, hw3⟩ : ∃ w3, w3 = w2.alloc (.cells #[.slice Ac nc cc, .slice Ax nx cx, .slice A4 n4 c4] 23) := ⟨_, rfl⟩
  rw [← hw3] at HBl ⊢
  have HX3 := Lib.hid (show Below w2.heap.size w2 w3 by rw [hw3]; exact below_new _ _)
  clear hw3
  obtain ⟨gl, hgl⟩ : ∃ gl, gl = w2.heap.size := ⟨_, rfl⟩
  rw [← hgl] at HBl ⊢
  clear hgl
  have HC := Lib.hid (HC.out.go HX3.out)
  have HX := Lib.hid (HX.out.go HX3.out)
  have HB := Lib.hid (below_go HB.out HX3.out)
  have HLs := Lib.hid (show ∀ i, i < 3 → ∃ A n c, w3.cell? ⟨gl, i, none⟩ = some (.slice A n c) ∧ CAt w3 A n from fun i hi => by
    have hc := HBl.out.cell i
    match i, hi with
    | 0, _ => exact ⟨_, _, _, hc, by omega, _, HC.out⟩
    | 1, _ => exact ⟨_, _, _, hc, by omega, _, HX.out⟩
    | 2, _ => exact ⟨_, _, _, hc, hn4, _, H4.out.go HB.out⟩)
  have HGL := Lib.hid HBl.out.lt
  clear HX3 HBl HX
  go_loopw [15] (fun x wr => ∃ (i : Nat), i ≤ 3 ∧ x = .int .i64 i ∧ Hid (Below w3.heap.size w3 wr)) (fun x _ => 3 - (intOf x).toNat)
  case atStart => exact ⟨0, by omega, rfl, Lib.hid (Below.refl _ _)⟩
  case round =>
    obtain ⟨i, hi, rfl, B⟩ := hrel
    by_cases hlt : i < 3
    · have j0 : (0 : Int) ≤ (i : Int) := by omega
      have j1 : (i : Int) < 3 := by omega
      obtain ⟨Al, nl, cl, xc, hla⟩ := HLs.out i hlt
      obtain ⟨l1, L, hrl⟩ := hla.go B.out
      have x1 := (B.out.cell (p := ⟨gl, i, none⟩) HGL.out).trans xc
      have x2 : wr.drew.cell? ⟨gl, i, none⟩ = some (.slice Al nl cl) := x1
      have HR := Lib.hid hrl
      have HBr := Lib.hid (below_go HB.out B.out)
      obtain ⟨v, hv⟩ : ∃ v, validB L = v := ⟨_, rfl⟩
      have hp10 := picks_len ms
      obtain ⟨p, hp⟩ : ∃ p, p = picksL ms := ⟨_, rfl⟩
      rw [← hp] at hp10
      obtain ⟨f, hf⟩ : ∃ f, fineV L p = f := ⟨_, rfl⟩
      have K1 := Lib.hid (show ∀ W, Hid (Below wr.heap.size wr W) → Calls Try.prog 11 #[.slice Al nl cl] W (RetB (.bool v) W) from fun W h => valid_any Al nl cl L W (HR.out.go h.out) l1 v (Lib.hid hv))
      have K2 := Lib.hid (show ∀ W, Hid (Below wr.heap.size wr W) → Calls Try.prog 12 #[.slice Al nl cl] W (RetB (.bool v) W) from fun W h => rvalid_any Al nl cl L W (HR.out.go h.out) l1 v (Lib.hid hv))
      have K3 := Lib.hid (show ∀ W, Hid (Below wr.heap.size wr W) → Calls Try.prog 14 #[.slice A2 n2 c2] W (fun e w' => ∃ A c, e = .returned (.slice A p.length c) ∧ Hid (Rd w' w'.heap.size 1 A p.length (intCells p)) ∧ Below W.heap.size W w') from fun W h => (picks_any A2 n2 c2 ms W ((H2.out.go HBr.out).go h.out) F2.out hn2).mono (fun e w' hq => by
        obtain ⟨A', c', e1, h1, _, h3⟩ := hq.open_
        rw [← hp] at e1 h1
        exact ⟨A', c', e1, Lib.hid h1, h3⟩))
      have K4 := Lib.hid (show ∀ W A c, Hid (Below wr.heap.size wr W) → Hid (Rd W W.heap.size 1 A p.length (intCells p)) → Calls Try.prog 13 #[.slice Al nl cl, .slice A p.length c] W (RetB (.bool f) W) from fun W A c h hr => by rw [← hf]; exact pfine_any Al nl cl L A p.length c p W (HR.out.go h.out) l1 hr.out (by omega))
      have K5 := Lib.hid (show ∀ W A c, Hid (Below wr.heap.size wr W) → Hid (Rd W W.heap.size 1 A p.length (intCells p)) → Calls Try.prog 15 #[.slice Al nl cl, .slice A p.length c] W (RetB (.bool f) W) from fun W A c h hr => by rw [← hf]; exact rfine_any Al nl cl L A p.length c p W (HR.out.go h.out) l1 hr.out (by omega))
      obtain ⟨f2, hf2⟩ : ∃ f, fineV L ss = f := ⟨_, rfl⟩
      have K7 := Lib.hid (show n5 ≤ 20 → ∀ W, Hid (Below wr.heap.size wr W) → Calls Try.prog 13 #[.slice Al nl cl, .slice A5 n5 c5] W (RetB (.bool f2) W) from fun hn W h => by rw [← hf2]; exact pfine_any Al nl cl L A5 n5 c5 ss W (HR.out.go h.out) l1 ((H5.out.go HBr.out).go h.out) (by omega))
      have K8 := Lib.hid (show n5 ≤ 20 → ∀ W, Hid (Below wr.heap.size wr W) → Calls Try.prog 15 #[.slice Al nl cl, .slice A5 n5 c5] W (RetB (.bool f2) W) from fun hn W h => by rw [← hf2]; exact rfine_any Al nl cl L A5 n5 c5 ss W (HR.out.go h.out) l1 ((H5.out.go HBr.out).go h.out) (by omega))
      have y0 : Hid (Below wr.heap.size wr wr.drew) := Lib.hid (Below.refl _ _).drew
      clear hv hf hf2 hp hrl hla xc HBr
      go_wp2_with fail
      go_region_held3 (fun W => W.cell? ⟨gl, i, none⟩ = some (.slice Al nl cl) ∧ Hid (Below wr.heap.size wr W))
        (first | (go_split_ands; exact ⟨cell_go bn (by assumption), far_go bn (by assumption)⟩) | exact ⟨x2, y0⟩ | (go_split_ands; refine ⟨?_, ?_⟩ <;> assumption) | go_keep)
        (first
          | (go_at_call 11; go_split_ands; (with_reducible refine (K1.out _ (by assumption)).mono ?_); rintro e wn ⟨rfl, bn⟩; (first | (have hr1 := Lib.hid (hr1.out.go bn)) | skip); (first | (have hr2 := Lib.hid (hr2.out.go bn)) | skip))
          | (go_at_call 12; go_split_ands; (with_reducible refine (K2.out _ (by assumption)).mono ?_); rintro e wn ⟨rfl, bn⟩; (first | (have hr1 := Lib.hid (hr1.out.go bn)) | skip); (first | (have hr2 := Lib.hid (hr2.out.go bn)) | skip))
          | (go_at_call 14; go_split_ands; (with_reducible refine (K3.out _ (by assumption)).mono ?_); first | (have _ := hr1; rintro e wn ⟨Ap2, cp2, rfl, hr2, bn⟩; have hr1 := Lib.hid (hr1.out.go bn)) | (rintro e wn ⟨Ap1, cp1, rfl, hr1, bn⟩))
          | (go_at_call 13; go_split_ands; (with_reducible refine (K4.out _ _ _ (by assumption) (by assumption)).mono ?_); rintro e wn ⟨rfl, bn⟩; (first | (have hr1 := Lib.hid (hr1.out.go bn)) | skip); (first | (have hr2 := Lib.hid (hr2.out.go bn)) | skip))
          | (go_at_call 15; go_split_ands; (with_reducible refine (K5.out _ _ _ (by assumption) (by assumption)).mono ?_); rintro e wn ⟨rfl, bn⟩; (first | (have hr1 := Lib.hid (hr1.out.go bn)) | skip); (first | (have hr2 := Lib.hid (hr2.out.go bn)) | skip)))
      go_split_ands
      have HBn : Hid (Below wr.heap.size wr wn) := by assumption
      have x3 : wn.drew.cell? ⟨gl, i, none⟩ = some (.slice Al nl cl) := (show wn.cell? ⟨gl, i, none⟩ = some (.slice Al nl cl) by assumption)
      have y3 : Hid (Below wr.heap.size wr wn.drew) := Lib.hid HBn.out.drew
      have x4 : wn.cell? ⟨gl, i, none⟩ = some (.slice Al nl cl) := x3
      by_cases h20 : n5 ≤ 20
      · have j5 : (n5 : Int) ≤ 20 := by omega
        have K7 := Lib.hid (K7.out h20)
        have K8 := Lib.hid (K8.out h20)
        clear h20 hr1 hr2 K1 K2 K3 K4 K5
        go_wp2_with fail
        go_region_held3 (fun W => W.cell? ⟨gl, i, none⟩ = some (.slice Al nl cl) ∧ Hid (Below wr.heap.size wr W))
          (first | (go_split_ands; exact ⟨cell_go bm (by assumption), far_go bm (by assumption)⟩) | exact ⟨x3, y3⟩ | (go_split_ands; refine ⟨?_, ?_⟩ <;> assumption) | go_keep)
          (first
            | (go_at_call 13; go_split_ands; (with_reducible refine (K7.out _ (by assumption)).mono ?_); rintro e wm ⟨rfl, bm⟩)
            | (go_at_call 15; go_split_ands; (with_reducible refine (K8.out _ (by assumption)).mono ?_); rintro e wm ⟨rfl, bm⟩))
        go_split_ands
        have HBm : Hid (Below wr.heap.size wr wm) := by assumption
        have HBf := Lib.hid (below_go B.out HBm.out)
        go_wp2_with fail
        go_roundw
        case rel => exact ⟨i + 1, by omega, by go_num, HBf⟩
        case measure => simp [intOf]; omega
      · have j5 : decide ((n5 : Int) ≤ 20) = false := decide_eq_false (by omega)
        clear h20
        have HBf := Lib.hid (below_go B.out HBn.out)
        clear hr1 hr2 K1 K2 K3 K4 K5 K7 K8
        go_wp2_with fail
        go_quiet (fail)
        go_wp2_with fail
        go_roundw
        case rel => exact ⟨i + 1, by omega, by go_num, Lib.hid (below_drewN HBf.out _)⟩
        case measure => simp [intOf]; omega
    · obtain rfl : i = 3 := by omega
      have HC := Lib.hid (HC.out.go B.out)
      have HB := Lib.hid (below_go HB.out B.out)
      go_wp2_with fail
      refine (valid_any Ac nc cc cs wr HC.out (by omega) true HV).mono ?_
      rintro e w12 ⟨rfl, b12⟩
      have HB := Lib.hid (below_go HB.out b12)
      clear b12
      go_wp2_with fail
      refine (lives_any w12).mono ?_
      rintro e w13 ⟨rfl, b13⟩
      go_wp2_with fail
      go_ret
      exact ⟨rfl, below_go HB.out b13⟩
end Go.Proofs.Ytflfachkoffiiaa
