/- The walk of LicenceSmallest. -/
import Derived.Test.YtflfachkoffiiaaPlain
import Derived.Test.YtflfachkoffiiaaLives
import Derived.Test.YtflfachkoffiiaaSpoilt
namespace Go.Proofs.Ytflfachkoffiiaa
open Go.RowKit Go.Lib

theorem core_len (l : List ClV) (sel : List Int) : (coreV l sel).length ≤ l.length := by
  cases hv : validB l
  · rw [coreV_invalid hv]; exact Nat.zero_le _
  · by_cases h16 : (sortedTo sel l.length).length ≤ 16
    · cases hf : fineB l sel
      · exact Nat.le_trans (core_is hv h16 hf).sub.length_le (sortedTo_len _ _)
      · rw [coreV_fine (by rw [fine_sorted rfl]; exact hf)]; exact Nat.zero_le _
    · rw [coreV_long (by omega)]; exact Nat.zero_le _
theorem Rd.takeI {w : World} {B n : Nat} {A : Option Addr} {zs : List Int} (h : Rd w B 1 A n (intCells zs)) {m : Nat} (hm : m ≤ n) : Rd w B 1 A m (intCells (zs.take m)) := by
  have hl := int_len h
  refine ⟨by simp [intCells]; omega, fun h0 => ?_⟩
  obtain ⟨b, off, e, hb, hc⟩ := h.2 (by omega)
  refine ⟨b, off, e, hb, fun j u hu => hc j u ?_⟩
  rw [intCells, List.map_take, List.getElem?_take] at hu
  split at hu
  · exact hu
  · cases hu

set_option maxHeartbeats 8000000 in
set_option maxRecDepth 100000 in
theorem smallest_any (A : Option Addr) (n c : Nat) (zs : List Int) (A2 : Option Addr) (n2 c2 : Nat) (ms : List Int) (bits : Int) (w : World) (h1 : Rd w w.heap.size 1 A n (intCells zs)) (f1 : Fits zs) (hn : n ≤ 9223372036854775807)
    (h2 : Rd w w.heap.size 1 A2 n2 (intCells ms)) (f2 : Fits ms) (hn2 : n2 ≤ 9223372036854775807) (hb : -9223372036854775808 ≤ bits ∧ bits ≤ 9223372036854775807) :
    Calls Try.prog 7 #[.slice A n c, .slice A2 n2 c2, .int .i64 bits] w (RetB (.bool true) w) := by
  have H1 := Lib.hid h1
  have H2 := Lib.hid h2
  have F1 := Lib.hid f1
  have F2 := Lib.hid f2
  clear h1 h2 f1 f2
  go_enter Try.func7, Try.ntmps7
  go_wp2_with fail
  refine (clauses_any A n c zs w H1.out F1.out hn).mono ?_
  rintro e w1 ⟨Ac, nc, cc, cs, rfl, hnc, hcc, hcl, hv, b1⟩
  have HC := Lib.hid hcl
  have HV := Lib.hid hv
  have HB := Lib.hid b1
  have HL := Lib.hid hcl.len
  clear hcl hv b1
  go_wp2_with fail
  refine (picks_any A2 n2 c2 ms w1 (H2.out.go HB.out) F2.out hn2).mono ?_
  rintro e w2 hp
  obtain ⟨As, c3, rfl, hr, hc3, b2⟩ := hp.open_
  have hs10 := picks_len ms
  obtain ⟨s, hs⟩ : ∃ s, s = picksL ms := ⟨_, rfl⟩
  rw [← hs] at hr hc3 hs10 ⊢
  obtain ⟨ns, hns⟩ : ∃ ns, ns = s.length := ⟨_, rfl⟩
  rw [← hns] at hr hc3 hs10 ⊢
  have HNS := Lib.hid hns
  have HS := Lib.hid hr
  have HC2 := Lib.hid (HC.out.go b2)
  have HB2 := Lib.hid (below_go HB.out b2)
  clear hp hr b2 hs hns HC HB
  go_wp2_with fail
  refine (core_any Ac nc cc cs As ns c3 s w2 HC2.out (by omega) HS.out (by omega) _ (Lib.hid rfl)).mono ?_
  rintro e w3 ⟨A3, c4, rfl, hr, hc4, b3⟩
  have hk8 := core_len cs s
  rw [HL.out] at hk8
  obtain ⟨core, hcore⟩ : ∃ core, core = coreV cs s := ⟨_, rfl⟩
  rw [← hcore] at hr hc4 hk8 ⊢
  obtain ⟨nk, hnk⟩ : ∃ nk, nk = core.length := ⟨_, rfl⟩
  rw [← hnk] at hr hc4 hk8 ⊢
  have HNK := Lib.hid hnk
  have HK := Lib.hid hcore
  have HR := Lib.hid hr
  have HC3 := Lib.hid (HC2.out.go b3)
  have HS3 := Lib.hid (HS.out.go b3)
  have HB3 := Lib.hid (below_go HB2.out b3)
  clear hr b3 hcore hnk HC2 HS HB2
  have H16 := Lib.hid (show (sortedTo s cs.length).length ≤ 16 by have := sortedTo_len s cs.length; have := HL.out; omega)
  go_wp2_with fail
  refine (pfine_any Ac nc cc cs As ns c3 s w3 HC3.out (by omega) HS3.out (by omega)).mono ?_
  rw [fineV, HV.out, Bool.true_and]
  rintro e w4 ⟨rfl, b4⟩
  have HR4 := Lib.hid (HR.out.go b4)
  have HC4 := Lib.hid (HC3.out.go b4)
  have HS4 := Lib.hid (HS3.out.go b4)
  have HB4 := Lib.hid (below_go HB3.out b4)
  clear b4 HR HC3 HS3 HB3
  cases hf : fineB cs s
  · have HI := Lib.hid (core_is HV.out H16.out hf)
    rw [← HK.out] at HI
    have h0 : 0 < nk := by rw [HNK.out]; exact HI.out.ne
    obtain ⟨m, rfl⟩ : ∃ m, nk = m + 1 := ⟨nk - 1, by omega⟩
    clear hf
    have e0 : (((m + 1 : Nat) : Int) == 0) = false := beq_eq_false_iff_ne.2 (by omega)
    have e1 : ((m : Int) + 1 == 0) = false := beq_eq_false_iff_ne.2 (by omega)
    go_wp2_with fail
    refine (check_any Ac nc cc cs As ns c3 s A3 (m + 1) c4 core w4 HC4.out (by omega) HS4.out (by omega) HR4.out (by omega) hc4 0 (Lib.hid (HI.out.check HV.out))).mono ?_
    rintro e w5 ⟨rfl, b5⟩
    have HR5 := Lib.hid (HR4.out.go b5)
    have HC5 := Lib.hid (HC4.out.go b5)
    have HS5 := Lib.hid (HS4.out.go b5)
    have HB5 := Lib.hid (below_go HB4.out b5)
    clear b5 HR4 HC4 HS4 HB4
    have HT := Lib.hid (HR5.out.takeI (Nat.le_succ m))
    have HFT := Lib.hid (show fineB cs (core.take m) = true from HI.out.shorter ((List.take_sublist _ _).trans HI.out.sub) (by rw [List.length_take]; have := HNK.out; omega))
    go_wp2_with fail
    refine (pfine_any Ac nc cc cs A3 m _ (core.take m) w5 HC5.out (by omega) HT.out (by omega)).mono ?_
    rw [fineV, HV.out, Bool.true_and, HFT.out]
    rintro e w6 ⟨rfl, b6⟩
    have HC6 := Lib.hid (HC5.out.go b6)
    have HS6 := Lib.hid (HS5.out.go b6)
    have HB6 := Lib.hid (below_go HB5.out b6)
    clear b6 HR5 HC5 HS5 HB5 HT HFT
    obtain ⟨r, hr, hr9⟩ := around_nat bits (m := 1024) (by decide)
    have HRB := Lib.hid hr
    clear hr
    go_wp2_with fail
    go_loopw [10, 11] (fun v x wr => ∃ (i : Nat) (Ao : Option Addr) (co no : Nat) (fs : List Int), i ≤ ns ∧ x = .int .i64 i ∧ v = .slice Ao no co ∧ no ≤ m ∧ Hid (fs.length = no) ∧ Hid (IAt wr w6.heap.size v (intCells fs)) ∧ Hid (∀ y ∈ fs, y ∈ s) ∧ Hid (Below w6.heap.size w6 wr)) (fun _ x _ => ns - (intOf x).toNat)
    case atStart => exact ⟨0, none, 0, 0, [], by omega, rfl, rfl, Nat.zero_le _, Lib.hid rfl, Lib.hid (IAt.nil _ _), Lib.hid (fun y hy => by cases hy), Lib.hid (Below.refl _ _)⟩
    case round =>
      obtain ⟨i, Ao, co, no, fs, hi, rfl, rfl, hno, FL, Q, M, B⟩ := hrel
      have HBr := Lib.hid (below_go HB6.out B.out)
      by_cases hlt : i < ns ∧ no < m
      · obtain ⟨hl1, hl2⟩ := hlt
        have j0 : (0 : Int) ≤ (i : Int) := by omega
        have j1 : (i : Int) < (ns : Int) := by omega
        have j2 : (no : Int) < (m : Int) := by omega
        have hls : i < s.length := by have := HNS.out; omega
        obtain ⟨b9, o9, rfl, hbb, x1⟩ := (HS6.out.go B.out).int hl1
        obtain ⟨z, hz⟩ : ∃ z, z = s.getD i 0 := ⟨_, rfl⟩
        rw [← hz] at x1
        have HZ := Lib.hid (show z ∈ s by rw [hz, List.getD_eq_getElem?_getD, List.getElem?_eq_getElem hls]; exact List.getElem_mem hls)
        clear hz
        have hbit := bit_int r i
        cases hq : decide (r / 2 ^ i % 2 = 1)
        · rw [hq] at hbit
          clear hq
          go_wp2_with fail
          refine (around_any bits 1024 wr hb.1 hb.2 (by omega) (by omega) r HRB).mono ?_
          rintro e w7 ⟨rfl, rfl⟩
          go_wp2_with fail
          go_roundw
          case rel => exact ⟨i + 1, Ao, co, no, fs, by omega, by go_num, rfl, hno, FL, Q, M, B⟩
          case measure => simp [intOf]; omega
        · rw [hq] at hbit
          clear hq
          go_wp2_with fail
          refine (around_any bits 1024 wr hb.1 hb.2 (by omega) (by omega) r HRB).mono ?_
          rintro e w7 ⟨rfl, rfl⟩
          go_wp2_with (at_builtin; refine wpList_append_i _ rfl _ _ rfl rfl w6.heap.size _ _ rfl (Q.out.alloc _) (Nat.le_trans B.out.size (by simp)) _ 1 _ rfl (src_oneI _ z _) (by rw [intCells, List.length_map, FL.out]; omega) ?_)
          intro v3 w3 hq3 hgr hloc
          have HB3 := Lib.hid ((B.out.alloc B.out.size _).grown hgr (Nat.le_trans B.out.size (by simp)) (fun g hg => (Q.out.lt hg).1))
          rw [← intCells_snoc] at hq3
          obtain ⟨A3, k3, rfl, _, _⟩ := hq3.rd
          rw [show (intCells (fs ++ [z])).length = no + 1 by rw [intCells, List.length_map, List.length_append, FL.out]; rfl] at *
          have FL3 := Lib.hid (show (fs ++ [z]).length = no + 1 by rw [List.length_append, FL.out]; rfl)
          have M3 := Lib.hid (show ∀ y ∈ fs ++ [z], y ∈ s from fun y hy => by
            rcases List.mem_append.1 hy with hy | hy
            · exact M.out y hy
            · rw [List.mem_singleton.1 hy]; exact HZ.out)
          have HQ3 := Lib.hid hq3
          clear hgr hloc hq3
          go_wp2_with fail
          go_roundw
          case rel => exact ⟨i + 1, A3, k3, no + 1, fs ++ [z], by omega, by go_num, rfl, by omega, FL3, HQ3, M3, HB3⟩
          case measure => simp [intOf]; omega
      · have HFF := Lib.hid (show fineB cs fs = true from HI.out.fewer M.out (by have := FL.out; have := HNK.out; omega))
        have HRd := Lib.hid (show Rd wr wr.heap.size 1 Ao no (intCells fs) by
          obtain ⟨A', c', e, _, hr⟩ := Q.out.rd
          rw [show (intCells fs).length = no by rw [intCells, List.length_map, FL.out]] at e hr
          injection e with e
          rw [e]; exact hr)
        by_cases hl1 : i < ns
        · have j1 : (i : Int) < (ns : Int) := by omega
          have j2 : ¬ (no : Int) < (m : Int) := by omega
          clear hlt
          go_wp2_with fail
          refine (pfine_any Ac nc cc cs Ao no co fs wr (HC6.out.go B.out) (by omega) HRd.out (by omega)).mono ?_
          rw [fineV, HV.out, Bool.true_and, HFF.out]
          rintro e w8 ⟨rfl, b8⟩
          go_wp2_with fail
          refine (lives_any w8).mono ?_
          rintro e w9 ⟨rfl, b9⟩
          go_wp2_with fail
          go_ret
          exact ⟨rfl, below_go (below_go HBr.out b8) b9⟩
        · have j1 : ¬ (i : Int) < (ns : Int) := by omega
          clear hlt
          go_wp2_with fail
          refine (pfine_any Ac nc cc cs Ao no co fs wr (HC6.out.go B.out) (by omega) HRd.out (by omega)).mono ?_
          rw [fineV, HV.out, Bool.true_and, HFF.out]
          rintro e w8 ⟨rfl, b8⟩
          go_wp2_with fail
          refine (lives_any w8).mono ?_
          rintro e w9 ⟨rfl, b9⟩
          go_wp2_with fail
          go_ret
          exact ⟨rfl, below_go (below_go HBr.out b8) b9⟩
  · have hk0 : nk = 0 := by rw [HNK.out, HK.out, coreV_fine (by rw [fine_sorted rfl]; exact hf)]; rfl
    subst hk0
    clear hf
    go_wp2_with fail
    refine (lives_any w4).mono ?_
    rintro e w5 ⟨rfl, b5⟩
    go_wp2_with fail
    go_ret
    exact ⟨rfl, below_go HB4.out b5⟩
end Go.Proofs.Ytflfachkoffiiaa
