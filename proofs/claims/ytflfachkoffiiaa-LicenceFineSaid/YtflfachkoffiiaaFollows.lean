/- The reference's Follows. -/
import Derived.Test.YtflfachkoffiiaaQueue
namespace Go.Proofs.Ytflfachkoffiiaa
open Go.RowKit

theorem musts_step {l : List ClV} {sel : List Int} {k : Nat} (h : k < sel.length) : mustsB l (sel.take (k + 1)) = mustsB l (sel.take k) ++ mustOf l sel[k] := by
  unfold mustsB
  rw [List.take_succ_eq_append_getElem h, List.flatMap_append]; simp
theorem mustOf_out {l : List ClV} {i : Int} (h : ¬ (0 ≤ i ∧ i < l.length)) : mustOf l i = [] := by
  unfold mustOf
  cases hc : clOf l i with
  | none => rfl
  | some c => exact absurd (clOf_in hc) h
theorem mustOf_in {l : List ClV} {i : Nat} {c : ClV} (h : l[i]? = some c) : mustOf l i = c.must := by
  unfold mustOf clOf
  rw [if_pos (by omega), Int.toNat_natCast, h]
/-- clauses within the limits -/
def Small (l : List ClV) : Prop := l.length ≤ 32 ∧ ∀ c ∈ l, c.must.length ≤ 8 ∧ c.nots.length ≤ 8
theorem small_of_valid {l : List ClV} (h : validB l = true) : Small l := by
  unfold validB at h
  rw [Bool.and_eq_true, decide_eq_true_iff, Bool.not_eq_true', List.any_eq_false] at h
  refine ⟨h.1, fun c hc => ?_⟩
  have := h.2 c hc
  unfold badC at this
  simp only [Bool.or_eq_true, decide_eq_true_iff, not_or] at this
  omega
theorem QAt.alloc {w : World} {base : Nat} {v : Value} {xs : List Value} (h : QAt w base v xs) (o : Obj) : QAt (w.alloc o) base v xs := h.kept (World.grownBy_alloc w o none) (by cases v.ownBlock <;> simp)
theorem musts_each {l : List ClV} {P : Bs → Prop} (h : ∀ c ∈ l, ∀ m ∈ c.must, P m) {sel : List Int} : ∀ m ∈ mustsB l sel, P m := by
  intro m hm
  obtain ⟨i, _, hm⟩ := List.mem_flatMap.1 hm
  unfold mustOf at hm
  cases hc : clOf l i with
  | none => rw [hc] at hm; cases hm
  | some c =>
    rw [hc] at hm
    unfold clOf at hc
    split at hc
    · exact h c (List.mem_of_getElem? hc) m hm
    · cases hc
theorem addB_fact {out : List Bs} {m : Bs} (h : cutB m = none) : addB out m = if out.contains m then out else out ++ [m] := by unfold addB; rw [h]
theorem addB_rule {out : List Bs} {m a b : Bs} (h : cutB m = some (a, b)) : addB out m = if out.contains a && !out.contains b then out ++ [b] else out := by unfold addB; rw [h]
theorem cutB_none {s : Bs} (h : gtI s < 0) : cutB s = none := by unfold cutB; rw [if_pos h]
/-- strings of the call's own that come back -/
def QPost (ss : List Bs) (w : World) : Ending → World → Prop := fun e w' => ∃ v, e = .returned v ∧ QAt w' w.heap.size v (strCells ss) ∧ Below w.heap.size w w'

set_option maxHeartbeats 8000000 in
set_option maxRecDepth 100000 in
theorem follows_any (A1 : Option Addr) (n1 c1 : Nat) (l : List ClV) (A : Option Addr) (n c : Nat) (sel : List Int) (w : World) (h1 : Cls w w.heap.size A1 n1 l) (h2 : Rd w w.heap.size 1 A n (intCells sel)) (hs : Small l) (hn : n ≤ 1000) :
    Calls Try.prog 38 #[.slice A1 n1 c1, .slice A n c] w (QPost (followsB (mustsB l sel)) w) := by
  have HL := Lib.hid h1.len
  have HS := Lib.hid (int_len h2)
  have H1 := Lib.hid h1
  have H2 := Lib.hid h2
  have HM : ∀ s : List Int, (mustsB l s).length ≤ 8 * s.length := musts_len (fun c hc => (hs.2 c hc).1)
  have h32 : n1 ≤ 32 := by have := hs.1; have := h1.len; omega
  have HM := Lib.hid HM
  clear h1 h2 hs
  go_enter Try.func38, Try.ntmps38
  go_wp2_with fail
  go_loopw [5, 6] (fun v x wr => ∃ k : Nat, k ≤ n ∧ x = .int .i64 k ∧ Hid (QAt wr w.heap.size v (strCells (mustsB l (sel.take k)))) ∧ Hid (Below w.heap.size w wr)) (fun _ x _ => n - (intOf x).toNat)
  case atStart => exact ⟨0, by omega, rfl, Lib.hid (QAt.nil _ _), Lib.hid (Below.refl _ _)⟩
  case round =>
    obtain ⟨k, hk, rfl, Q, B⟩ := hrel
    by_cases hlt : k < n
    · obtain ⟨b2, o2, rfl, _, x1⟩ := (H2.out.below B.out).int hlt
      have hkl : k < sel.length := by have := HS.out; omega
      have j1 : (k : Int) < (n : Int) := by omega
      have j0 : (0 : Int) ≤ (k : Int) := by omega
      have HT := Lib.hid (musts_step (l := l) hkl)
      have hz : sel.getD k 0 = sel[k] := by rw [List.getD_eq_getElem?_getD, List.getElem?_eq_getElem hkl]; rfl
      rw [hz] at x1
      have HM1 := Lib.hid (HM.out (sel.take k))
      obtain ⟨z, hzz⟩ : ∃ z, z = sel[k] := ⟨_, rfl⟩
      rw [← hzz] at x1 HT
      clear hz hzz
      by_cases hz0 : 0 ≤ z
      · by_cases hz1 : z < n1
        · obtain ⟨i, rfl⟩ : ∃ i : Nat, z = i := ⟨z.toNat, by omega⟩
          have hi : i < n1 := by omega
          obtain ⟨b1, o1, x, rfl, _, hx, hxa, y0, y1, y2⟩ := (H1.out.keep (w' := wr) (fun p hp => B.out.cell hp)).at_ hi
          have HT2 := Lib.hid (HT.out.trans (by rw [mustOf_in hx]))
          have hsrc := src_rd (c := x.c1) hxa.r1
          have hl1 := HM.out [(i : Int)]
          have hl2 := hxa.l1
          rw [mustsB, List.flatMap_cons, List.flatMap_nil, List.append_nil, mustOf_in hx] at hl1
          obtain ⟨nm, Am, nq, cq, must, Bm, nr, cr, nots⟩ := x
          dsimp only at *
          have hlen : (strCells (mustsB l (sel.take k))).length + nq ≤ 1000000 := by
            have := HM1.out
            rw [List.length_take] at this
            rw [strCells, List.length_map]
            simp at hl1
            omega
          clear hxa hl1 hl2 y0 y2 hx
          go_wp2_with (at_builtin; refine wpList_append_q _ rfl _ _ rfl rfl w.heap.size _ _ rfl Q.out B.out.size _ nq _ rfl hsrc hlen ?_)
          intro v' w' hq hgr hloc
          have HQ := Lib.hid hq
          have HB := Lib.hid (B.out.grown hgr B.out.size (fun g hg => (Q.out.lt hg).1))
          clear hq hgr hloc
          go_wp2_with fail
          go_roundw
          case rel => exact ⟨k + 1, by omega, by go_num, Lib.hid (by rw [HT2.out, strCells, List.map_append]; exact HQ.out), HB⟩
          case measure => simp [intOf]; omega
        · have HT2 := Lib.hid (HT.out.trans (by rw [mustOf_out (by rw [HL.out]; omega), List.append_nil]))
          go_wp2_with fail
          go_roundw
          case rel => exact ⟨k + 1, by omega, by go_num, Lib.hid (by rw [HT2.out]; exact Q.out), B⟩
          case measure => simp [intOf]; omega
      · have HT2 := Lib.hid (HT.out.trans (by rw [mustOf_out (by omega), List.append_nil]))
        go_wp2_with fail
        go_roundw
        case rel => exact ⟨k + 1, by omega, by go_num, Lib.hid (by rw [HT2.out]; exact Q.out), B⟩
        case measure => simp [intOf]; omega
    · obtain rfl : k = n := by omega
      have Q2 := Lib.hid (show QAt wr w.heap.size u5 (strCells (mustsB l sel)) by have := Q.out; rwa [List.take_of_length_le (by have := HS.out; omega)] at this)
      obtain ⟨ms, hms⟩ : ∃ ms, ms = mustsB l sel := ⟨_, rfl⟩
      have hml := HM.out sel
      rw [HS.out, ← hms] at hml
      rw [← hms] at Q2 ⊢
      obtain ⟨nm, hnm⟩ : ∃ nm, nm = ms.length := ⟨_, rfl⟩
      rw [← hnm] at hml
      obtain ⟨Am, cm, rfl, hcm, hrm⟩ := Q2.out.rd
      rw [show (strCells ms).length = nm by rw [hnm, strCells, List.length_map]] at hcm hrm ⊢
      have HN := Lib.hid hnm.symm
      have HMS := Lib.hid hms
      have HF := Lib.hid (show ∀ m ∈ ms, m.length ≤ 9223372036854775807 by rw [hms]; exact musts_each (fun c hc => (H1.out.all c hc).f1))
      clear hnm hms Q
      have HR := Lib.hid hrm
      have HB := Lib.hid B.out
      have hnm9 : nm ≤ 8000 := by omega
      clear hml hrm HM
      obtain ⟨wm, rfl⟩ : ∃ wm, wm = wr := ⟨_, rfl⟩
      go_wp2_with fail
      go_loopw [7, 8] (fun v x wq => ∃ r : Nat, r ≤ nm + 1 ∧ x = .int .i64 r ∧ Hid (QAt wq wm.heap.size v (strCells (roundsB ms r))) ∧ Hid (Below wm.heap.size wm wq)) (fun _ x _ => nm + 1 - (intOf x).toNat)
      case atStart => exact ⟨0, by omega, rfl, Lib.hid (QAt.nil _ _), Lib.hid (Below.refl _ _)⟩
      case round =>
        obtain ⟨r, hr, rfl, Q, B1⟩ := hrel
        by_cases hrl : r ≤ nm
        · have i1 : (r : Int) ≤ (nm : Int) := by omega
          have Q0 := Lib.hid (show QAt wr wm.heap.size u7 (strCells (midB ms r 0)) from Q.out)
          have HBr := Lib.hid B1.out
          clear Q
          go_wp2_with fail
          go_loopw [7, 9] (fun v x wq => ∃ i : Nat, i ≤ nm ∧ x = .int .i64 i ∧ Hid (QAt wq wm.heap.size v (strCells (midB ms r i))) ∧ Hid (Below wm.heap.size wm wq)) (fun _ x _ => nm - (intOf x).toNat)
          case atStart => exact ⟨0, by omega, rfl, Q0, HBr⟩
          case round =>
            obtain ⟨i, hi, rfl, Q, B2⟩ := hrel
            by_cases hil : i < nm
            · obtain ⟨b2, o2, rfl, _, y1⟩ := (HR.out.below B2.out).str HN.out hil
              have hkl : i < ms.length := by have := HN.out; omega
              have j1 : (i : Int) < (nm : Int) := by omega
              have j0 : (0 : Int) ≤ (i : Int) := by omega
              have HST := Lib.hid (mid_step r hkl)
              have HML := Lib.hid (mid_len ms r i)
              obtain ⟨sp, hsp⟩ : ∃ sp : ByteArray, sp = ⟨ms[i].toArray⟩ := ⟨_, rfl⟩
              have hspl : sp.data.toList = ms[i] := by rw [hsp]
              have zs : sp.size ≤ 9223372036854775807 := by rw [← list_size, hspl]; exact HF.out _ (List.getElem_mem hkl)
              rw [← hsp] at y1
              rw [← hspl] at HST
              clear hsp hspl
              obtain ⟨out, ho⟩ : ∃ out, out = midB ms r i := ⟨_, rfl⟩
              rw [← ho] at HST HML Q
              clear ho
              obtain ⟨Ao, co, rfl, hco, hro⟩ := Q.out.rd
              obtain ⟨no, hno⟩ : ∃ no, no = out.length := ⟨_, rfl⟩
              rw [show (strCells out).length = no by rw [hno, strCells, List.length_map]] at hco hro Q ⊢
              have hno9 : no ≤ 8000 := by have := HML.out; have := HN.out; omega
              have HO := Lib.hid hno.symm
              have HRO := Lib.hid hro
              have hol : (strCells out).length + 1 ≤ 1000000 := by rw [strCells, List.length_map]; omega
              clear hno hro
              by_cases hg : gtI sp.data.toList < 0
              · have HV := Lib.hid (cutV_none hg)
                have HAD := Lib.hid (HST.out.trans (addB_fact (cutB_none hg)))
                clear hg
                obtain ⟨p, hp⟩ : ∃ p, out.contains sp.data.toList = p := ⟨_, rfl⟩
                have HP := Lib.hid hp
                rw [hp] at HAD
                clear hp
                go_wp2_with fail
                refine (split_any sp wr zs).mono ?_
                rintro e w1 ⟨rfl, b1⟩
                rw [HV.out]
                have HB2 := Lib.hid (below_go B2.out b1)
                have HRO1 := Lib.hid (HRO.out.go b1)
                have Q1 := Lib.hid (Q.out.below b1 (Nat.le_refl _))
                clear b1
                go_wp2_with fail
                refine (has_any Ao no co out sp w1 HRO1.out HO.out (by omega) p HP).mono ?_
                rintro e w2 ⟨rfl, rfl⟩
                cases p
                · go_wp2_with (at_builtin; refine wpList_append_q _ rfl _ _ rfl rfl wm.heap.size _ _ rfl (Q1.out.alloc _) ?h1 _ 1 _ rfl (src_one _ sp.data.toList _) hol ?_)
                  case h1 => exact Nat.le_trans HB2.out.size (by simp)
                  intro v' w3 hq hgr hloc
                  have HQ := Lib.hid (show QAt w3 wm.heap.size v' (strCells (out ++ [sp.data.toList])) by rw [strCells_snoc]; exact hq)
                  have HB3 := Lib.hid ((HB2.out.alloc HB2.out.size _).grown hgr (Nat.le_trans HB2.out.size (by simp)) (fun g hg => (Q1.out.lt hg).1))
                  clear hq hgr hloc
                  go_wp2_with fail
                  go_roundw
                  case rel => exact ⟨i + 1, by omega, by go_num, Lib.hid (by rw [HAD.out]; exact HQ.out), HB3⟩
                  case measure => simp [intOf]; omega
                · go_wp2_with fail
                  go_roundw
                  case rel => exact ⟨i + 1, by omega, by go_num, Lib.hid (by rw [HAD.out]; exact Q1.out), HB2⟩
                  case measure => simp [intOf]; omega
              · obtain ⟨g, hgi⟩ : ∃ k : Nat, gtI sp.data.toList = k := ⟨(gtI sp.data.toList).toNat, by omega⟩
                have HV := Lib.hid (cutV_some hgi)
                obtain ⟨a, ha⟩ : ∃ a, a = sp.extract 0 g := ⟨_, rfl⟩
                obtain ⟨q, hq⟩ : ∃ q, q = sp.extract (g + 1) sp.size := ⟨_, rfl⟩
                rw [← ha, ← hq] at HV
                have hcut : cutB sp.data.toList = some (a.data.toList, q.data.toList) := by
                  rw [cutB, if_neg (by omega), hgi, Int.toNat_natCast, ha, hq, extract_list, extract_list, List.drop_zero, Nat.sub_zero]
                  congr 2
                  rw [List.take_of_length_le]
                  rw [List.length_drop, list_size]; omega
                have HAD := Lib.hid (HST.out.trans (addB_rule hcut))
                obtain ⟨pa, hpa⟩ : ∃ p, out.contains a.data.toList = p := ⟨_, rfl⟩
                obtain ⟨pq, hpq⟩ : ∃ p, out.contains q.data.toList = p := ⟨_, rfl⟩
                have HPA := Lib.hid hpa
                have HPQ := Lib.hid hpq
                rw [hpa, hpq] at HAD
                clear hpa hpq hcut ha hq hg hgi
                go_wp2_with fail
                refine (split_any sp wr zs).mono ?_
                rintro e w1 ⟨rfl, b1⟩
                rw [HV.out]
                have HB2 := Lib.hid (below_go B2.out b1)
                have HRO1 := Lib.hid (HRO.out.go b1)
                have Q1 := Lib.hid (Q.out.below b1 (Nat.le_refl _))
                clear b1
                go_wp2_with fail
                refine (has_any Ao no co out a w1 HRO1.out HO.out (by omega) pa HPA).mono ?_
                rintro e w2 ⟨rfl, rfl⟩
                cases pa
                · go_wp2_with fail
                  go_roundw
                  case rel => exact ⟨i + 1, by omega, by go_num, Lib.hid (by rw [HAD.out]; exact Q1.out), HB2⟩
                  case measure => simp [intOf]; omega
                · go_wp2_with fail
                  refine (has_any Ao no co out q w1 HRO1.out HO.out (by omega) pq HPQ).mono ?_
                  rintro e w2 ⟨rfl, rfl⟩
                  cases pq
                  · go_wp2_with (at_builtin; refine wpList_append_q _ rfl _ _ rfl rfl wm.heap.size _ _ rfl (Q1.out.alloc _) ?h1 _ 1 _ rfl (src_one _ q.data.toList _) hol ?_)
                    case h1 => exact Nat.le_trans HB2.out.size (by simp)
                    intro v' w3 hq hgr hloc
                    have HQ := Lib.hid (show QAt w3 wm.heap.size v' (strCells (out ++ [q.data.toList])) by rw [strCells_snoc]; exact hq)
                    have HB3 := Lib.hid ((HB2.out.alloc HB2.out.size _).grown hgr (Nat.le_trans HB2.out.size (by simp)) (fun g hg => (Q1.out.lt hg).1))
                    clear hq hgr hloc
                    go_wp2_with fail
                    go_roundw
                    case rel => exact ⟨i + 1, by omega, by go_num, Lib.hid (by rw [HAD.out]; exact HQ.out), HB3⟩
                    case measure => simp [intOf]; omega
                  · go_wp2_with fail
                    go_roundw
                    case rel => exact ⟨i + 1, by omega, by go_num, Lib.hid (by rw [HAD.out]; exact Q1.out), HB2⟩
                    case measure => simp [intOf]; omega
            · obtain rfl : i = nm := by omega
              have Q2 := Lib.hid (show QAt wr wm.heap.size u7 (strCells (roundsB ms (r + 1))) by have := Q.out; rwa [mid_all r (by rw [HN.out]; omega)] at this)
              clear Q Q0
              go_wp2_with fail
              go_roundw
              case rel => exact ⟨r + 1, by omega, by go_num, Q2, B2⟩
              case measure => simp [intOf]; omega
        · obtain rfl : r = nm + 1 := by omega
          have Q2 := Lib.hid (show QAt wr w.heap.size u7 (strCells (followsB ms)) by have := Q.out.base_le HB.out.size; rwa [followsB, HN.out])
          have HB3 := Lib.hid (below_go HB.out B1.out)
          clear Q
          go_wp2_with fail
          go_ret
          refine ⟨_, rfl, ?_, HB3.out⟩
          rw [← HMS.out]
          exact Q2.out
end Go.Proofs.Ytflfachkoffiiaa
