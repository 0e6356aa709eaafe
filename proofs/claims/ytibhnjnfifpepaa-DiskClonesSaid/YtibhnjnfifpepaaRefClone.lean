/- The reference's Clone; same. -/
import Derived.Test.YtibhnjnfifpepaaRefLists
import Derived.Deep.RegionLaw
namespace Go.Proofs.Ytibhnjnfifpepaa
open Go.RowKit Go.Maps

def RClonePost (T : RSt) (w : World) (e : Ending) (w' : World) : Prop :=
  ∃ r gs c x, e = .returned (.pointer (some ⟨r, 0, none⟩)) ∧ RefAt w' r gs { T with cap := c, ext := x } ∧ Below w.heap.size w w' ∧ w.heap.size ≤ r ∧ w.heap.size ≤ gs
theorem secs_one (l : List Sec) : ∀ v ∈ secsCells l, v.oneCell' = true := by
  intro v hv
  simp only [secsCells, List.mem_flatMap, secCells] at hv
  obtain ⟨x, _, hv⟩ := hv
  simp only [List.mem_cons, List.not_mem_nil, or_false] at hv
  rcases hv with rfl | rfl | rfl | rfl <;> rfl

theorem rclone_fin {w w4 : World} {r gs gg cap n : Nat} {T : RSt} (hn : n = T.s.length) (hT : RefAt w r gs T) (hown : w4.ownsRow w.heap.size 52 4 (.slice (some ⟨gg, 0, none⟩) (0 + n) cap) (0 + n) ([] ++ secsCells T.s)) (hb : Below w.heap.size w w4) :
    RClonePost T w (.returned (.pointer (some ⟨w4.heap.size, 0, none⟩))) (w4.alloc (.cells #[.slice (some ⟨gg, 0, none⟩) n cap, .bool T.off, .int .i64 T.left] 55)) := by
  rcases hown.2 with ⟨h, _⟩ | ⟨g, cp, cur, e, hbg, hg, _, _, _, htk⟩
  · cases h
  injection e with e1 _ e3
  injection e1 with e1
  injection e1 with e1
  subst e1 e3
  have hlt : gg < w4.heap.size := (Array.getElem?_eq_some_iff.1 hg).1
  refine ⟨w4.heap.size, gg, cap, cur.toList.drop ((0 + n) * 4), rfl, ⟨?_, ?_, ?_, hT.t64, hT.n64, hT.n1, hT.n2, hT.l1, hT.l2⟩, hb.alloc hb.size _, hb.size, hbg⟩
  · show Blk _ w4.heap.size 55 #[.slice (some ⟨gg, 0, none⟩) T.s.length cap, .bool T.off, .int .i64 T.left]
    rw [← hn]
    exact Blk.new _ _ _
  · show (w4.alloc _).heap[gg]? = some (.cells (secsCells T.s ++ cur.toList.drop ((0 + n) * 4)).toArray 52 (0, 0))
    rw [heap_alloc_old _ _ hlt, hg]
    rw [List.nil_append] at htk
    rw [← htk, List.take_append_drop, Array.toArray_toList]
  · omega

set_option maxHeartbeats 4000000 in
set_option maxRecDepth 100000 in
theorem rclone_any (w : World) (r gs : Nat) (T : RSt) (h : RefAt w r gs T) : Calls Try.prog 27 #[.pointer (some ⟨r, 0, none⟩)] w (RClonePost T w) := by
  obtain ⟨i0, hi, hz0, hz1, hz2⟩ := info_parts info52
  have n1 := h.n1
  have n2 := h.n2
  have hT := Lib.hid h
  obtain ⟨w2, hw2⟩ : ∃ w2, w2 = (w.alloc (.cells #[] 52)).drew := ⟨_, rfl⟩
  have hb2 : Below w.heap.size w w2 := by rw [hw2]; exact (below_new w _).drew
  have h2 := h.go hb2
  have hown : w2.ownsRow w.heap.size 52 4 (.slice (some ⟨w.heap.size, 0, none⟩) 0 0) 0 [] := by
    rw [hw2]
    exact World.ownsRow_lit (base := w.heap.size) (e := 52) (size := 4) w #[] 0 (Nat.le_refl _) (by decide) rfl
  have hsz2 : w2.heap.size = w.heap.size + 1 := by rw [hw2]; show (w.alloc _).heap.size = _; simp
  have hnews : ∀ j u, (secsCells T.s)[j]? = some u → w2.cell? ((⟨gs, 0, none⟩ : Addr).add j) = some u := fun j u hu => by
    have hj := (List.getElem?_eq_some_iff.1 hu).1
    rw [show (⟨gs, 0, none⟩ : Addr).add j = ⟨gs, 0 + j, none⟩ from by unfold Addr.add; split <;> simp_all, Nat.zero_add, h2.rows.cell, List.getElem?_toArray, List.getElem?_append_left hj]
    exact hu
  have hrl := secsCells_length T.s
  have ho := secs_one T.s
  obtain ⟨c0, c1, c2⟩ := h.heads
  have h3 : RefAt (w.alloc (.cells #[] 52)) r gs T := h.go (below_new w _)
  obtain ⟨e0, e1, e2⟩ := h3.heads
  have hlt := h.lt
  obtain ⟨n, hn⟩ : ∃ n, n = T.s.length := ⟨_, rfl⟩
  rw [← hn] at n1 n2 hrl c0 e0
  have HN := Lib.hid hn
  have HO := Lib.hid ho
  have HW := Lib.hid hnews
  have HRL := Lib.hid hrl
  have HOWN := Lib.hid hown
  have H2 := Lib.hid h2
  have HB2 := Lib.hid hb2
  have HLT := Lib.hid hlt
  have K3 : 0 + n ≤ maxLen := by unfold maxLen; omega
  have K4 : (0 + n) * 40 ≤ 140737488355328 := by omega
  clear h h2 h3 hnews ho hn hrl hown hb2 hlt
  go_enter Try.func27, Try.ntmps27
  go_wp2_with fail
  go_region_law (refine step_append_lies _ (by rfl) _ _ _ (by rfl) w.heap.size 52 i0 _ 4 40 Try.underlying53 hi hz0 hz1 hz2 rfl (by omega) (.slice (some ⟨w.heap.size, 0, none⟩) 0 0) 0 [] (by rfl) (by first | exact HOWN.out | (rw [← hw2]; exact HOWN.out)) ⟨gs, 0, none⟩ n T.cap (secsCells T.s) (by rfl) (by first | exact HRL.out | (rw [HRL.out])) (by first | exact HW.out | (rw [← hw2]; exact HW.out)) HO.out (by omega) K3 K4 (by first | omega | (rw [← hw2]; omega)) w2.heap.size (by first | rfl | (rw [← hw2])) ?_; intro gg cap w4 hown4 hgrow hor hlt4; have hgr : w2.grownBy w4 (some w.heap.size) := (by first | exact hgrow | (rw [hw2]; exact hgrow)); have h4 : RefAt w4 r gs T := H2.out.keep ((Keep.refl [w.heap.size] w2).grown hgr (by simp)) (by simp; have := HLT.out; omega) (by simp; have := HLT.out; omega); obtain ⟨g0, g1, g2⟩ := h4.heads; rw [← HN.out] at g0; have HB4 := Lib.hid (HB2.out.grown hgr (by omega) (fun g hg => by injection hg with hg; omega)); have HOWN4 := Lib.hid hown4; have HOR := Lib.hid hlt4; clear hgrow hgr hown4 h4 hor hlt4)
  all_goals go_wp2_with fail
  all_goals go_ret
  all_goals exact rclone_fin HN.out hT.out HOWN4.out HB4.out
end Go.Proofs.Ytibhnjnfifpepaa
