/- Clone. -/
import Derived.Test.YtibhnjnfifpepaaMount
import Derived.Deep.RegionHeld3
namespace Go.Proofs.Ytibhnjnfifpepaa
open Go.RowKit Go.Maps Go.Sort Go.Shelf

theorem rows_one (bl : List Bs) : ∀ v ∈ rowsOf bl, v.oneCell' = true := by
  intro v hv
  simp only [rowsOf, List.mem_flatMap, cellsOfB, List.mem_map] at hv
  obtain ⟨b, _, x, _, rfl⟩ := hv
  rfl
def SlPost (bl : List Bs) (w : World) (e : Ending) (w' : World) : Prop :=
  ∃ g2 cap2 ext2, e = .returned (.slice (some ⟨g2, 0, none⟩) bl.length cap2) ∧ w'.heap[g2]? = some (.cells (rowsOf bl ++ ext2).toArray 70 (0, 0)) ∧ w.heap.size ≤ g2 ∧ Below w.heap.size w w'
set_option maxHeartbeats 4000000 in
set_option maxRecDepth 100000 in
theorem cloneSl_any (w : World) (g gb gp gw K : Nat) (S : St) (h : DiskAt w g gb gp gw K S) : Calls Try.prog 45 #[.slice (some ⟨gb, 0, none⟩) S.bl.length S.cap] w (SlPost S.bl w) := by
  obtain ⟨i0, hi, hz0, hz1, hz2⟩ := info_parts info70b
  have n1 := h.n1
  have n2 := h.n2
  have hrl := rows_length S.bl h.b64
  have h1 := h.below (below_new w (.cells #[] 70))
  have hnews : ∀ j u, (rowsOf S.bl)[j]? = some u → (w.alloc (.cells #[] 70)).cell? ((⟨gb, 0, none⟩ : Addr).add j) = some u := fun j u hu => by
    have hj := (List.getElem?_eq_some_iff.1 hu).1
    rw [show (⟨gb, 0, none⟩ : Addr).add j = ⟨gb, 0 + j, none⟩ from by unfold Addr.add; split <;> simp_all, Nat.zero_add, cell_of_row _ gb j _ 70 (0, 0) h1.rows, List.getElem?_toArray, List.getElem?_append_left hj]
    exact hu
  have hown : (w.alloc (.cells #[] 70)).ownsRow w.heap.size 70 64 (.slice (some ⟨w.heap.size, 0, none⟩) 0 0) 0 [] := World.ownsRow_lit (base := w.heap.size) (e := 70) (size := 64) w #[] 0 (Nat.le_refl _) (by decide) rfl
  have ho := rows_one S.bl
  obtain ⟨n, hn⟩ : ∃ n, n = S.bl.length := ⟨_, rfl⟩
  rw [← hn] at n1 n2 hrl
  have K3 : 0 + n ≤ maxLen := by unfold maxLen; omega
  have K4 : (0 + n) * 64 ≤ 140737488355328 := by omega
  have HN := Lib.hid hn
  have HO := Lib.hid ho
  have HW := Lib.hid hnews
  have HRL := Lib.hid hrl
  rw [← hn]
  clear h h1 hnews ho hn hrl
  generalize S.cap = cp at *
  have hnl := Lib.run_eql_slice_nil (P := Try.prog) w 63 70 (some ⟨gb, 0, none⟩) n cp 0 0 Try.underlying63
  go_enter Try.func45, Try.ntmps45
  go_wp2_with (at_builtin; refine wpList_append_own _ rfl _ _ 63 rfl w.heap.size 70 i0 _ 64 64 Try.underlying63 hi hz0 hz1 hz2 rfl (by decide) _ 0 [] rfl hown ⟨gb, 0, none⟩ n cp (rowsOf S.bl) rfl HRL.out HW.out HO.out K3 K4 (by simp) ?_)
  intro v2 w2 hown2 hgrow hnil
  have hb : Below w.heap.size w w2 := (below_new w (.cells #[] 70)).grown hgrow (by simp) (fun g hg => (hown.lt g hg).1)
  have HOWN := Lib.hid hown2
  have HB := Lib.hid hb
  clear hgrow hown2 hb hnil hown
  go_wp2_with fail
  go_ret
  rcases HOWN.out.2 with ⟨_, h0⟩ | ⟨g2, cap, cur, rfl, hbg, hg, _, _, _, htk⟩
  · omega
  refine ⟨g2, cap, cur.toList.drop (n * 64), ?_, ?_, hbg, HB.out⟩
  · rw [← HN.out]; rfl
  · rw [hg, ← htk, List.take_append_drop, Array.toArray_toList]

def ClonePost (K : Nat) (S : St) (w : World) (e : Ending) (w' : World) : Prop :=
  ∃ g gb gp gw c x, e = .returned (.pointer (some ⟨g, 0, none⟩)) ∧ DiskAt w' g gb gp gw K { S with cap := c, ext := x } ∧ Below w.heap.size w w' ∧ w.heap.size ≤ g ∧ w.heap.size ≤ gb ∧ w.heap.size ≤ gp ∧ w.heap.size ≤ gw
def five (W : World) (g gb gp gw : Nat) (n cp : Nat) (off : Bool) (left : Int) : Prop :=
  W.cell? ⟨g, 0, none⟩ = some (.slice (some ⟨gb, 0, none⟩) n cp) ∧ W.cell? ⟨g, 1, none⟩ = some (.map (some gp)) ∧ W.cell? ⟨g, 2, none⟩ = some (.map (some gw)) ∧ W.cell? ⟨g, 3, none⟩ = some (.bool off) ∧ W.cell? ⟨g, 4, none⟩ = some (.int .i64 left)

set_option maxHeartbeats 8000000 in
set_option maxRecDepth 100000 in
theorem clone_any (w : World) (g gb gp gw K : Nat) (S : St) (h : DiskAt w g gb gp gw K S) : Calls Try.prog 26 #[.pointer (some ⟨g, 0, none⟩)] w (ClonePost K S w) := by
  obtain ⟨c0, c1, c2, c3, c4⟩ := h.cells
  have H0 := Lib.hid (h.same (w' := w.drew) rfl rfl rfl rfl)
  have NE := Lib.hid (show S.bl.length = S.bl.length from rfl)
  clear h
  go_enter Try.func26, Try.ntmps26
  go_wp2_with fail
  go_region_held3 (fun W => W.cell? ⟨g, 0, none⟩ = some (.slice (some ⟨gb, 0, none⟩) S.bl.length S.cap) ∧ W.cell? ⟨g, 1, none⟩ = some (.map (some gp)) ∧ W.cell? ⟨g, 2, none⟩ = some (.map (some gw)) ∧ W.cell? ⟨g, 3, none⟩ = some (.bool S.off) ∧ W.cell? ⟨g, 4, none⟩ = some (.int .i64 S.left))
    (first | exact H3.out.cells | exact H2.out.cells | exact H1.out.cells | go_keep)
    (first | (go_at_call 47; refine (AnyW.maps_Clone_owns Try.cloneW 3 (plainElem Try.prog 4) gw K S.worn _ H2.out.worn).mono ?_; rintro e w3 ⟨rfl, m3, -, b3⟩; have H3 := Lib.hid (H2.out.below b3); have M3 := Lib.hid m3; have B3 := Lib.hid b3; clear m3 b3) | (go_at_call 46; refine (AnyW.maps_Clone_owns Try.cloneP 3 blockR gp K S.pend _ H1.out.pend).mono ?_; rintro e w2 ⟨rfl, m2, -, b2⟩; have H2 := Lib.hid (H1.out.below b2); have M2 := Lib.hid m2; have B2 := Lib.hid b2; clear m2 b2) | (go_at_call 45; refine (cloneSl_any w.drew g gb gp gw K S H0.out).mono ?_; rintro e w1 ⟨g2, cp2, ex2, rfl, hg2, hl2, b1⟩; have H1 := Lib.hid (H0.out.below b1); have G2 := Lib.hid hg2; have L2 := Lib.hid hl2; have B1 := Lib.hid b1; clear hg2 hl2 b1))
  go_wp2_with fail
  go_ret
  have z1 : w.heap.size ≤ w1.heap.size := B1.out.size
  have z2 : w1.heap.size < w2.heap.size := M2.out.lt
  have z3 : w2.heap.size < w3.heap.size := M3.out.lt
  have zg : g2 < w1.heap.size := (Array.getElem?_eq_some_iff.1 G2.out).1
  have zl : w.heap.size ≤ g2 := L2.out
  refine ⟨w3.heap.size, g2, w1.heap.size, w2.heap.size, cp2, ex2, rfl, ⟨heap_alloc_new _ _, ?_, H0.out.b64, ?_, ?_, by omega, by omega, H0.out.n1, H0.out.n2, H0.out.l1, H0.out.l2⟩, ?_, by omega, zl, by omega, by omega⟩
  · rw [heap_alloc_old _ _ (by omega), B3.out.block _ (by omega), B2.out.block _ (by omega)]
    exact G2.out
  · exact ownsMap_block (w := w2) M2.out (by rw [heap_alloc_old _ _ (by omega), B3.out.block _ (by omega)])
  · exact ownsMap_block (w := w3) M3.out (by rw [heap_alloc_old _ _ (by omega)])
  · have q : Below w.heap.size w w1 := Below.trans ((Below.refl _ w).drew) B1.out
    exact ((q.trans (B2.out.mono (by omega))).trans (B3.out.mono (by omega))).alloc (by omega) _
end Go.Proofs.Ytibhnjnfifpepaa
