/- Image, and a sector of equal bytes. -/
import Derived.Test.YtibhnjnfifpepaaRd
namespace Go.Proofs.Ytibhnjnfifpepaa
open Go.RowKit Go.Maps

def imgTo (bl : List Bs) (k : Nat) : List Bs := (List.range bl.length).map fun i => if i < k then bl.getD i [] else []
theorem imgTo_zero (bl : List Bs) : strCells (imgTo bl 0) = List.replicate bl.length (str []) := by
  apply List.ext_getElem
  · simp [strCells, imgTo]
  · intro i h1 h2
    simp [strCells, imgTo]
theorem imgTo_end (bl : List Bs) : imgTo bl bl.length = bl := by
  apply List.ext_getElem
  · simp [imgTo]
  · intro i h1 h2
    simp only [imgTo, List.getElem_map, List.getElem_range]
    rw [if_pos h2, List.getD_eq_getElem?_getD, List.getElem?_eq_getElem h2, Option.getD_some]
theorem imgTo_step (bl : List Bs) (k : Nat) : strCells (imgTo bl (k + 1)) = (strCells (imgTo bl k)).set k (str (bl.getD k [])) := by
  apply List.ext_getElem
  · simp [strCells, imgTo]
  · intro i h1 h2
    rw [List.getElem_set]
    simp only [strCells, imgTo, List.getElem_map, List.getElem_range]
    by_cases e : k = i
    · subst e; rw [if_pos (by omega), if_pos rfl]
    · rw [if_neg e]
      by_cases h : i < k
      · rw [if_pos (by omega), if_pos h]
      · rw [if_neg (by omega), if_neg h]

theorem info9 : (Try.prog.info? 9).map (fun i => (i.zero, i.size, i.bytes)) = some (some (.string ⟨#[]⟩), 1, 16) := by kernel_rfl
def ListPost (xs : List Value) (w : World) (e : Ending) (w' : World) : Prop :=
  ∃ A c, e = .returned (.slice A xs.length c) ∧ Rd w' w'.heap.size 1 A xs.length xs ∧ xs.length ≤ c ∧ Below w.heap.size w w' ∧ ∀ b o, A = some ⟨b, o, none⟩ → w.heap.size ≤ b
theorem Rd.blk {w : World} {g : Nat} {t : TypeId} {cs : Array Value} (h : Blk w g t cs) (n : Nat) (hn : cs.size = n) : Rd w w.heap.size 1 (some ⟨g, 0, none⟩) n cs.toList := by
  refine ⟨by simp [hn], fun _ => ⟨g, 0, rfl, h.lt, fun j u hu => ?_⟩⟩
  rw [Nat.zero_add, h.cell]
  simpa using hu

set_option maxHeartbeats 2000000 in
set_option maxRecDepth 100000 in
theorem image_any (w : World) (g gb gp gw K : Nat) (S : St) (h : DiskAt w g gb gp gw K S) : Calls Try.prog 10 #[.pointer (some ⟨g, 0, none⟩)] w (ListPost (strCells S.bl) w) := by
  obtain ⟨i0, hi, hz0, hz1, hz2⟩ := info_parts info9
  have n2 := h.n2
  have hmk := run_make_rowN (P := Try.prog) 27 9 i0 _ Try.underlying27 hi hz0 .i64 .i64 S.bl.length S.bl.length (Nat.le_refl _) (by rw [hz2]; omega) (by omega) w
  have hC0 : (madeCells (Value.string ⟨#[]⟩).cells (S.bl.length * i0.size)).toList = strCells (imgTo S.bl 0) := by
    rw [imgTo_zero, hz1, Nat.mul_one]; exact made_list _ _
  generalize madeCells (Value.string ⟨#[]⟩).cells (S.bl.length * i0.size) = C0 at *
  have HC := Lib.hid hC0
  have c0 := h.cells.1
  have hlt := h.lt
  obtain ⟨l1, l2, l3, l4⟩ := hlt
  have H := Lib.hid h
  obtain ⟨n, hn⟩ : ∃ n, n = S.bl.length := ⟨_, rfl⟩
  rw [← hn] at hmk c0 n2
  have HN := Lib.hid hn
  clear hC0 hz0 hz1 hz2 hi h hn
  have c0' : (w.alloc (.cells C0 9)).cell? ⟨g, 0, none⟩ = some (.slice (some ⟨gb, 0, none⟩) n S.cap) := (World.cell?_alloc_lt w _ ⟨g, 0, none⟩ l1).trans c0
  go_enter Try.func10, Try.ntmps10
  go_wp2_with fail
  go_loopw [16] (fun x wr => ∃ (k : Nat) (C : Array Value), k ≤ n ∧ x = .int .i64 k ∧ C.toList = strCells (imgTo S.bl k) ∧ Blk wr w.heap.size 9 C ∧ Below w.heap.size w wr) (fun x _ => n - (intOf x).toNat)
  case atStart => exact ⟨0, C0, by omega, rfl, HC.out, Blk.new _ _ _, Below.alloc (Below.refl _ _) (Nat.le_refl _) _⟩
  case round =>
    obtain ⟨k, C, hk, rfl, hC, hB, hb⟩ := hrel
    have hsz := hb.size
    have Hc := Lib.hid hC
    have d := H.out.below hb
    have e0 := d.cells.1
    rw [← HN.out] at e0
    clear hC hmk c0 c0' HC
    by_cases hlt : k < n
    · have hk' : k < S.bl.length := by have := HN.out; omega
      have hbb : (S.bl.getD k []).length = 64 := by
        rw [List.getD_eq_getElem?_getD, List.getElem?_eq_getElem hk', Option.getD_some]
        exact H.out.b64 _ (List.getElem_mem hk')
      have hcv := conv_bytes wr gb (k * 64) (S.bl.getD k []) hbb (fun j hj => d.byte hk' hj) 64
      have cc : wr.cell? ⟨w.heap.size, k, none⟩ = C[k]? := hB.cell k
      have cf : wr.frozen? ⟨w.heap.size, k, none⟩ = false := hB.frozen k
      have hCs : C.size = n := by have := congrArg List.length Hc.out; simp [strCells, imgTo] at this; have := HN.out; omega
      rw [Array.getElem?_eq_getElem (by omega)] at cc
      generalize C[k]'(by omega) = old at cc
      have HS := Lib.hid (imgTo_step S.bl k)
      obtain ⟨b, hbx⟩ : ∃ b, b = S.bl.getD k [] := ⟨_, rfl⟩
      rw [← hbx] at hcv HS
      have i1 : (k : Int) < (n : Int) := by omega
      have i0 : (0 : Int) ≤ (k : Int) := by omega
      clear hbx hbb d hCs hk'
      go_wp2_with fail
      go_roundw
      case rel =>
        refine ⟨k + 1, C.setIfInBounds k (str b), by omega, by go_num, ?_, hB.set_ k _, hb.setCell (Nat.le_refl _) _⟩
        rw [HS.out, ← Hc.out]
        simp
      case measure => simp [intOf]; omega
    · obtain rfl : n = k := by omega
      go_wp2_with fail
      go_ret
      have hCl := Hc.out
      rw [HN.out, imgTo_end] at hCl
      have hCs : C.size = n := by have := congrArg List.length hCl; simp [strCells] at this; have := HN.out; omega
      have hl : (strCells S.bl).length = n := by rw [← hCl]; simpa using hCs
      refine ⟨some ⟨w.heap.size, 0, none⟩, n, ?_, ?_, Nat.le_of_eq hl, hb, fun b o e => by injection e with e; injection e with e1 e2; omega⟩
      · rw [hl]; rfl
      · rw [hl, ← hCl]; exact Rd.blk hB n hCs
end Go.Proofs.Ytibhnjnfifpepaa
