/- Pending and Worn: the keys of a disk's maps, ascending. -/
import Derived.Test.YtddpjahoeldleaaGreatDoorDLeaf
import Derived.Test.YtddpjahoeldleaaGreatDoorShelf
namespace Go.Proofs.YtddpjahoeldleaaGreatDoor.Dk
open Go.RowKit Go.Maps Go.Sort Go.Shelf

theorem sortsA (m : Nat) : AnyZI.SortsIn Tryz.prog Tryz.sorted_ren Fence.wide m :=
  ⟨fun blk off cap ss W hH hblk hsz => callsIn_wide.2 (AnyM.slices_Sort_int Tryz.sort blk off cap ss W hH hblk hsz),
   fun p cap W => callsIn_wide.2 (AnyM.slices_Sort_int_none Tryz.sort p cap W)⟩

def keysOf (D : Dt) : List Int := (intKeys D).mergeSort leI

set_option maxHeartbeats 1000000 in
theorem pending_raw (b nn : Nat) (D0 : Dt) (R : Value → Option (Dt × List MemPlace)) (g : Nat) (w : World) (c1 : w.cell? ⟨g, 1, none⟩ = some (.map (some b))) (hown : w.ownsMap Tryz.prog 3 R b nn D0) (hmax : Maps.size D0 ≤ maxLen) (hbytes : Maps.size D0 * 8 ≤ 140737488355328) :
    Calls Tryz.prog 50 #[.pointer (some ⟨g, 0, none⟩)] w fun e w' => ∃ (v : Value) (ss : List Int), e = .returned v ∧ ss.Perm (intKeys D0) ∧
      w'.ownsRow w.heap.size 3 1 v ss.length ((ss.mergeSort (fun x y => decide (x ≤ y))).map encZ) ∧ (v = .slice none 0 0 ↔ ss = []) ∧ Below w.heap.size w w' := by
  refine (callsIn_wide (n := 6)).1 ?_
  have hbl := hown.lt
  have hseq : SeqGives Fence.wide 2 Tryz.prog 98 #[.pointer (some ⟨w.heap.size, 0, none⟩)] encZ (fun ss => ss.Perm (intKeys D0)) (Maps.size D0) (w.alloc (.cells #[.map (some b)] 90)) :=
    AnyZI.keys_gives (ρ := Tryz.keysP_ren) { Tryz.keysP with } Fence.wide _ trivial rfl (by omega) w.heap.size b nn D0 _ (by simp) (by simp) (by
      obtain ⟨es, clock, hb, Ft, hs, hD⟩ := hown
      exact ⟨es, clock, (Below.heap_alloc _ _ b hbl).trans hb, Ft, hs, hD⟩)
  have cK : ∀ mb W, CallsIn Fence.wide 5 Tryz.prog 81 #[.map mb] W fun e w' => e = .returned (.func (.func 98) #[] #[.pointer (some ⟨W.heap.size, 0, none⟩)]) ∧ w' = W.alloc (.cells #[.map mb] 90) := fun mb W => AnyZI.keys_in Tryz.keysP Fence.wide 5 trivial rfl mb W
  have cS := AnyZI.sorted_in Tryz.sorted Fence.wide 5 trivial trivial trivial trivial rfl (by omega) (sortsA _) (enters_of Tryz.func97 (by kernel_rfl) rfl) 98 #[.pointer (some ⟨w.heap.size, 0, none⟩)] trivial (enters_of Tryz.func98 (by kernel_rfl) rfl) _ _ hmax hbytes _ hseq
  change CallsIn _ _ Tryz.prog 80 _ _ _ at cS
  have hfK : Fence.wide.fn 81 := trivial
  have hfS : Fence.wide.fn 80 := trivial
  refine callsIn_of_wp Tryz.func50 rfl trivial ?_ rfl
  simp only [Tryz.ntmps50, List.size_toArray, List.length_cons, List.length_nil, Nat.reduceAdd, Nat.reduceSub, Array.replicate_succ, Array.replicate_zero, List.push_toArray, List.append_toArray, List.nil_append, List.cons_append]
  gi_wp2_with (first
    | (gi_at_call 81; refine (cK _ _).mono ?_; rintro e w' ⟨rfl, rfl⟩)
    | (gi_at_call 80; refine cS.mono ?_; rintro e w' ⟨v, ss, rfl, hS, hrow, hnil, hb⟩))
  go_ret
  exact ⟨v, ss, rfl, hS, ownsRow_base_a hrow (by simp), hnil, ((Below.refl _ w).alloc (Nat.le_refl _) _).trans (hb.mono (by simp))⟩

def KeysPost (D : Dt) (w : World) : Ending → World → Prop := fun e w' => ∃ v, e = .returned v ∧ w'.ownsRow w.heap.size 3 1 v (keysOf D).length ((keysOf D).map encZ) ∧ Below w.heap.size w w'
theorem keys_len (D : Dt) (ss : List Int) (h : ss.Perm (intKeys D)) : ss.length = (keysOf D).length ∧ ss.mergeSort (fun x y => decide (x ≤ y)) = keysOf D := by
  refine ⟨?_, mergeSort_of_perm_i h⟩
  rw [keysOf, List.length_mergeSort, h.length_eq]
theorem pending_any (w : World) (g gb gp gw K : Nat) (S : St) (h : DiskAt w g gb gp gw K S) (hK : K ≤ 100000) : Calls Tryz.prog 50 #[.pointer (some ⟨g, 0, none⟩)] w (KeysPost S.pend w) := by
  have hs := h.pend.size_le
  refine (pending_raw gp K S.pend blockR g w h.cells.2.1 h.pend (by unfold maxLen; omega) (by omega)).mono ?_
  rintro e w' ⟨v, ss, rfl, hp, hrow, _, hb⟩
  obtain ⟨e1, e2⟩ := keys_len _ _ hp
  rw [e1, e2] at hrow
  exact ⟨v, rfl, hrow, hb⟩
end Go.Proofs.YtddpjahoeldleaaGreatDoor.Dk
