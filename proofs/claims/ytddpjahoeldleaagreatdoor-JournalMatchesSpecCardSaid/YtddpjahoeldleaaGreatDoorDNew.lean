/- New, and a sector of equal bytes. -/
import Derived.Test.YtddpjahoeldleaaGreatDoorDRead
namespace Go.Proofs.YtddpjahoeldleaaGreatDoor.Dk
open Go.RowKit Go.Maps

theorem info5 : (Tryz.prog.info? 5).map (fun i => (i.zero, i.size, i.bytes)) = some (some (.int .u8 0), 1, 1) := by kernel_rfl
theorem info70b : (Tryz.prog.info? 99).map (fun i => (i.zero, i.size, i.bytes)) = some (some (encB zeroBs), 64, 64) := by kernel_rfl

def newS (n : Nat) : St := { bl := List.replicate n zeroBs, pend := .map [], worn := .map [], off := false, left := -1, cap := n, ext := [] }
theorem rows_zero (n : Nat) : rowsOf (List.replicate n zeroBs) = List.replicate (n * 64) (.int .u8 0) := by
  induction n with
  | zero => rfl
  | succ n ih =>
    rw [List.replicate_succ]
    have e : ∀ (b : Bs) (r : List Bs), rowsOf (b :: r) = cellsOfB b ++ rowsOf r := fun _ _ => rfl
    rw [e, ih, show cellsOfB zeroBs = List.replicate 64 (.int .u8 0) from rfl, List.replicate_append_replicate]
    congr 1
    omega
theorem made_zero (n : Nat) : (madeCells (encB zeroBs).cells (n * 64)).toList = List.replicate (n * 64) (.int .u8 0) := by
  have hz : (encB zeroBs).cells = Array.replicate 64 (.int .u8 0) := by rfl
  apply List.ext_getElem
  · simp [madeCells]
  · intro i h1 h2
    have : i % 64 < 64 := Nat.mod_lt _ (by omega)
    simp [madeCells, hz, this]

theorem four_new (w : World) (a b c d : Obj) : ((((w.alloc a).alloc b).alloc c).alloc d).heap[w.heap.size]? = some a ∧ ((((w.alloc a).alloc b).alloc c).alloc d).heap[w.heap.size + 1]? = some b ∧ ((((w.alloc a).alloc b).alloc c).alloc d).heap[w.heap.size + 2]? = some c ∧ ((((w.alloc a).alloc b).alloc c).alloc d).heap[w.heap.size + 3]? = some d := by
  have s1 : (w.alloc a).heap.size = w.heap.size + 1 := by simp
  have s2 : ((w.alloc a).alloc b).heap.size = w.heap.size + 2 := by simp
  have s3 : (((w.alloc a).alloc b).alloc c).heap.size = w.heap.size + 3 := by simp
  refine ⟨?_, ?_, ?_, ?_⟩
  · rw [heap_alloc_old _ _ (by omega), heap_alloc_old _ _ (by omega), heap_alloc_old _ _ (by omega), heap_alloc_new]
  · rw [heap_alloc_old _ _ (by omega), heap_alloc_old _ _ (by omega), ← s1, heap_alloc_new]
  · rw [heap_alloc_old _ _ (by omega), ← s2, heap_alloc_new]
  · rw [← s3, heap_alloc_new]
theorem ownsMap_empty {P : Program} {k : TypeId} {R : Value → Option (Dt × List MemPlace)} {w : World} {b : Nat} (h : w.heap[b]? = some (.map #[] 0)) : w.ownsMap P k R b 0 (.map []) := by
  obtain ⟨es, clock, hb, F, hs, hD⟩ := World.ownsMap_made (H := Unit) w P k R
  rw [heap_alloc_new] at hb
  injection hb with hb
  injection hb with e1 e2
  subst e1 e2
  exact ⟨#[], 0, h, F, hs, hD⟩

def NewPost (n : Nat) (w : World) (e : Ending) (w' : World) : Prop :=
  ∃ g gb gp gw, e = .returned (.tuple #[.pointer (some ⟨g, 0, none⟩), .int .i64 0]) ∧ DiskAt w' g gb gp gw 0 (newS n) ∧ Below w.heap.size w w' ∧ w.heap.size ≤ g ∧ w.heap.size ≤ gb ∧ w.heap.size ≤ gp ∧ w.heap.size ≤ gw

theorem new_bad (w : World) (i : Int) (h1 : -9223372036854775808 ≤ i) (h2 : i ≤ 9223372036854775807) (h : i < 1 ∨ 4096 < i) : Calls Tryz.prog 20 #[.int .i64 i] w (Ret (.tuple #[.pointer none, .int .i64 1]) w) := by
  rcases h with h | h
  · go_enter Tryz.func20, Tryz.ntmps20
    go_wp2_with fail
    go_ret2
    exact Ret.mk
  · go_enter Tryz.func20, Tryz.ntmps20
    go_wp2_with fail
    go_ret2
    exact Ret.mk
theorem new_any (w : World) (n : Nat) (h1 : 1 ≤ n) (h2 : n ≤ 4096) : Calls Tryz.prog 20 #[.int .i64 (n : Int)] w (NewPost n w) := by
  obtain ⟨i0, hi, hz0, hz1, hz2⟩ := info_parts info70b
  have hmk := run_make_rowN (P := Tryz.prog) 89 99 i0 _ Tryz.underlying89 hi hz0 .i64 .i64 n n (Nat.le_refl _) (by rw [hz2]; omega) (by omega) w
  rw [hz1] at hmk
  have hC := made_zero n
  generalize madeCells (encB zeroBs).cells (n * 64) = C at *
  have HC := Lib.hid hC
  have hmm := @run_makeMap Tryz.prog
  have d1 : decide ((n : Int) < 1) = false := by simp; omega
  have d2 : decide ((4096 : Int) < (n : Int)) = false := by simp; omega
  clear hC hz0 hz1 hz2 hi
  go_enter Tryz.func20, Tryz.ntmps20
  go_wp2_with fail
  go_ret2
  obtain ⟨q1, q2, q3, q4⟩ := four_new w (.cells C 99) (.map #[] 0) (.map #[] 0) (.cells #[.slice (some ⟨w.heap.size, 0, none⟩) n n, .map (some (w.heap.size + 1)), .map (some (w.heap.size + 2)), .bool false, .int .i64 (-1)] 92)
  have hl : (List.replicate n zeroBs).length = n := by simp
  refine ⟨w.heap.size + 3, w.heap.size, w.heap.size + 1, w.heap.size + 2, rfl, ⟨?_, ?_, ?_, ownsMap_empty q2, ownsMap_empty q3, by omega, by omega, ?_, ?_, (by show (-9223372036854775808 : Int) ≤ -1; decide), (by show (-1 : Int) ≤ 9223372036854775807; decide)⟩, ?_, by omega, by omega, by omega, by omega⟩
  · rw [show (newS n).bl.length = n from hl]; exact q4
  · rw [show rowsOf (newS n).bl ++ (newS n).ext = C.toList from (List.append_nil _).trans ((rows_zero n).trans HC.out.symm)]; exact q1
  · intro b hb
    rw [(List.mem_replicate.1 hb).2]
    rfl
  · rw [show (newS n).bl.length = n from hl]; exact h1
  · rw [show (newS n).bl.length = n from hl]; exact h2
  · exact ((((Below.refl _ w).alloc (Nat.le_refl _) _).alloc (by simp) _).alloc (by simp; omega) _).alloc (by simp; omega) _

def fillTo (c : UInt8) (k : Nat) : List Value := (List.range 64).map fun i => .int .u8 (if i < k then (c.toNat : Int) else 0)
theorem fill_step (c : UInt8) (k : Nat) : (fillTo c k).set k (.int .u8 (c.toNat : Int)) = fillTo c (k + 1) := by
  apply List.ext_getElem
  · simp [fillTo]
  · intro i h1 h2
    rw [List.getElem_set]
    simp only [fillTo, List.getElem_map, List.getElem_range]
    by_cases e : k = i
    · subst e; rw [if_pos rfl, if_pos (by omega)]
    · rw [if_neg e]
      by_cases h : i < k
      · rw [if_pos h, if_pos (by omega)]
      · rw [if_neg h, if_neg (by omega)]
theorem fill_zero (c : UInt8) : List.replicate 64 (Value.int .u8 0) = fillTo c 0 := by
  apply List.ext_getElem
  · rw [List.length_replicate]; simp [fillTo]
  · intro i h1 h2
    rw [List.getElem_replicate]
    simp only [fillTo, List.getElem_map, List.getElem_range]
    rw [if_neg (by omega)]
def fullB (c : UInt8) : Bs := List.replicate 64 c
theorem fullB_at (c : UInt8) (j : Nat) (hj : j < 64) : (fullB c).getD j 0 = c := by
  rw [fullB, List.getD_eq_getElem?_getD, List.getElem?_replicate, if_pos hj]; rfl
theorem fill_at (c : UInt8) (j : Nat) (hj : j < 64) : (fillTo c 64)[j]? = some (.int .u8 (c.toNat : Int)) := by
  rw [fillTo, List.getElem?_map, List.getElem?_range hj]
  simp [hj]
theorem RetB.str {a b : Bs} {w w' : World} (h : a = b) (hb : Below w.heap.size w w') : RetB (str b) w (.returned (.string ⟨a.toArray⟩)) w' := by rw [h]; exact ⟨rfl, hb⟩

end Go.Proofs.YtddpjahoeldleaaGreatDoor.Dk
