/- The small methods of a disk. -/
import Derived.Test.YtddpjahoeldleaaGreatDoorDMem
import Derived.WalkSpells
import Derived.Outline
import Derived.Laws.EntriesVeiled
namespace Go.Proofs.YtddpjahoeldleaaGreatDoor.Dk
open Go.RowKit Go.Maps

theorem block_setCell {w : World} {b : Nat} {t : TypeId} {cs : Array Value} (h : w.heap[b]? = some (.cells cs t (0, 0))) (i : Nat) (u : Value) : (w.setCell ⟨b, i, none⟩ u).heap[b]? = some (.cells (cs.setIfInBounds i u) t (0, 0)) := by
  simp [World.setCell, Array.getElem?_modify, h]
theorem DiskAt.setOff {w : World} {g gb gp gw K : Nat} {S : St} (h : DiskAt w g gb gp gw K S) (b : Bool) : DiskAt (w.setCell ⟨g, 3, none⟩ (.bool b)) g gb gp gw K { S with off := b } := by
  have ha := h.apart
  have k : ∀ j, j ≠ g → (w.setCell ⟨g, 3, none⟩ (.bool b)).heap[j]? = w.heap[j]? := fun j hj => Below.heap_setCell _ _ _ _ hj
  exact ⟨block_setCell h.head 3 (.bool b), (k _ (Ne.symm h.ne1)).trans h.rows, h.b64, ownsMap_block h.pend (k _ (Ne.symm ha.1)), ownsMap_block h.worn (k _ (Ne.symm ha.2.1)), h.ne1, h.ne2, h.n1, h.n2, h.l1, h.l2⟩
theorem DiskAt.setLeft {w : World} {g gb gp gw K : Nat} {S : St} (h : DiskAt w g gb gp gw K S) (n : Int) (l1 : -9223372036854775808 ≤ n) (l2 : n ≤ 9223372036854775807) : DiskAt (w.setCell ⟨g, 4, none⟩ (.int .i64 n)) g gb gp gw K { S with left := n } := by
  have ha := h.apart
  have k : ∀ j, j ≠ g → (w.setCell ⟨g, 4, none⟩ (.int .i64 n)).heap[j]? = w.heap[j]? := fun j hj => Below.heap_setCell _ _ _ _ hj
  exact ⟨block_setCell h.head 4 (.int .i64 n), (k _ (Ne.symm h.ne1)).trans h.rows, h.b64, ownsMap_block h.pend (k _ (Ne.symm ha.1)), ownsMap_block h.worn (k _ (Ne.symm ha.2.1)), h.ne1, h.ne2, h.n1, h.n2, l1, l2⟩

theorem len_any (w : World) (g gb gp gw K : Nat) (S : St) (h : DiskAt w g gb gp gw K S) : Calls Tryz.prog 43 #[.pointer (some ⟨g, 0, none⟩)] w (Ret (.int .i64 (S.bl.length : Int)) w) := by
  obtain ⟨c0, c1, c2, c3, c4⟩ := h.cells
  clear h
  go_enter Tryz.func43, Tryz.ntmps43
  go_wp2_with fail
  go_ret
  exact Ret.mk

/-- what a method with no result but the disk's change gives -/
def DPost (v : Value) (g gb gp gw K : Nat) (S : St) (w : World) : Ending → World → Prop := fun e w' => e = .returned v ∧ DiskAt w' g gb gp gw K S ∧ Keep [g, gb, gp, gw] w w'

def checkE (S : St) (i : Int) : Int := if S.off then 24 else if 0 ≤ i ∧ i < S.bl.length then 0 else 1
theorem check_any (w : World) (g gb gp gw K : Nat) (S : St) (h : DiskAt w g gb gp gw K S) (i : Int) (r : Int) (hr : Hid (checkE S i = r)) :
    Calls Tryz.prog 64 #[.pointer (some ⟨g, 0, none⟩), .int .i64 i] w (Ret (.int .i64 r) w) := by
  obtain ⟨c0, c1, c2, c3, c4⟩ := h.cells
  have n2 := h.n2
  obtain ⟨n, hn⟩ : ∃ n, n = S.bl.length := ⟨_, rfl⟩
  rw [← hn] at c0 n2
  cases ho : S.off
  · rw [ho] at c3
    have hr' : Hid ((if 0 ≤ i ∧ i < (n : Int) then 0 else 1) = r) := Lib.hid (by rw [← hr.out, checkE, ho, hn]; rfl)
    clear ho hr h hn
    by_cases h0 : 0 ≤ i
    · by_cases h1 : i < (n : Int)
      · go_enter Tryz.func64, Tryz.ntmps64
        go_wp2_with fail
        go_ret
        exact Ret.int (by rw [← hr'.out, if_pos ⟨h0, h1⟩])
      · go_enter Tryz.func64, Tryz.ntmps64
        go_wp2_with fail
        go_ret
        exact Ret.int (by rw [← hr'.out, if_neg (by omega)])
    · go_enter Tryz.func64, Tryz.ntmps64
      go_wp2_with fail
      go_ret
      exact Ret.int (by rw [← hr'.out, if_neg (by omega)])
  · rw [ho] at c3
    have hr' : Hid (24 = r) := Lib.hid (by rw [← hr.out, checkE, ho]; rfl)
    clear ho hr h hn
    go_enter Tryz.func64, Tryz.ntmps64
    go_wp2_with fail
    go_ret
    exact Ret.int hr'.out

def stepE (S : St) : Int := if S.left = 0 then 24 else 0
def stepS (S : St) : St := if S.left = 0 then { S with off := true } else if 0 < S.left then { S with left := S.left - 1 } else S
theorem DPost.ret {v : Value} {g gb gp gw K : Nat} {S S' : St} {w w' : World} (hS : S = S') (h : DiskAt w' g gb gp gw K S) (hk : Keep [g, gb, gp, gw] w w') : DPost v g gb gp gw K S' w (.returned v) w' := by rw [← hS]; exact ⟨rfl, h, hk⟩
theorem step_any (w : World) (g gb gp gw K : Nat) (S : St) (h : DiskAt w g gb gp gw K S) :
    Calls Tryz.prog 65 #[.pointer (some ⟨g, 0, none⟩)] w (DPost (.int .i64 (stepE S)) g gb gp gw K (stepS S) w) := by
  obtain ⟨c0, c1, c2, c3, c4⟩ := h.cells
  have f3 := h.free 3
  have f4 := h.free 4
  have l1 := h.l1
  have l2 := h.l2
  have h1 := h.setOff true
  by_cases h0 : S.left = 0
  · have HE : stepE S = 24 := by rw [stepE, if_pos h0]
    have HS := Lib.hid (show { S with off := true } = stepS S by rw [stepS, if_pos h0])
    rw [HE]
    rw [h0] at c4
    have H1 := Lib.hid h1
    have hk := Lib.hid ((Keep.refl [g, gb, gp, gw] w).setCell (a := ⟨g, 3, none⟩) (by simp) (.bool true))
    clear h h0 HE h1 l1 l2
    go_enter Tryz.func65, Tryz.ntmps65
    go_wp2_with fail
    go_ret
    exact DPost.ret HS.out H1.out hk.out
  · have HE : stepE S = 0 := by rw [stepE, if_neg h0]
    rw [HE]
    by_cases hp : 0 < S.left
    · have HS := Lib.hid (show { S with left := S.left - 1 } = stepS S by rw [stepS, if_neg h0, if_pos hp])
      have H2 := Lib.hid (h.setLeft (S.left - 1) (by omega) (by omega))
      have hk := Lib.hid ((Keep.refl [g, gb, gp, gw] w).setCell (a := ⟨g, 4, none⟩) (by simp) (.int .i64 (S.left - 1)))
      clear HE h1
      generalize S.left = n at *
      clear h
      go_enter Tryz.func65, Tryz.ntmps65
      go_wp2_with fail
      go_ret
      exact DPost.ret HS.out H2.out hk.out
    · have HS := Lib.hid (show S = stepS S by rw [stepS, if_neg h0, if_neg hp])
      have H2 := Lib.hid h
      clear HE h1 h
      generalize S.left = n at *
      go_enter Tryz.func65, Tryz.ntmps65
      go_wp2_with fail
      go_ret
      exact DPost.ret HS.out H2.out (Keep.refl _ _)
end Go.Proofs.YtddpjahoeldleaaGreatDoor.Dk
