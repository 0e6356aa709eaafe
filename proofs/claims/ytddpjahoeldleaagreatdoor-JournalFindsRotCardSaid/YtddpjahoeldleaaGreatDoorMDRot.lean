/- A disk in memory; contracts of Pending, Read, New, Write, Rot. -/
import Derived.Test.YtddpjahoeldleaaGreatDoorMBase
import Derived.WalkSpells
import Derived.Outline
import Derived.Laws.EntriesVeiled
import Derived.Test.YtddpjahoeldleaaGreatDoorMShelf
import Derived.Deep.WholeRow
import Derived.Lib.ConvBytes
import Derived.Lib.SlBytesRow
import Derived.StillTailTactics
import Derived.Deep.RegionHeld3
import Derived.Laws.Cover3
import Derived.Laws.BitsLemmas
import Derived.IntWalk

namespace Go.Proofs.YtddpjahoeldleaaGreatDoor
open Go.RowKit
theorem setRow_other (w : World) (g : Nat) (cs : Array Value) (j : Nat) (h : j ≠ g) : (w.setRow g cs).heap[j]? = w.heap[j]? := by
  simp [World.setRow, Array.getElem?_modify, Ne.symm h]
theorem Keep.setRow {F : List Nat} {w w1 : World} (h : Keep F w w1) {g : Nat} (hg : g ∈ F) (cs : Array Value) : Keep F w (w1.setRow g cs) :=
  h.trans ⟨rfl, rfl, rfl, by simp, fun k _ hF => setRow_other _ _ _ _ (fun e => hF (by rw [e]; exact hg))⟩
end Go.Proofs.YtddpjahoeldleaaGreatDoor
namespace Go.Proofs.YtddpjahoeldleaaGreatDoor.Dk
open Go.RowKit Go.Maps

abbrev Dt := DataW Unit

/-- a block as a value -/
def encB (b : Bs) : Value := .agg (b.map fun x => Value.int .u8 (x.toNat : Int)).toArray
def decU8 : Value → Option UInt8
  | .int .u8 n => if 0 ≤ n ∧ n < 256 then some (UInt8.ofNat n.toNat) else none
  | _ => none
theorem decU8_enc (x : UInt8) : decU8 (.int .u8 (x.toNat : Int)) = some x := by
  have := x.toNat_lt
  simp only [decU8]
  rw [if_pos ⟨by omega, by omega⟩]
  simp
theorem decU8_inv {v : Value} {x : UInt8} (h : decU8 v = some x) : v = .int .u8 (x.toNat : Int) := by
  unfold decU8 at h
  split at h
  · rename_i n
    split at h
    · rename_i hn
      injection h with h
      subst h
      congr 1
      rw [UInt8.toNat_ofNat']
      omega
    · cases h
  · cases h
def decBs : List Value → Option Bs
  | [] => some []
  | v :: r => match decU8 v, decBs r with
    | some x, some b => some (x :: b)
    | _, _ => none
theorem decBs_enc : ∀ b : Bs, decBs (b.map fun x => Value.int .u8 (x.toNat : Int)) = some b
  | [] => rfl
  | x :: b => by simp only [List.map_cons, decBs, decU8_enc, decBs_enc b]
theorem decBs_inv : ∀ (l : List Value) (b : Bs), decBs l = some b → l = b.map fun x => Value.int .u8 (x.toNat : Int)
  | [], b, h => by simp only [decBs, Option.some.injEq] at h; subst h; rfl
  | v :: r, b, h => by
    unfold decBs at h
    split at h
    · rename_i x b' h1 h2
      injection h with h
      subst h
      rw [List.map_cons, ← decBs_inv r b' h2, decU8_inv h1]
    · cases h
/-- how a block in a map reads -/
def blockR (v : Value) : Option (Dt × List MemPlace) := match v with
  | .agg cs => match decBs cs.toList with
    | some b => if b.length = 64 then some (.lit (.string b), []) else none
    | none => none
  | _ => none
theorem blockR_enc {b : Bs} (h : b.length = 64) : blockR (encB b) = some (.lit (.string b), []) := by
  simp only [blockR, encB, decBs_enc, if_pos h]
theorem blockR_inv {v : Value} {d : Dt} {ps : List MemPlace} (h : blockR v = some (d, ps)) : ∃ b, b.length = 64 ∧ v = encB b ∧ d = .lit (.string b) ∧ ps = [] := by
  unfold blockR at h
  split at h
  · rename_i cs
    split at h
    · rename_i b hb
      split at h
      · rename_i hl
        simp only [Option.some.injEq, Prod.mk.injEq] at h
        refine ⟨b, hl, ?_, h.1.symm, h.2.symm⟩
        rw [encB, ← decBs_inv _ _ hb]
      · cases h
    · cases h
  · cases h

/-- what a disk is -/
structure St where
  bl : List Bs
  pend : Dt
  worn : Dt
  off : Bool
  left : Int
  cap : Nat
  ext : List Value

def cellsOfB (b : Bs) : List Value := b.map fun x => Value.int .u8 (x.toNat : Int)
def rowsOf (bl : List Bs) : List Value := bl.flatMap cellsOfB

/-- the disk S lies at block g: its struct, its rows at gb, its maps at gp and gw; K bounds the maps -/
structure DiskAt (w : World) (g gb gp gw K : Nat) (S : St) : Prop where
  head : w.heap[g]? = some (.cells #[.slice (some ⟨gb, 0, none⟩) S.bl.length S.cap, .map (some gp), .map (some gw), .bool S.off, .int .i64 S.left] 92 (0, 0))
  rows : w.heap[gb]? = some (.cells (rowsOf S.bl ++ S.ext).toArray 99 (0, 0))
  b64 : ∀ b ∈ S.bl, b.length = 64
  pend : w.ownsMap Tryz.prog 3 blockR gp K S.pend
  worn : w.ownsMap Tryz.prog 3 (plainElem Tryz.prog 4) gw K S.worn
  ne1 : g ≠ gb
  ne2 : gp ≠ gw
  n1 : 1 ≤ S.bl.length
  n2 : S.bl.length ≤ 4096
  l1 : -9223372036854775808 ≤ S.left
  l2 : S.left ≤ 9223372036854775807

variable {w w' : World} {g gb gp gw K : Nat} {S : St}
theorem DiskAt.lt (h : DiskAt w g gb gp gw K S) : g < w.heap.size ∧ gb < w.heap.size ∧ gp < w.heap.size ∧ gw < w.heap.size :=
  ⟨(Array.getElem?_eq_some_iff.1 h.head).1, (Array.getElem?_eq_some_iff.1 h.rows).1, h.pend.lt, h.worn.lt⟩
theorem ownsMap_block {P : Program} {k : TypeId} {R : Value → Option (Dt × List MemPlace)} {b n : Nat} {D : Dt} (h : w.ownsMap P k R b n D) (hb : w'.heap[b]? = w.heap[b]?) : w'.ownsMap P k R b n D := by
  obtain ⟨es, clock, hh, F, hs, hD⟩ := h
  exact ⟨es, clock, hb.trans hh, F, hs, hD⟩
theorem ownsMap_obj {P : Program} {k : TypeId} {R : Value → Option (Dt × List MemPlace)} {b n : Nat} {D : Dt} (h : w.ownsMap P k R b n D) : ∃ es clock, w.heap[b]? = some (.map es clock) := by
  obtain ⟨es, clock, hh, _⟩ := h
  exact ⟨es, clock, hh⟩
theorem DiskAt.apart (h : DiskAt w g gb gp gw K S) : g ≠ gp ∧ g ≠ gw ∧ gb ≠ gp ∧ gb ≠ gw := by
  obtain ⟨e1, c1, h1⟩ := ownsMap_obj h.pend
  obtain ⟨e2, c2, h2⟩ := ownsMap_obj h.worn
  have h3 := h.head
  have h4 := h.rows
  refine ⟨?_, ?_, ?_, ?_⟩ <;> intro e <;> subst e
  · rw [h1] at h3; cases h3
  · rw [h2] at h3; cases h3
  · rw [h1] at h4; cases h4
  · rw [h2] at h4; cases h4
/-- a disk stays what it is where its blocks stay -/
theorem DiskAt.same (h : DiskAt w g gb gp gw K S) (h1 : w'.heap[g]? = w.heap[g]?) (h2 : w'.heap[gb]? = w.heap[gb]?) (h3 : w'.heap[gp]? = w.heap[gp]?) (h4 : w'.heap[gw]? = w.heap[gw]?) : DiskAt w' g gb gp gw K S :=
  ⟨h1.trans h.head, h2.trans h.rows, h.b64, ownsMap_block h.pend h3, ownsMap_block h.worn h4, h.ne1, h.ne2, h.n1, h.n2, h.l1, h.l2⟩
theorem DiskAt.keep {F : List Nat} (h : DiskAt w g gb gp gw K S) (hk : Keep F w w') (hF : ∀ k, k ∈ F → k ≠ g ∧ k ≠ gb ∧ k ≠ gp ∧ k ≠ gw) : DiskAt w' g gb gp gw K S := by
  obtain ⟨l1, l2, l3, l4⟩ := h.lt
  exact h.same (hk.block _ l1 fun e => (hF _ e).1 rfl) (hk.block _ l2 fun e => (hF _ e).2.1 rfl) (hk.block _ l3 fun e => (hF _ e).2.2.1 rfl) (hk.block _ l4 fun e => (hF _ e).2.2.2 rfl)
theorem DiskAt.below (h : DiskAt w g gb gp gw K S) (hb : Below w.heap.size w w') : DiskAt w' g gb gp gw K S := h.keep (Keep.of_below hb []) (fun k hk => by cases hk)
theorem DiskAt.mono (h : DiskAt w g gb gp gw K S) {K' : Nat} (hK : K ≤ K') : DiskAt w g gb gp gw K' S := ⟨h.head, h.rows, h.b64, h.pend.mono hK, h.worn.mono hK, h.ne1, h.ne2, h.n1, h.n2, h.l1, h.l2⟩
/-- the struct's cells -/
theorem DiskAt.cells (h : DiskAt w g gb gp gw K S) : w.cell? ⟨g, 0, none⟩ = some (.slice (some ⟨gb, 0, none⟩) S.bl.length S.cap) ∧ w.cell? ⟨g, 1, none⟩ = some (.map (some gp)) ∧ w.cell? ⟨g, 2, none⟩ = some (.map (some gw)) ∧ w.cell? ⟨g, 3, none⟩ = some (.bool S.off) ∧ w.cell? ⟨g, 4, none⟩ = some (.int .i64 S.left) := by
  have := fun o => cell_of_row w g o _ 92 (0, 0) h.head
  exact ⟨this 0, this 1, this 2, this 3, this 4⟩
theorem DiskAt.free (h : DiskAt w g gb gp gw K S) (o : Nat) : w.frozen? ⟨g, o, none⟩ = false := by
  unfold World.frozen?
  rw [h.head]
  simp
theorem rows_length : ∀ bl : List Bs, (∀ b ∈ bl, b.length = 64) → (rowsOf bl).length = bl.length * 64
  | [], _ => rfl
  | b :: r, h => by
    have ih := rows_length r (fun x hx => h x (List.mem_cons_of_mem _ hx))
    have hb := h b (List.mem_cons_self ..)
    have e : rowsOf (b :: r) = cellsOfB b ++ rowsOf r := rfl
    rw [e, List.length_append, ih, cellsOfB, List.length_map, hb, List.length_cons]
    omega
theorem rows_at : ∀ (bl : List Bs) (_ : ∀ b ∈ bl, b.length = 64) (i k : Nat) (_ : k < 64), i < bl.length → (rowsOf bl)[i * 64 + k]? = some (.int .u8 (((bl.getD i []).getD k 0).toNat : Int))
  | [], _, i, k, _, hi => by simp at hi
  | b :: r, h, 0, k, hk, _ => by
    have hb := h b (List.mem_cons_self ..)
    have e : rowsOf (b :: r) = cellsOfB b ++ rowsOf r := rfl
    rw [e, List.getElem?_append_left (by rw [cellsOfB, List.length_map, hb]; omega), cellsOfB]
    simp [hb, hk]
  | b :: r, h, i + 1, k, hk, hi => by
    have hb := h b (List.mem_cons_self ..)
    have ih := rows_at r (fun x hx => h x (List.mem_cons_of_mem _ hx)) i k hk (by simpa using hi)
    have e : rowsOf (b :: r) = cellsOfB b ++ rowsOf r := rfl
    have el : (cellsOfB b).length = 64 := by rw [cellsOfB, List.length_map, hb]
    rw [e, List.getElem?_append_right (by rw [el]; omega), el, show (i + 1) * 64 + k - 64 = i * 64 + k from by omega, ih]
    simp
/-- a byte of a sector -/
theorem DiskAt.byte (h : DiskAt w g gb gp gw K S) {i k : Nat} (hi : i < S.bl.length) (hk : k < 64) : w.cell? ⟨gb, i * 64 + k, none⟩ = some (.int .u8 (((S.bl.getD i []).getD k 0).toNat : Int)) := by
  rw [cell_of_row w gb _ _ 99 (0, 0) h.rows, List.getElem?_toArray, List.getElem?_append_left (by rw [rows_length S.bl h.b64]; omega)]
  exact rows_at S.bl h.b64 i k hk hi
theorem DiskAt.rfree (h : DiskAt w g gb gp gw K S) (o : Nat) : w.frozen? ⟨gb, o, none⟩ = false := by
  unfold World.frozen?
  rw [h.rows]
  simp
end Go.Proofs.YtddpjahoeldleaaGreatDoor.Dk

namespace Go.Proofs.YtddpjahoeldleaaGreatDoor.Dk
open Go.RowKit Go.Maps

theorem block_setCell {w : World} {b : Nat} {t : TypeId} {cs : Array Value} (h : w.heap[b]? = some (.cells cs t (0, 0))) (i : Nat) (u : Value) : (w.setCell ⟨b, i, none⟩ u).heap[b]? = some (.cells (cs.setIfInBounds i u) t (0, 0)) := by
  simp [World.setCell, Array.getElem?_modify, h]
theorem DiskAt.setOff {w : World} {g gb gp gw K : Nat} {S : St} (h : DiskAt w g gb gp gw K S) (b : Bool) : DiskAt (w.setCell ⟨g, 3, none⟩ (.bool b)) g gb gp gw K { S with off := b } := by
  have ha := h.apart
  have k : ∀ j, j ≠ g → (w.setCell ⟨g, 3, none⟩ (.bool b)).heap[j]? = w.heap[j]? := fun j hj => Below.heap_setCell _ _ _ _ hj
  exact ⟨block_setCell h.head 3 (.bool b), (k _ (Ne.symm h.ne1)).trans h.rows, h.b64, ownsMap_block h.pend (k _ (Ne.symm ha.1)), ownsMap_block h.worn (k _ (Ne.symm ha.2.1)), h.ne1, h.ne2, h.n1, h.n2, h.l1, h.l2⟩
theorem DiskAt.setLeft {w : World} {g gb gp gw K : Nat} {S : St} (h : DiskAt w g gb gp gw K S) (n : Int) (l1 : -9223372036854775808 ≤ n) (l2 : n ≤ 9223372036854775807) : DiskAt (w.setCell ⟨g, 4, none⟩ (.int .i64 n)) g gb gp gw K { S with left := n } := by
  have ha := h.apart
  have k : ∀ j, j ≠ g → (w.setCell ⟨g, 4, none⟩ (.int .i64 n)).heap[j]? = w.heap[j]? := fun j hj => Below.heap_setCell _ _ _ _ hj
  exact ⟨block_setCell h.head 4 (.int .i64 n), (k _ (Ne.symm h.ne1)).trans h.rows, h.b64, ownsMap_block h.pend (k _ (Ne.symm ha.1)), ownsMap_block h.worn (k _ (Ne.symm ha.2.1)), h.ne1, h.ne2, h.n1, h.n2, l1, l2⟩

theorem len_any (w : World) (g gb gp gw K : Nat) (S : St) (h : DiskAt w g gb gp gw K S) : Calls Tryz.prog 43 #[.pointer (some ⟨g, 0, none⟩)] w (Ret (.int .i64 (S.bl.length : Int)) w) := by
  obtain ⟨c0, c1, c2, c3, c4⟩ := h.cells
  clear h
  go_enter Tryz.func43, Tryz.ntmps43
  go_wp2_with fail
  go_ret
  exact Ret.mk

/-- what a method with no result but the disk's change gives -/
def DPost (v : Value) (g gb gp gw K : Nat) (S : St) (w : World) : Ending → World → Prop := fun e w' => e = .returned v ∧ DiskAt w' g gb gp gw K S ∧ Keep [g, gb, gp, gw] w w'

def checkE (S : St) (i : Int) : Int := if S.off then 24 else if 0 ≤ i ∧ i < S.bl.length then 0 else 1
theorem check_any (w : World) (g gb gp gw K : Nat) (S : St) (h : DiskAt w g gb gp gw K S) (i : Int) (r : Int) (hr : Hid (checkE S i = r)) :
    Calls Tryz.prog 64 #[.pointer (some ⟨g, 0, none⟩), .int .i64 i] w (Ret (.int .i64 r) w) := by
  obtain ⟨c0, c1, c2, c3, c4⟩ := h.cells
  have n2 := h.n2
  obtain ⟨n, hn⟩ : ∃ n, n = S.bl.length := ⟨_, rfl⟩
  rw [← hn] at c0 n2
  cases ho : S.off
  · rw [ho] at c3
    have hr' : Hid ((if 0 ≤ i ∧ i < (n : Int) then 0 else 1) = r) := Lib.hid (by rw [← hr.out, checkE, ho, hn]; rfl)
    clear ho hr h hn
    by_cases h0 : 0 ≤ i
    · by_cases h1 : i < (n : Int)
      · go_enter Tryz.func64, Tryz.ntmps64
        go_wp2_with fail
        go_ret
        exact Ret.int (by rw [← hr'.out, if_pos ⟨h0, h1⟩])
      · go_enter Tryz.func64, Tryz.ntmps64
        go_wp2_with fail
        go_ret
        exact Ret.int (by rw [← hr'.out, if_neg (by omega)])
    · go_enter Tryz.func64, Tryz.ntmps64
      go_wp2_with fail
      go_ret
      exact Ret.int (by rw [← hr'.out, if_neg (by omega)])
  · rw [ho] at c3
    have hr' : Hid (24 = r) := Lib.hid (by rw [← hr.out, checkE, ho]; rfl)
    clear ho hr h hn
    go_enter Tryz.func64, Tryz.ntmps64
    go_wp2_with fail
    go_ret
    exact Ret.int hr'.out

def stepE (S : St) : Int := if S.left = 0 then 24 else 0
def stepS (S : St) : St := if S.left = 0 then { S with off := true } else if 0 < S.left then { S with left := S.left - 1 } else S
theorem DPost.ret {v : Value} {g gb gp gw K : Nat} {S S' : St} {w w' : World} (hS : S = S') (h : DiskAt w' g gb gp gw K S) (hk : Keep [g, gb, gp, gw] w w') : DPost v g gb gp gw K S' w (.returned v) w' := by rw [← hS]; exact ⟨rfl, h, hk⟩
theorem step_any (w : World) (g gb gp gw K : Nat) (S : St) (h : DiskAt w g gb gp gw K S) :
    Calls Tryz.prog 65 #[.pointer (some ⟨g, 0, none⟩)] w (DPost (.int .i64 (stepE S)) g gb gp gw K (stepS S) w) := by
  obtain ⟨c0, c1, c2, c3, c4⟩ := h.cells
  have f3 := h.free 3
  have f4 := h.free 4
  have l1 := h.l1
  have l2 := h.l2
  have h1 := h.setOff true
  by_cases h0 : S.left = 0
  · have HE : stepE S = 24 := by rw [stepE, if_pos h0]
    have HS := Lib.hid (show { S with off := true } = stepS S by rw [stepS, if_pos h0])
    rw [HE]
    rw [h0] at c4
    have H1 := Lib.hid h1
    have hk := Lib.hid ((Keep.refl [g, gb, gp, gw] w).setCell (a := ⟨g, 3, none⟩) (by simp) (.bool true))
    clear h h0 HE h1 l1 l2
    go_enter Tryz.func65, Tryz.ntmps65
    go_wp2_with fail
    go_ret
    exact DPost.ret HS.out H1.out hk.out
  · have HE : stepE S = 0 := by rw [stepE, if_neg h0]
    rw [HE]
    by_cases hp : 0 < S.left
    · have HS := Lib.hid (show { S with left := S.left - 1 } = stepS S by rw [stepS, if_neg h0, if_pos hp])
      have H2 := Lib.hid (h.setLeft (S.left - 1) (by omega) (by omega))
      have hk := Lib.hid ((Keep.refl [g, gb, gp, gw] w).setCell (a := ⟨g, 4, none⟩) (by simp) (.int .i64 (S.left - 1)))
      clear HE h1
      generalize S.left = n at *
      clear h
      go_enter Tryz.func65, Tryz.ntmps65
      go_wp2_with fail
      go_ret
      exact DPost.ret HS.out H2.out hk.out
    · have HS := Lib.hid (show S = stepS S by rw [stepS, if_neg h0, if_neg hp])
      have H2 := Lib.hid h
      clear HE h1 h
      generalize S.left = n at *
      go_enter Tryz.func65, Tryz.ntmps65
      go_wp2_with fail
      go_ret
      exact DPost.ret HS.out H2.out (Keep.refl _ _)
end Go.Proofs.YtddpjahoeldleaaGreatDoor.Dk

namespace Go.Proofs.YtddpjahoeldleaaGreatDoor.Dk
open Go.RowKit Go.Maps Go.Sort Go.Shelf

theorem sortsA (m : Nat) : AnyZI.SortsIn Tryz.prog Tryz.sorted_ren Fence.wide m :=
  ⟨fun blk off cap ss W hH hblk hsz => callsIn_wide.2 (AnyM.slices_Sort_int Tryz.sort blk off cap ss W hH hblk hsz),
   fun p cap W => callsIn_wide.2 (AnyM.slices_Sort_int_none Tryz.sort p cap W)⟩

def keysOf (D : Dt) : List Int := (intKeys D).mergeSort leI

set_option maxHeartbeats 1000000 in
theorem pending_raw (b nn : Nat) (D0 : Dt) (R : Value → Option (Dt × List MemPlace)) (g : Nat) (w : World) (c1 : w.cell? ⟨g, 1, none⟩ = some (.map (some b))) (hown : w.ownsMap Tryz.prog 3 R b nn D0) (hmax : Maps.size D0 ≤ maxLen) (hbytes : Maps.size D0 * 8 ≤ 140737488355328) :
    Calls Tryz.prog 50 #[.pointer (some ⟨g, 0, none⟩)] w fun e w' => ∃ (v : Value) (ss : List Int), e = .returned v ∧ ss.Perm (intKeys D0) ∧
      w'.ownsRow w.heap.size 3 1 v ss.length ((ss.mergeSort (fun x y => decide (x ≤ y))).map encZ) ∧ (v = .slice none 0 0 ↔ ss = []) ∧ Below w.heap.size w w' := by
  refine (callsIn_wide (n := 6)).1 ?_
  have hbl := hown.lt
  have hseq : SeqGives Fence.wide 2 Tryz.prog 98 #[.pointer (some ⟨w.heap.size, 0, none⟩)] encZ (fun ss => ss.Perm (intKeys D0)) (Maps.size D0) (w.alloc (.cells #[.map (some b)] 90)) :=
    AnyZI.keys_gives (ρ := Tryz.keysP_ren) { Tryz.keysP with } Fence.wide _ trivial rfl (by omega) w.heap.size b nn D0 _ (by simp) (by simp) (by
      obtain ⟨es, clock, hb, Ft, hs, hD⟩ := hown
      exact ⟨es, clock, (Below.heap_alloc _ _ b hbl).trans hb, Ft, hs, hD⟩)
  have cK : ∀ mb W, CallsIn Fence.wide 5 Tryz.prog 81 #[.map mb] W fun e w' => e = .returned (.func (.func 98) #[] #[.pointer (some ⟨W.heap.size, 0, none⟩)]) ∧ w' = W.alloc (.cells #[.map mb] 90) := fun mb W => AnyZI.keys_in Tryz.keysP Fence.wide 5 trivial rfl mb W
  have cS := AnyZI.sorted_in Tryz.sorted Fence.wide 5 trivial trivial trivial trivial rfl (by omega) (sortsA _) (enters_of Tryz.func97 (by kernel_rfl) rfl) 98 #[.pointer (some ⟨w.heap.size, 0, none⟩)] trivial (enters_of Tryz.func98 (by kernel_rfl) rfl) _ _ hmax hbytes _ hseq
  change CallsIn _ _ Tryz.prog 80 _ _ _ at cS
  have hfK : Fence.wide.fn 81 := trivial
  have hfS : Fence.wide.fn 80 := trivial
  refine callsIn_of_wp Tryz.func50 rfl trivial ?_ rfl
  simp only [Tryz.ntmps50, List.size_toArray, List.length_cons, List.length_nil, Nat.reduceAdd, Nat.reduceSub, Array.replicate_succ, Array.replicate_zero, List.push_toArray, List.append_toArray, List.nil_append, List.cons_append]
  gi_wp2_with (first
    | (gi_at_call 81; refine (cK _ _).mono ?_; rintro e w' ⟨rfl, rfl⟩)
    | (gi_at_call 80; refine cS.mono ?_; rintro e w' ⟨v, ss, rfl, hS, hrow, hnil, hb⟩))
  go_ret
  exact ⟨v, ss, rfl, hS, ownsRow_base_a hrow (by simp), hnil, ((Below.refl _ w).alloc (Nat.le_refl _) _).trans (hb.mono (by simp))⟩

def KeysPost (D : Dt) (w : World) : Ending → World → Prop := fun e w' => ∃ v, e = .returned v ∧ w'.ownsRow w.heap.size 3 1 v (keysOf D).length ((keysOf D).map encZ) ∧ Below w.heap.size w w'
theorem keys_len (D : Dt) (ss : List Int) (h : ss.Perm (intKeys D)) : ss.length = (keysOf D).length ∧ ss.mergeSort (fun x y => decide (x ≤ y)) = keysOf D := by
  refine ⟨?_, mergeSort_of_perm_i h⟩
  rw [keysOf, List.length_mergeSort, h.length_eq]
theorem pending_any (w : World) (g gb gp gw K : Nat) (S : St) (h : DiskAt w g gb gp gw K S) (hK : K ≤ 100000) : Calls Tryz.prog 50 #[.pointer (some ⟨g, 0, none⟩)] w (KeysPost S.pend w) := by
  have hs := h.pend.size_le
  refine (pending_raw gp K S.pend blockR g w h.cells.2.1 h.pend (by unfold maxLen; omega) (by omega)).mono ?_
  rintro e w' ⟨v, ss, rfl, hp, hrow, _, hb⟩
  obtain ⟨e1, e2⟩ := keys_len _ _ hp
  rw [e1, e2] at hrow
  exact ⟨v, rfl, hrow, hb⟩
end Go.Proofs.YtddpjahoeldleaaGreatDoor.Dk

namespace Go.Proofs.YtddpjahoeldleaaGreatDoor.Dk
open Go.RowKit Go.Maps

def zeroBs : Bs := List.replicate 64 0
theorem info70 : (Tryz.prog.info? 99).map (fun i => (i.zero, i.size)) = some (some (encB zeroBs), 64) := by kernel_rfl
theorem law3 : Keyed Tryz.prog 3 := int_keyed Tryz.underlying3
def kI (i : Int) : Lit := .int .i64 i
theorem key_i {i : Int} (h1 : -9223372036854775808 ≤ i) (h2 : i ≤ 9223372036854775807) : keyOf Tryz.prog 3 (.int .i64 i) = some (kI i) := keyOf_int_mk Tryz.underlying3 (WalkArith.wf_i64 (by omega))
/-- what the map of pending blocks gives -/
def pendB (D : Dt) (i : Int) : Bs := match D.atKey (kI i) (.lit (.string zeroBs)) with
  | .lit (.string b) => b
  | _ => zeroBs
theorem look_pend {w : World} {gp K : Nat} {D : Dt} (h : w.ownsMap Tryz.prog 3 blockR gp K D) {i : Int} (h1 : -9223372036854775808 ≤ i) (h2 : i ≤ 9223372036854775807) :
    (pendB D i).length = 64 ∧ (Instr.lookup 90 (.map (some gp)) (.int .i64 i) true).run Tryz.prog w = .ok (.tuple #[encB (pendB D i), .bool (Maps.has D (kI i))]) w ∧ (Instr.lookup 90 (.map (some gp)) (.int .i64 i) false).run Tryz.prog w = .ok (encB (pendB D i)) w := by
  obtain ⟨hz, _⟩ := zero_of_info info70
  obtain ⟨v, ps, hr, hv⟩ := h.look_ok law3 Tryz.underlying90 (hz w) (blockR_enc (b := zeroBs) rfl) (key_i h1 h2)
  obtain ⟨v', ps', hr', hv'⟩ := h.lookup law3 Tryz.underlying90 (hz w) (blockR_enc (b := zeroBs) rfl) (key_i h1 h2)
  obtain ⟨b, hb, rfl, hd, _⟩ := blockR_inv hv
  obtain ⟨b', hb', rfl, hd', _⟩ := blockR_inv hv'
  have e : pendB D i = b := by unfold pendB; rw [hd]
  have e' : pendB D i = b' := by unfold pendB; rw [hd']
  exact ⟨by rw [e]; exact hb, by rw [e]; exact hr, by rw [e']; exact hr'⟩
/-- the bytes of 64 cells as a string -/
theorem conv_bytes (W : World) (g o : Nat) (b : Bs) (hb : b.length = 64) (hc : ∀ k, k < 64 → W.cell? ⟨g, o + k, none⟩ = some (.int .u8 ((b.getD k 0).toNat : Int))) (C : Nat) :
    (convert 84 9 (.slice (some ⟨g, o, none⟩) 64 C)).run Tryz.prog W = .ok (.string ⟨b.toArray⟩) W := by
  have hs : (⟨b.toArray⟩ : ByteArray).size = 64 := by simp [ByteArray.size, hb]
  have := Lib.run_convert_whole W 84 5 9 Tryz.underlying84 Tryz.underlying5 Tryz.underlying9 g o ⟨b.toArray⟩ (fun i hi => by
    have hi' : i < 64 := by rw [← hs]; exact hi
    rw [hc i hi']
    simp only [List.getD_eq_getElem?_getD]
    rw [List.getElem?_eq_getElem (by omega)]
    rfl) C
  rwa [hs] at this
theorem new_cells (w : World) (b : Bs) (hb : b.length = 64) (k : Nat) (hk : k < 64) : (w.alloc (.cells (cellsOfB b).toArray 99)).cell? ⟨w.heap.size, 0 + k, none⟩ = some (.int .u8 ((b.getD k 0).toNat : Int)) := by
  rw [Nat.zero_add, World.cell?_alloc_at _ _ _ _ rfl]
  simp [cellsOfB, hb, hk]
theorem one_cells (b : Bs) : (cellsOfB b).toArray.all (·.oneCell') = true := by
  simp [cellsOfB, Value.oneCell']
theorem size_cells (b : Bs) (hb : b.length = 64) : (cellsOfB b).toArray.size = 64 := by simp [cellsOfB, hb]

def StrErr (b : Bs) (e : Int) : Value := .tuple #[.string ⟨b.toArray⟩, .int .i64 e]
def readB (S : St) (i : Int) : Bs := if checkE S i ≠ 0 then [] else if Maps.has S.pend (kI i) = true then pendB S.pend i else S.bl.getD i.toNat []
theorem RetB.tup {a b : Bs} {e : Int} {w w' : World} (h : a = b) (hb : Below w.heap.size w w') : RetB (StrErr b e) w (.returned (.tuple #[.string ⟨a.toArray⟩, .int .i64 e])) w' := by rw [h]; exact ⟨rfl, hb⟩

set_option maxHeartbeats 2000000 in
set_option maxRecDepth 100000 in
theorem read_any (w : World) (g gb gp gw K : Nat) (S : St) (h : DiskAt w g gb gp gw K S) (i : Int) (h1 : -9223372036854775808 ≤ i) (h2 : i ≤ 9223372036854775807) :
    Calls Tryz.prog 44 #[.pointer (some ⟨g, 0, none⟩), .int .i64 i] w (RetB (StrErr (readB S i) (checkE S i)) w) := by
  by_cases hc : checkE S i = 0
  · have hi : 0 ≤ i ∧ i < S.bl.length := by
      unfold checkE at hc
      split at hc
      · cases hc
      · split at hc
        · assumption
        · cases hc
    obtain ⟨b64, hl, _⟩ := look_pend h.pend h1 h2
    obtain ⟨c0, c1, c2, c3, c4⟩ := h.cells
    have HC := Lib.hid hc
    have H := Lib.hid h
    cases hh : Maps.has S.pend (kI i)
    · rw [hh] at hl
      obtain ⟨n, rfl⟩ := Int.eq_ofNat_of_zero_le hi.1
      have hn : n < S.bl.length := by omega
      have hn2 := h.n2
      have HB : Hid (S.bl.getD n [] = readB S n) := Lib.hid (by rw [readB, if_neg (by simp [hc]), if_neg (by rw [hh]; simp)]; rfl)
      have hbb : (S.bl.getD n []).length = 64 := by
        rw [List.getD_eq_getElem?_getD, List.getElem?_eq_getElem hn, Option.getD_some]
        exact h.b64 _ (List.getElem_mem hn)
      have hby := fun k hk => h.byte hn (k := k) hk
      generalize S.bl.getD n [] = bb at *
      generalize pendB S.pend (n : Int) = b at *
      obtain ⟨C, hC⟩ : ∃ C, C = (cellsOfB b).toArray := ⟨_, rfl⟩
      obtain ⟨Z, hZ⟩ : ∃ Z, Z = (cellsOfB zeroBs).toArray := ⟨_, rfl⟩
      have sC : C.size = 64 := by rw [hC]; exact size_cells b b64
      have sZ : Z.size = 64 := by rw [hZ]; rfl
      have hcv := conv_bytes (w.alloc (.cells C 99)) gb (n * 64) bb hbb (fun k hk => by
        rw [World.cell?_alloc_lt w _ ⟨gb, n * 64 + k, none⟩ h.lt.2.1]
        exact hby k hk) 64
      obtain ⟨hz, hsz⟩ := zero_of_info info70
      have hst := run_storeCells_new (P := Tryz.prog) w 99 Z C (by rw [sC]; exact hsz) (by rw [sC, sZ]) (by rw [hC]; exact one_cells b)
      rw [show encB b = .agg C from by rw [hC]; rfl] at hl
      rw [show encB zeroBs = .agg Z from by rw [hZ]; rfl] at hz
      obtain ⟨N, hN⟩ : ∃ N, N = S.bl.length := ⟨_, rfl⟩
      rw [← hN] at c0 hn hn2
      have c0' : (w.alloc (.cells C 99)).cell? ⟨g, 0, none⟩ = some (.slice (some ⟨gb, 0, none⟩) N S.cap) := (World.cell?_alloc_lt w _ ⟨g, 0, none⟩ h.lt.1).trans c0
      have hi1 : (n : Int) < (N : Int) := by omega
      have hi0 : (0 : Int) ≤ (n : Int) := by omega
      clear hh hc h hC hZ hsz hby hN hi h1
      go_enter Tryz.func44, Tryz.ntmps44
      go_wp2_with fail
      refine (check_any w g gb gp gw K S H.out n 0 HC).mono ?_
      rintro e w' ⟨rfl, rfl⟩
      go_wp2_with fail
      go_ret2
      rw [HC.out]
      exact RetB.tup HB.out (below_new w _)
    · rw [hh] at hl
      have HB : Hid (pendB S.pend i = readB S i) := Lib.hid (by rw [readB, if_neg (by simp [hc]), if_pos hh])
      generalize pendB S.pend i = b at *
      obtain ⟨C, hC⟩ : ∃ C, C = (cellsOfB b).toArray := ⟨_, rfl⟩
      obtain ⟨Z, hZ⟩ : ∃ Z, Z = (cellsOfB zeroBs).toArray := ⟨_, rfl⟩
      have sC : C.size = 64 := by rw [hC]; exact size_cells b b64
      have sZ : Z.size = 64 := by rw [hZ]; rfl
      have hcv := conv_bytes (w.alloc (.cells (cellsOfB b).toArray 99)) w.heap.size 0 b b64 (new_cells w b b64) 64
      obtain ⟨hz, hsz⟩ := zero_of_info info70
      have hst := run_storeCells_new (P := Tryz.prog) w 99 Z C (by rw [sC]; exact hsz) (by rw [sC, sZ]) (by rw [hC]; exact one_cells b)
      rw [show encB b = .agg C from by rw [hC]; rfl] at hl
      rw [show encB zeroBs = .agg Z from by rw [hZ]; rfl] at hz
      rw [← hC] at hcv
      clear hh hc h hC hZ hsz
      go_enter Tryz.func44, Tryz.ntmps44
      go_wp2_with fail
      refine (check_any w g gb gp gw K S H.out i 0 HC).mono ?_
      rintro e w' ⟨rfl, rfl⟩
      go_wp2_with fail
      go_ret2
      rw [HC.out]
      exact RetB.tup HB.out (below_new w _)
  · have HE := Lib.hid (show [] = readB S i by rw [readB, if_pos hc])
    have H := Lib.hid h
    clear h
    obtain ⟨E, hE⟩ : ∃ E, E = checkE S i := ⟨_, rfl⟩
    rw [← hE] at hc ⊢
    have HE2 := Lib.hid hE
    have hb : (E == 0) = false := beq_eq_false_iff_ne.2 hc
    clear hE
    go_enter Tryz.func44, Tryz.ntmps44
    go_wp2_with fail
    refine (check_any w g gb gp gw K S H.out i E (Lib.hid HE2.out.symm)).mono ?_
    rintro e w' ⟨rfl, rfl⟩
    go_wp2_with fail
    go_ret2
    exact RetB.tup HE.out (Below.refl _ _)
end Go.Proofs.YtddpjahoeldleaaGreatDoor.Dk

namespace Go.Proofs.YtddpjahoeldleaaGreatDoor.Dk
open Go.RowKit Go.Maps

theorem info5 : (Tryz.prog.info? 5).map (fun i => (i.zero, i.size, i.bytes)) = some (some (.int .u8 0), 1, 1) := by kernel_rfl
theorem info70b : (Tryz.prog.info? 99).map (fun i => (i.zero, i.size, i.bytes)) = some (some (encB zeroBs), 64, 64) := by kernel_rfl

def newS (n : Nat) : St := { bl := List.replicate n zeroBs, pend := .map [], worn := .map [], off := false, left := -1, cap := n, ext := [] }
theorem rows_zero (n : Nat) : rowsOf (List.replicate n zeroBs) = List.replicate (n * 64) (.int .u8 0) := by
  induction n with
  | zero => rfl
  | succ n ih =>
    rw [List.replicate_succ]
    have e : ∀ (b : Bs) (r : List Bs), rowsOf (b :: r) = cellsOfB b ++ rowsOf r := fun _ _ => rfl
    rw [e, ih, show cellsOfB zeroBs = List.replicate 64 (.int .u8 0) from rfl, List.replicate_append_replicate]
    congr 1
    omega
theorem made_zero (n : Nat) : (madeCells (encB zeroBs).cells (n * 64)).toList = List.replicate (n * 64) (.int .u8 0) := by
  have hz : (encB zeroBs).cells = Array.replicate 64 (.int .u8 0) := by rfl
  apply List.ext_getElem
  · simp [madeCells]
  · intro i h1 h2
    have : i % 64 < 64 := Nat.mod_lt _ (by omega)
    simp [madeCells, hz, this]

theorem four_new (w : World) (a b c d : Obj) : ((((w.alloc a).alloc b).alloc c).alloc d).heap[w.heap.size]? = some a ∧ ((((w.alloc a).alloc b).alloc c).alloc d).heap[w.heap.size + 1]? = some b ∧ ((((w.alloc a).alloc b).alloc c).alloc d).heap[w.heap.size + 2]? = some c ∧ ((((w.alloc a).alloc b).alloc c).alloc d).heap[w.heap.size + 3]? = some d := by
  have s1 : (w.alloc a).heap.size = w.heap.size + 1 := by simp
  have s2 : ((w.alloc a).alloc b).heap.size = w.heap.size + 2 := by simp
  have s3 : (((w.alloc a).alloc b).alloc c).heap.size = w.heap.size + 3 := by simp
  refine ⟨?_, ?_, ?_, ?_⟩
  · rw [heap_alloc_old _ _ (by omega), heap_alloc_old _ _ (by omega), heap_alloc_old _ _ (by omega), heap_alloc_new]
  · rw [heap_alloc_old _ _ (by omega), heap_alloc_old _ _ (by omega), ← s1, heap_alloc_new]
  · rw [heap_alloc_old _ _ (by omega), ← s2, heap_alloc_new]
  · rw [← s3, heap_alloc_new]
theorem ownsMap_empty {P : Program} {k : TypeId} {R : Value → Option (Dt × List MemPlace)} {w : World} {b : Nat} (h : w.heap[b]? = some (.map #[] 0)) : w.ownsMap P k R b 0 (.map []) := by
  obtain ⟨es, clock, hb, F, hs, hD⟩ := World.ownsMap_made (H := Unit) w P k R
  rw [heap_alloc_new] at hb
  injection hb with hb
  injection hb with e1 e2
  subst e1 e2
  exact ⟨#[], 0, h, F, hs, hD⟩

def NewPost (n : Nat) (w : World) (e : Ending) (w' : World) : Prop :=
  ∃ g gb gp gw, e = .returned (.tuple #[.pointer (some ⟨g, 0, none⟩), .int .i64 0]) ∧ DiskAt w' g gb gp gw 0 (newS n) ∧ Below w.heap.size w w' ∧ w.heap.size ≤ g ∧ w.heap.size ≤ gb ∧ w.heap.size ≤ gp ∧ w.heap.size ≤ gw

theorem new_bad (w : World) (i : Int) (h1 : -9223372036854775808 ≤ i) (h2 : i ≤ 9223372036854775807) (h : i < 1 ∨ 4096 < i) : Calls Tryz.prog 20 #[.int .i64 i] w (Ret (.tuple #[.pointer none, .int .i64 1]) w) := by
  rcases h with h | h
  · go_enter Tryz.func20, Tryz.ntmps20
    go_wp2_with fail
    go_ret2
    exact Ret.mk
  · go_enter Tryz.func20, Tryz.ntmps20
    go_wp2_with fail
    go_ret2
    exact Ret.mk
theorem new_any (w : World) (n : Nat) (h1 : 1 ≤ n) (h2 : n ≤ 4096) : Calls Tryz.prog 20 #[.int .i64 (n : Int)] w (NewPost n w) := by
  obtain ⟨i0, hi, hz0, hz1, hz2⟩ := info_parts info70b
  have hmk := run_make_rowN (P := Tryz.prog) 89 99 i0 _ Tryz.underlying89 hi hz0 .i64 .i64 n n (Nat.le_refl _) (by rw [hz2]; omega) (by omega) w
  rw [hz1] at hmk
  have hC := made_zero n
  generalize madeCells (encB zeroBs).cells (n * 64) = C at *
  have HC := Lib.hid hC
  have hmm := @run_makeMap Tryz.prog
  have d1 : decide ((n : Int) < 1) = false := by simp; omega
  have d2 : decide ((4096 : Int) < (n : Int)) = false := by simp; omega
  clear hC hz0 hz1 hz2 hi
  go_enter Tryz.func20, Tryz.ntmps20
  go_wp2_with fail
  go_ret2
  obtain ⟨q1, q2, q3, q4⟩ := four_new w (.cells C 99) (.map #[] 0) (.map #[] 0) (.cells #[.slice (some ⟨w.heap.size, 0, none⟩) n n, .map (some (w.heap.size + 1)), .map (some (w.heap.size + 2)), .bool false, .int .i64 (-1)] 92)
  have hl : (List.replicate n zeroBs).length = n := by simp
  refine ⟨w.heap.size + 3, w.heap.size, w.heap.size + 1, w.heap.size + 2, rfl, ⟨?_, ?_, ?_, ownsMap_empty q2, ownsMap_empty q3, by omega, by omega, ?_, ?_, (by show (-9223372036854775808 : Int) ≤ -1; decide), (by show (-1 : Int) ≤ 9223372036854775807; decide)⟩, ?_, by omega, by omega, by omega, by omega⟩
  · rw [show (newS n).bl.length = n from hl]; exact q4
  · rw [show rowsOf (newS n).bl ++ (newS n).ext = C.toList from (List.append_nil _).trans ((rows_zero n).trans HC.out.symm)]; exact q1
  · intro b hb
    rw [(List.mem_replicate.1 hb).2]
    rfl
  · rw [show (newS n).bl.length = n from hl]; exact h1
  · rw [show (newS n).bl.length = n from hl]; exact h2
  · exact ((((Below.refl _ w).alloc (Nat.le_refl _) _).alloc (by simp) _).alloc (by simp; omega) _).alloc (by simp; omega) _

def fillTo (c : UInt8) (k : Nat) : List Value := (List.range 64).map fun i => .int .u8 (if i < k then (c.toNat : Int) else 0)
theorem fill_step (c : UInt8) (k : Nat) : (fillTo c k).set k (.int .u8 (c.toNat : Int)) = fillTo c (k + 1) := by
  apply List.ext_getElem
  · simp [fillTo]
  · intro i h1 h2
    rw [List.getElem_set]
    simp only [fillTo, List.getElem_map, List.getElem_range]
    by_cases e : k = i
    · subst e; rw [if_pos rfl, if_pos (by omega)]
    · rw [if_neg e]
      by_cases h : i < k
      · rw [if_pos h, if_pos (by omega)]
      · rw [if_neg h, if_neg (by omega)]
theorem fill_zero (c : UInt8) : List.replicate 64 (Value.int .u8 0) = fillTo c 0 := by
  apply List.ext_getElem
  · rw [List.length_replicate]; simp [fillTo]
  · intro i h1 h2
    rw [List.getElem_replicate]
    simp only [fillTo, List.getElem_map, List.getElem_range]
    rw [if_neg (by omega)]
def fullB (c : UInt8) : Bs := List.replicate 64 c
theorem fullB_at (c : UInt8) (j : Nat) (hj : j < 64) : (fullB c).getD j 0 = c := by
  rw [fullB, List.getD_eq_getElem?_getD, List.getElem?_replicate, if_pos hj]; rfl
theorem fill_at (c : UInt8) (j : Nat) (hj : j < 64) : (fillTo c 64)[j]? = some (.int .u8 (c.toNat : Int)) := by
  rw [fillTo, List.getElem?_map, List.getElem?_range hj]
  simp [hj]
theorem RetB.str {a b : Bs} {w w' : World} (h : a = b) (hb : Below w.heap.size w w') : RetB (str b) w (.returned (.string ⟨a.toArray⟩)) w' := by rw [h]; exact ⟨rfl, hb⟩

end Go.Proofs.YtddpjahoeldleaaGreatDoor.Dk

namespace Go.Proofs.YtddpjahoeldleaaGreatDoor.Dk
open Go.RowKit Go.Maps

theorem run_load64 (W : World) (g : Nat) (b : Bs) (hb : b.length = 64) (hc : ∀ j, j < 64 → W.cell? ⟨g, j, none⟩ = some (.int .u8 ((b.getD j 0).toNat : Int))) :
    (loadCellsFrom ⟨g, 0, none⟩ 0 64 #[]).run Tryz.prog W = .ok (cellsOfB b).toArray W := by
  have hl : (cellsOfB b).length = 64 := by rw [cellsOfB, List.length_map, hb]
  have := run_loadCells_list (P := Tryz.prog) W ⟨g, 0, none⟩ (cellsOfB b) (fun j v hv => by
    have hj : j < 64 := by rw [← hl]; exact (List.getElem?_eq_some_iff.1 hv).1
    have hadd : (⟨g, 0, none⟩ : Addr).add j = ⟨g, j, none⟩ := by unfold Addr.add; split <;> simp_all
    rw [hadd, hc j hj, ← hv, cellsOfB, List.getElem?_map, List.getD_eq_getElem?_getD, List.getElem?_eq_getElem (by omega)]
    rfl)
  rw [hl] at this
  exact this

theorem DiskAt.setPend {w w' : World} {g gb gp gw K : Nat} {S : St} (h : DiskAt w g gb gp gw K S) {D : Dt} {K' : Nat} (hm : w'.ownsMap Tryz.prog 3 blockR gp K' D) (ht : w.mapTurned w' gp) (hK : K ≤ K') : DiskAt w' g gb gp gw K' { S with pend := D } := by
  have ha := h.apart
  have hl := h.lt
  have k : ∀ j, j < w.heap.size → j ≠ gp → w'.heap[j]? = w.heap[j]? := fun j hj hne => ht.grown.block j hj (by simp; exact fun e => hne e)
  exact ⟨(k _ hl.1 ha.1).trans h.head, (k _ hl.2.1 ha.2.2.1).trans h.rows, h.b64, hm, (ownsMap_block h.worn (k _ hl.2.2.2 (Ne.symm h.ne2))).mono hK, h.ne1, h.ne2, h.n1, h.n2, h.l1, h.l2⟩
theorem DiskAt.setWorn {w w' : World} {g gb gp gw K : Nat} {S : St} (h : DiskAt w g gb gp gw K S) {D : Dt} {K' : Nat} (hm : w'.ownsMap Tryz.prog 3 (plainElem Tryz.prog 4) gw K' D) (ht : w.mapTurned w' gw) (hK : K ≤ K') : DiskAt w' g gb gp gw K' { S with worn := D } := by
  have ha := h.apart
  have hl := h.lt
  have k : ∀ j, j < w.heap.size → j ≠ gw → w'.heap[j]? = w.heap[j]? := fun j hj hne => ht.grown.block j hj (by simp; exact fun e => hne e)
  exact ⟨(k _ hl.1 ha.2.1).trans h.head, (k _ hl.2.1 ha.2.2.2).trans h.rows, h.b64, (ownsMap_block h.pend (k _ hl.2.2.1 h.ne2)).mono hK, hm, h.ne1, h.ne2, h.n1, h.n2, h.l1, h.l2⟩

def isB (S : St) (i : Int) : Bool := decide (0 ≤ i ∧ i < S.bl.length)
def wearE (S : St) (i : Int) : Int := if isB S i then 0 else 1
def wearS (S : St) (i : Int) : St := if isB S i then { S with worn := S.worn.put (kI i) (.lit (.bool true)) } else S
set_option maxRecDepth 100000 in
theorem wear_any (w : World) (g gb gp gw K : Nat) (S : St) (h : DiskAt w g gb gp gw K S) (hK : K ≤ 100000) (i : Int) (h1 : -9223372036854775808 ≤ i) (h2 : i ≤ 9223372036854775807) :
    Calls Tryz.prog 29 #[.pointer (some ⟨g, 0, none⟩), .int .i64 i] w (DPost (.int .i64 (wearE S i)) g gb gp gw (K + 1) (wearS S i) w) := by
  obtain ⟨c0, c1, c2, c3, c4⟩ := h.cells
  have n2 := h.n2
  have H := Lib.hid h
  obtain ⟨n, hn⟩ : ∃ n, n = S.bl.length := ⟨_, rfl⟩
  rw [← hn] at c0 n2
  by_cases hi : 0 ≤ i ∧ i < n
  · have he : isB S i = true := by simp only [isB, decide_eq_true_eq]; omega
    have hE : wearE S i = 0 := by rw [wearE, he]; rfl
    have HS := Lib.hid (show { S with worn := S.worn.put (kI i) (.lit (.bool true)) } = wearS S i by rw [wearS, he]; rfl)
    obtain ⟨w1, hr, hm, ht⟩ := h.worn.store law3 Tryz.underlying63 (by unfold maxLen; omega) (key_i h1 h2) (plainElem_bool Tryz.underlying4 true)
    have HD := Lib.hid (h.setWorn hm ht (by omega))
    have HT := Lib.hid ht
    rw [hE]
    obtain ⟨i0, i1⟩ := hi
    clear he hE h hn hm ht
    go_enter Tryz.func29, Tryz.ntmps29
    go_wp2_with fail
    go_ret
    exact DPost.ret HS.out HD.out ((Keep.refl _ _).turned HT.out (by simp))
  · have he : isB S i = false := by simp only [isB, decide_eq_false_iff_not]; omega
    have hE : wearE S i = 1 := by rw [wearE, he]; rfl
    have HS := Lib.hid (show S = wearS S i by rw [wearS, he]; rfl)
    have HD := Lib.hid (h.mono (K' := K + 1) (by omega))
    rw [hE]
    clear he hE h hn
    by_cases h0 : 0 ≤ i
    · go_enter Tryz.func29, Tryz.ntmps29
      go_wp2_with fail
      go_ret
      exact DPost.ret HS.out HD.out (Keep.refl _ _)
    · go_enter Tryz.func29, Tryz.ntmps29
      go_wp2_with fail
      go_ret
      exact DPost.ret HS.out HD.out (Keep.refl _ _)

def writeE (S : St) (i : Int) (b : Bs) : Int := if checkE S i ≠ 0 then checkE S i else if b.length ≠ 64 then 1 else stepE S
def writeS (S : St) (i : Int) (b : Bs) : St := if checkE S i ≠ 0 ∨ b.length ≠ 64 then S else if stepE S ≠ 0 then stepS S else { stepS S with pend := (stepS S).pend.put (kI i) (.lit (.string b)) }
set_option maxHeartbeats 4000000 in
set_option maxRecDepth 100000 in
theorem write_all (w : World) (g gb gp gw K : Nat) (S : St) (h : DiskAt w g gb gp gw K S) (hK : K ≤ 100000) (i : Int) (h1 : -9223372036854775808 ≤ i) (h2 : i ≤ 9223372036854775807) (s : ByteArray) :
    Calls Tryz.prog 32 #[.pointer (some ⟨g, 0, none⟩), .int .i64 i, .string s] w (DPost (.int .i64 (writeE S i s.data.toList)) g gb gp gw (K + 1) (writeS S i s.data.toList) w) := by
  have hls : s.data.toList.length = s.size := by simp
  by_cases hc : checkE S i = 0
  · by_cases h64 : s.size = 64
    · have l64 : s.data.toList.length = 64 := by rw [hls, h64]
      have hE : writeE S i s.data.toList = stepE S := by rw [writeE, if_neg (by simp [hc]), if_neg (by simp [l64])]
      have hS : writeS S i s.data.toList = if stepE S ≠ 0 then stepS S else { stepS S with pend := (stepS S).pend.put (kI i) (.lit (.string s.data.toList)) } := by rw [writeS, if_neg (by simp [hc, l64])]
      rw [hE]
      have HS := Lib.hid hS
      have H := Lib.hid h
      have HC := Lib.hid hc
      obtain ⟨b, hb⟩ : ∃ b, b = s.data.toList := ⟨_, rfl⟩
      rw [← hb] at l64 HS ⊢
      have HB := Lib.hid hb
      obtain ⟨E, hEE⟩ : ∃ E, E = stepE S := ⟨_, rfl⟩
      rw [← hEE] at HS ⊢
      have HEE := Lib.hid hEE
      have hf : (s.size : Int) = 64 := by omega
      clear h hc hE hS hb hEE hls
      go_enter Tryz.func32, Tryz.ntmps32
      go_wp2_with fail
      refine (check_any w g gb gp gw K S H.out i 0 HC).mono ?_
      rintro e w' ⟨rfl, rfl⟩
      go_wp2_with fail
      refine (step_any w g gb gp gw K S H.out).mono ?_
      rintro e w2 ⟨rfl, h3, k3⟩
      rw [← HEE.out]
      by_cases hE0 : E = 0
      · subst hE0
        obtain ⟨c0, c1, c2, c3, c4⟩ := h3.cells
        have hlt := h3.lt
        have hcv := Lib.run_convert_string_bytes (P := Tryz.prog) w2.drew 9 84 5 s Tryz.underlying9 Tryz.underlying84 Tryz.underlying5
        have hbl : Below w2.heap.size w2 (Lib.bytesWorld w2.drew 5 s) := ⟨rfl, rfl, rfl, by rw [Lib.bytesWorld_size]; exact Nat.le_succ _, fun k hk => Lib.bytesWorld_at_old w2.drew 5 s k hk⟩
        have h4 := h3.below hbl
        have c1' := h4.cells.2.1
        have hra : (Lib.bytesWorld w2.drew 5 s).rangeAt w2.heap.size 0 (cellsOfB b) := fun j v hv => by
          have hl : (cellsOfB b).length = 64 := by rw [cellsOfB, List.length_map, l64]
          have hj : j < 64 := by rw [← hl]; exact (List.getElem?_eq_some_iff.1 hv).1
          rw [Nat.zero_add]
          refine (Lib.bytesWorld_cell w2.drew 5 s j (by omega)).trans ?_
          rw [← hv, cellsOfB, List.getElem?_map, HB.out, List.getD_eq_getElem?_getD, List.getElem?_eq_getElem (by rw [← HB.out]; omega)]
          rfl
        have hi70 : (Tryz.prog.info? 99).map (·.size) = some (cellsOfB b).length := by
          rw [show (cellsOfB b).length = 64 from by rw [cellsOfB, List.length_map, l64]]
          exact (zero_of_info info70).2
        have hu70 := Tryz.underlying99
        obtain ⟨w5, hr, hm, ht⟩ := h4.pend.store law3 Tryz.underlying90 (by unfold maxLen; omega) (key_i h1 h2) (blockR_enc l64)
        rw [show encB b = .agg (cellsOfB b).toArray from rfl] at hr
        have H5 := Lib.hid (h4.setPend hm ht (by omega))
        have c1x := (h4.setPend hm ht (K' := K + 1) (by omega)).cells.2.1
        have HT := Lib.hid ht
        have HBL := Lib.hid hbl
        have K3 := Lib.hid k3
        rw [h64] at hcv
        have har := run_arrayAt (P := Tryz.prog) (Lib.bytesWorld w2.drew 5 s) 99 5 64 (some ⟨w2.heap.size, 0, none⟩) 64 (grownCap w2.drew 64 0 5) Tryz.underlying99 (Nat.le_refl _)
        clear h3 h4 hbl hm ht k3
        generalize Lib.bytesWorld w2.drew 5 s = w4 at *
        generalize grownCap w2.drew 64 0 5 = cp at *
        go_wp2_with fail
        refine wp_region_held_drew (S := fun W => W.cell? ⟨g, 1, none⟩ = some (.map (some gp))) (by kernel_rfl) c1 (fun hHeld => ?_)
        refine wpAnyH_take (i := 0) (v := ?v0) rfl (by kernel_rfl) (by kernel_rfl) (by kernel_rfl) (fun _ _ _ h => h) (Or.inl ⟨by rfl, ?y0⟩) (by assumption) ?r0
        case y0 => intro w hSw; (try dsimp only at hSw); go_simp; try with_reducible rfl
        simp only [Act.put]
        refine wpAnyH_take (i := 1) (v := ?v1) rfl (by kernel_rfl) (by kernel_rfl) (by kernel_rfl) (fun _ _ _ h => h) (Or.inl ⟨by rfl, ?y1⟩) (by assumption) ?r1
        case y1 => intro w hSw; (try dsimp only at hSw); go_simp; try with_reducible rfl
        simp only [Act.put]
        refine wpAnyH_take (i := 2) (v := ?v2) rfl (by kernel_rfl) (by kernel_rfl) (by kernel_rfl) (fun _ _ _ h => h) (Or.inl ⟨by rfl, ?y2⟩) (by assumption) ?r2
        case y2 => intro w hSw; (try dsimp only at hSw); go_simp; try with_reducible rfl
        simp only [Act.put]
        refine wpAnyH_take (i := 3) (v := ?v3) rfl (by kernel_rfl) (by kernel_rfl) (by kernel_rfl) (fun _ _ _ h => h) (Or.inl ⟨by rfl, ?y3⟩) (by assumption) ?r3
        case y3 => intro w hSw; (try dsimp only at hSw); go_simp; try with_reducible rfl
        simp only [Act.put]
        refine wpAnyH_take (i := 4) (v := ?v4) rfl (by kernel_rfl) (by kernel_rfl) (by kernel_rfl) (fun _ _ _ h => h) (Or.inl ⟨by rfl, ?y4⟩) (by assumption) ?r4
        case y4 => intro w hSw; (try dsimp only at hSw); go_simp; try with_reducible rfl
        simp only [Act.put]
        refine wpAnyH_take (i := 5) (v := ?v5) rfl (by kernel_rfl) (by kernel_rfl) (by kernel_rfl) (fun _ _ _ h => h) (Or.inl ⟨by rfl, ?y5⟩) (by assumption) ?r5
        case y5 => intro w hSw; (try dsimp only at hSw); go_simp; try with_reducible rfl
        simp only [Act.put]
        refine wpAnyH_ready (rs := [6]) (by kernel_rfl) (by simp) ?_
        refine AllReadyH.cons rfl (fun K hK => ?_) AllReadyH.nil
        go_simp
        refine hK.out _ _ c1' (fun hHeld => ?_)
        clear hK K
        try simp only [Act.put]
        refine wpAnyH_ready (rs := [7]) (by kernel_rfl) (by simp) ?_
        refine AllReadyH.cons rfl (fun K hK => ?_) AllReadyH.nil
        go_simp
        refine hK.out _ _ c1' (fun hHeld => ?_)
        clear hK K
        try simp only [Act.put]
        refine wpAnyH_ready (rs := [8]) (by kernel_rfl) (by simp) ?_
        refine AllReadyH.cons rfl (fun K hK => ?_) AllReadyH.nil
        rw [if_pos (by rfl)]
        refine wp_load_mid _ _ rfl _ _ rfl (cellsOfB b) _ hra hu70 rfl hi70 ?_
        refine hK.out _ _ c1' (fun hHeld => ?_)
        clear hK K
        simp only [Act.put]
        refine wpAnyH_ready (rs := [9]) (by kernel_rfl) (by simp) ?_
        refine AllReadyH.cons rfl (fun K hK => ?_) AllReadyH.nil
        go_simp
        refine hK.out _ _ c1x (fun hHeld => ?_)
        clear hK K
        refine wpAnyH_done (by kernel_rfl) ?_ _
        go_wp2_with fail
        go_ret
        exact DPost.ret (by rw [HS.out, if_neg (by simp)]) H5.out ((K3.out.trans (Keep.of_below HBL.out _)).turned HT.out (by simp))
      · have hb : (E == 0) = false := beq_eq_false_iff_ne.2 hE0
        have H3 := Lib.hid h3
        have K3 := Lib.hid k3
        clear h3 k3
        go_wp2_with fail
        go_ret
        exact DPost.ret (by rw [HS.out, if_pos hE0]) (H3.out.mono (by omega)) K3.out
    · have hE : writeE S i s.data.toList = 1 := by rw [writeE, if_neg (by simp [hc]), if_pos (by rw [hls]; exact h64)]
      have HS := Lib.hid (show S = writeS S i s.data.toList by rw [writeS, if_pos (.inr (by rw [hls]; exact h64))])
      rw [hE]
      have H := Lib.hid h
      have HC := Lib.hid hc
      have hf : ((s.size : Int) == 64) = false := beq_eq_false_iff_ne.2 (by omega)
      clear h hc hE hls h64
      go_enter Tryz.func32, Tryz.ntmps32
      go_wp2_with fail
      refine (check_any w g gb gp gw K S H.out i 0 HC).mono ?_
      rintro e w' ⟨rfl, rfl⟩
      go_wp2_with fail
      go_ret
      exact DPost.ret HS.out (H.out.mono (by omega)) (Keep.refl _ _)
  · have hE : writeE S i s.data.toList = checkE S i := by rw [writeE, if_pos hc]
    have HS := Lib.hid (show S = writeS S i s.data.toList by rw [writeS, if_pos (.inl hc)])
    rw [hE]
    obtain ⟨E, hEE⟩ : ∃ E, E = checkE S i := ⟨_, rfl⟩
    rw [← hEE] at hc ⊢
    have HE := Lib.hid hEE.symm
    have hb : (E == 0) = false := beq_eq_false_iff_ne.2 hc
    have H := Lib.hid h
    clear h hE hls hEE
    go_enter Tryz.func32, Tryz.ntmps32
    go_wp2_with fail
    refine (check_any w g gb gp gw K S H.out i E HE).mono ?_
    rintro e w' ⟨rfl, rfl⟩
    go_wp2_with fail
    go_ret
    exact DPost.ret HS.out (H.out.mono (by omega)) (Keep.refl _ _)
theorem write_any (w : World) (g gb gp gw K : Nat) (S : St) (h : DiskAt w g gb gp gw K S) (hK : K ≤ 100000) (i : Int) (h1 : -9223372036854775808 ≤ i) (h2 : i ≤ 9223372036854775807) (s : ByteArray) (_hs : s.size ≤ 9223372036854775807) :
    Calls Tryz.prog 32 #[.pointer (some ⟨g, 0, none⟩), .int .i64 i, .string s] w (DPost (.int .i64 (writeE S i s.data.toList)) g gb gp gw (K + 1) (writeS S i s.data.toList) w) :=
  write_all w g gb gp gw K S h hK i h1 h2 s
end Go.Proofs.YtddpjahoeldleaaGreatDoor.Dk

namespace Go.Proofs.YtddpjahoeldleaaGreatDoor.Dk
open Go.RowKit Go.Maps

theorem shl_one (m : Nat) (hm : m < 8) : IntKind.u8.wrap (2 ^ m) = (((1 : UInt8) <<< (UInt8.ofNat m)).toNat : Int) := by
  match m, hm with
  | 0, _ => rfl
  | 1, _ => rfl
  | 2, _ => rfl
  | 3, _ => rfl
  | 4, _ => rfl
  | 5, _ => rfl
  | 6, _ => rfl
  | 7, _ => rfl
theorem xor_u8 (x y : UInt8) : bits .xor .u8 (x.toNat : Int) (y.toNat : Int) = ((x ^^^ y).toNat : Int) := by
  have e : ∀ z : UInt8, BitVec.ofInt 8 (z.toNat : Int) = z.toBitVec := fun z => by
    apply BitVec.eq_of_toNat_eq
    rw [BitVec.ofInt_natCast]
    simp
  have h : IntKind.u8.wrap ((x ^^^ y).toNat : Int) = ((x ^^^ y).toNat : Int) := by
    have := (x ^^^ y).toNat_lt
    exact wraps_u8 _ (by omega) (by omega)
  have h2 : bits .xor .u8 (x.toNat : Int) (y.toNat : Int) = IntKind.u8.wrap ((BitVec.ofInt 8 (x.toNat : Int) ^^^ BitVec.ofInt 8 (y.toNat : Int)).toNat : Int) := rfl
  rw [h2, e, e, show (x.toBitVec ^^^ y.toBitVec).toNat = (x ^^^ y).toNat from rfl, h]

theorem rows_set : ∀ (bl : List Bs) (_ : ∀ b ∈ bl, b.length = 64) (i k : Nat) (_ : k < 64) (_ : i < bl.length) (z : UInt8), (rowsOf bl).set (i * 64 + k) (.int .u8 (z.toNat : Int)) = rowsOf (bl.set i ((bl.getD i []).set k z))
  | [], _, i, k, _, hi, _ => by simp at hi
  | b :: r, h, 0, k, hk, _, z => by
    have hb := h b (List.mem_cons_self ..)
    have e : ∀ (b : Bs) (r : List Bs), rowsOf (b :: r) = cellsOfB b ++ rowsOf r := fun _ _ => rfl
    rw [List.set_cons_zero, List.getD_cons_zero, e, e, List.set_append_left _ _ (by rw [cellsOfB, List.length_map, hb]; omega)]
    congr 1
    rw [cellsOfB, cellsOfB, Nat.zero_mul, Nat.zero_add, List.map_set]
  | b :: r, h, i + 1, k, hk, hi, z => by
    have hb := h b (List.mem_cons_self ..)
    have ih := rows_set r (fun x hx => h x (List.mem_cons_of_mem _ hx)) i k hk (by simpa using hi) z
    have e : ∀ (b : Bs) (r : List Bs), rowsOf (b :: r) = cellsOfB b ++ rowsOf r := fun _ _ => rfl
    have el : (cellsOfB b).length = 64 := by rw [cellsOfB, List.length_map, hb]
    rw [List.set_cons_succ, List.getD_cons_succ, e, e, List.set_append_right _ _ (by rw [el]; omega), el, show (i + 1) * 64 + k - 64 = i * 64 + k from by omega, ih]
theorem DiskAt.setByte {w : World} {g gb gp gw K : Nat} {S : St} (h : DiskAt w g gb gp gw K S) {i k : Nat} (hi : i < S.bl.length) (hk : k < 64) (z : UInt8) :
    DiskAt (w.setCell ⟨gb, i * 64 + k, none⟩ (.int .u8 (z.toNat : Int))) g gb gp gw K { S with bl := S.bl.set i ((S.bl.getD i []).set k z) } := by
  have ha := h.apart
  have hl : (S.bl.set i ((S.bl.getD i []).set k z)).length = S.bl.length := List.length_set
  have q : ∀ j, j ≠ gb → (w.setCell ⟨gb, i * 64 + k, none⟩ (.int .u8 (z.toNat : Int))).heap[j]? = w.heap[j]? := fun j hj => Below.heap_setCell _ _ _ _ hj
  refine ⟨?_, ?_, ?_, ownsMap_block h.pend (q _ (Ne.symm ha.2.2.1)), ownsMap_block h.worn (q _ (Ne.symm ha.2.2.2)), h.ne1, h.ne2, by rw [hl]; exact h.n1, by rw [hl]; exact h.n2, h.l1, h.l2⟩
  · rw [q _ h.ne1, h.head, hl]
  · rw [block_setCell h.rows, ← rows_set S.bl h.b64 i k hk hi z, List.setIfInBounds_toArray, List.set_append_left _ _ (by rw [rows_length S.bl h.b64]; omega)]
  · intro b hb
    rcases List.mem_or_eq_of_mem_set hb with hb | hb
    · exact h.b64 b hb
    · rw [hb, List.length_set, List.getD_eq_getElem?_getD, List.getElem?_eq_getElem hi, Option.getD_some]
      exact h.b64 _ (List.getElem_mem hi)

def bitOf (m : Nat) : UInt8 := (1 : UInt8) <<< (UInt8.ofNat (m % 8))
/-- a sector with one bit turned -/
def flipB (b : Bs) (m : Nat) : Bs := b.set (m / 8) (b.getD (m / 8) 0 ^^^ bitOf m)
def rotOK (S : St) (i bit : Int) : Bool := isB S i && decide (0 ≤ bit ∧ bit < 512)
def rotE (S : St) (i bit : Int) : Int := if rotOK S i bit then 0 else 1
def rotS (S : St) (i bit : Int) : St := if rotOK S i bit then { S with bl := S.bl.set i.toNat (flipB (S.bl.getD i.toNat []) bit.toNat) } else S

set_option maxHeartbeats 4000000 in
set_option maxRecDepth 100000 in
theorem rot_any (w : World) (g gb gp gw K : Nat) (S : St) (h : DiskAt w g gb gp gw K S) (i : Int) (bit : Int) :
    Calls Tryz.prog 27 #[.pointer (some ⟨g, 0, none⟩), .int .i64 i, .int .i64 bit] w (DPost (.int .i64 (rotE S i bit)) g gb gp gw K (rotS S i bit) w) := by
  obtain ⟨c0, c1, c2, c3, c4⟩ := h.cells
  have n2 := h.n2
  have H := Lib.hid h
  by_cases hr : rotOK S i bit = true
  · have hE : rotE S i bit = 0 := by rw [rotE, hr]; rfl
    have HS := Lib.hid (show { S with bl := S.bl.set i.toNat (flipB (S.bl.getD i.toNat []) bit.toNat) } = rotS S i bit by rw [rotS, hr]; rfl)
    rw [hE]
    simp only [rotOK, isB, Bool.and_eq_true, decide_eq_true_eq] at hr
    obtain ⟨⟨i0, i1⟩, m0, m1⟩ := hr
    obtain ⟨k, rfl⟩ := Int.eq_ofNat_of_zero_le i0
    obtain ⟨m, rfl⟩ := Int.eq_ofNat_of_zero_le m0
    have hk : k < S.bl.length := by omega
    obtain ⟨d, hd⟩ : ∃ d, d = m / 8 := ⟨_, rfl⟩
    obtain ⟨r, hr⟩ : ∃ r, r = m % 8 := ⟨_, rfl⟩
    have hm : d < 64 := by omega
    have hby := h.byte hk hm
    have hfz := h.rfree (k * 64 + d)
    obtain ⟨n, hn⟩ : ∃ n, n = S.bl.length := ⟨_, rfl⟩
    rw [← hn] at c0 i1 hk n2
    obtain ⟨x, hx⟩ : ∃ x, x = (S.bl.getD k []).getD d 0 := ⟨_, rfl⟩
    rw [← hx] at hby
    have hxr := xor_u8 x (bitOf m)
    have hsh := shl_one r (by omega)
    rw [show ((1 : UInt8) <<< (UInt8.ofNat r)) = bitOf m from by rw [hr]; rfl] at hsh
    have q1 : IntKind.i64.wrap ((m : Int) / 8) = (d : Int) := by rw [IntWalk.i64_in _ (by omega)]; omega
    have q2 : IntKind.i64.wrap ((m : Int) % 8) = (r : Int) := by rw [IntWalk.i64_in _ (by omega)]; omega
    have q4 : ((m : Int) % 8) = (r : Int) := by omega
    have q7 : ((m : Int).tmod 8) = (r : Int) := by rw [Int.tmod_eq_emod_of_nonneg (by omega)]; omega
    have q8 : ((m : Int).tdiv 8) = (d : Int) := by rw [Int.tdiv_eq_ediv_of_nonneg (by omega)]; omega
    have q9 : IntKind.i64.wrap (d : Int) = (d : Int) := IntWalk.i64_in _ (by omega)
    have q10 : IntKind.i64.wrap (r : Int) = (r : Int) := IntWalk.i64_in _ (by omega)
    have q5 : (d : Int) < 64 := by omega
    have q6 : (r : Int) ≤ 8 := by omega
    have p1 : (0 : Int) ≤ (d : Int) := by omega
    have p2 : (0 : Int) ≤ (r : Int) := by omega
    have d1 : decide ((k : Int) < 0) = false := by simp
    have d2 : decide ((m : Int) < 0) = false := by simp
    have d3 : decide (512 ≤ (m : Int)) = false := by simp; omega
    have HD := Lib.hid hd
    have HX := Lib.hid hx
    obtain ⟨z, hz⟩ : ∃ z, z = x ^^^ bitOf m := ⟨_, rfl⟩
    obtain ⟨y, hy⟩ : ∃ y, y = bitOf m := ⟨_, rfl⟩
    rw [← hz] at hxr
    rw [← hy] at hxr hsh
    have HZ := Lib.hid hz
    have H1 := Lib.hid (DiskAt.setByte (w := w.drew) (h.same rfl rfl rfl rfl) (by omega : k < S.bl.length) hm z)
    have K1 := Lib.hid ((Keep.refl [g, gb, gp, gw] w).drew.setCell (a := ⟨gb, k * 64 + d, none⟩) (by simp) (.int .u8 (z.toNat : Int)))
    clear hE hn hx h hd hr hz hy
    go_enter Tryz.func27, Tryz.ntmps27
    go_wp2_with fail
    go_still_tail 16, (by kernel_rfl)
    change wpList _ _ _ _ _ w.drew
    have hby2 : w.drew.cell? ⟨gb, k * 64 + d, none⟩ = some (.int .u8 (x.toNat : Int)) := hby
    have hfz2 : w.drew.frozen? ⟨gb, k * 64 + d, none⟩ = false := hfz
    clear hby hfz
    generalize w.drew = w2 at *
    go_wp2_with fail
    go_ret
    refine DPost.ret ?_ H1.out K1.out
    rw [← HS.out]
    simp only [Int.toNat_natCast, flipB]
    rw [← HD.out, ← HX.out, ← HZ.out]
  · have hr : rotOK S i bit = false := by simpa using hr
    have hE : rotE S i bit = 1 := by rw [rotE, hr]; rfl
    have HS := Lib.hid (show S = rotS S i bit by rw [rotS, hr]; rfl)
    rw [hE]
    obtain ⟨n, hn⟩ : ∃ n, n = S.bl.length := ⟨_, rfl⟩
    have hcc : ¬ 0 ≤ i ∨ (0 ≤ i ∧ ¬ i < (n : Int)) ∨ (0 ≤ i ∧ i < (n : Int) ∧ ¬ 0 ≤ bit) ∨ (0 ≤ i ∧ i < (n : Int) ∧ 0 ≤ bit ∧ ¬ bit < 512) := by
      have : ¬ ((0 ≤ i ∧ i < (S.bl.length : Int)) ∧ 0 ≤ bit ∧ bit < 512) := by
        intro hh
        have : rotOK S i bit = true := by simp only [rotOK, isB, Bool.and_eq_true, decide_eq_true_eq]; exact hh
        rw [hr] at this
        cases this
      rw [hn]
      omega
    rw [← hn] at c0 n2
    clear hr hE h hn
    rcases hcc with h0 | ⟨h0, h1⟩ | ⟨h0, h1, h2⟩ | ⟨h0, h1, h2, h3⟩
    all_goals
      go_enter Tryz.func27, Tryz.ntmps27
      go_wp2_with fail
      go_ret
      exact DPost.ret HS.out H.out (Keep.refl _ _)
end Go.Proofs.YtddpjahoeldleaaGreatDoor.Dk
