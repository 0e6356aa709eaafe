/- How a disk lies in memory. -/
import Derived.Test.YtddpjahoeldleaaGreatDoorBase
namespace Go.Proofs.YtddpjahoeldleaaGreatDoor
open Go.RowKit
theorem setRow_other (w : World) (g : Nat) (cs : Array Value) (j : Nat) (h : j ≠ g) : (w.setRow g cs).heap[j]? = w.heap[j]? := by
  simp [World.setRow, Array.getElem?_modify, Ne.symm h]
theorem Keep.setRow {F : List Nat} {w w1 : World} (h : Keep F w w1) {g : Nat} (hg : g ∈ F) (cs : Array Value) : Keep F w (w1.setRow g cs) :=
  h.trans ⟨rfl, rfl, rfl, by simp, fun k _ hF => setRow_other _ _ _ _ (fun e => hF (by rw [e]; exact hg))⟩
end Go.Proofs.YtddpjahoeldleaaGreatDoor
namespace Go.Proofs.YtddpjahoeldleaaGreatDoor.Dk
open Go.RowKit Go.Maps

abbrev Dt := DataW Unit

/-- a block as a value -/
def encB (b : Bs) : Value := .agg (b.map fun x => Value.int .u8 (x.toNat : Int)).toArray
def decU8 : Value → Option UInt8
  | .int .u8 n => if 0 ≤ n ∧ n < 256 then some (UInt8.ofNat n.toNat) else none
  | _ => none
theorem decU8_enc (x : UInt8) : decU8 (.int .u8 (x.toNat : Int)) = some x := by
  have := x.toNat_lt
  simp only [decU8]
  rw [if_pos ⟨by omega, by omega⟩]
  simp
theorem decU8_inv {v : Value} {x : UInt8} (h : decU8 v = some x) : v = .int .u8 (x.toNat : Int) := by
  unfold decU8 at h
  split at h
  · rename_i n
    split at h
    · rename_i hn
      injection h with h
      subst h
      congr 1
      rw [UInt8.toNat_ofNat']
      omega
    · cases h
  · cases h
def decBs : List Value → Option Bs
  | [] => some []
  | v :: r => match decU8 v, decBs r with
    | some x, some b => some (x :: b)
    | _, _ => none
theorem decBs_enc : ∀ b : Bs, decBs (b.map fun x => Value.int .u8 (x.toNat : Int)) = some b
  | [] => rfl
  | x :: b => by simp only [List.map_cons, decBs, decU8_enc, decBs_enc b]
theorem decBs_inv : ∀ (l : List Value) (b : Bs), decBs l = some b → l = b.map fun x => Value.int .u8 (x.toNat : Int)
  | [], b, h => by simp only [decBs, Option.some.injEq] at h; subst h; rfl
  | v :: r, b, h => by
    unfold decBs at h
    split at h
    · rename_i x b' h1 h2
      injection h with h
      subst h
      rw [List.map_cons, ← decBs_inv r b' h2, decU8_inv h1]
    · cases h
/-- how a block in a map reads -/
def blockR (v : Value) : Option (Dt × List MemPlace) := match v with
  | .agg cs => match decBs cs.toList with
    | some b => if b.length = 64 then some (.lit (.string b), []) else none
    | none => none
  | _ => none
theorem blockR_enc {b : Bs} (h : b.length = 64) : blockR (encB b) = some (.lit (.string b), []) := by
  simp only [blockR, encB, decBs_enc, if_pos h]
theorem blockR_inv {v : Value} {d : Dt} {ps : List MemPlace} (h : blockR v = some (d, ps)) : ∃ b, b.length = 64 ∧ v = encB b ∧ d = .lit (.string b) ∧ ps = [] := by
  unfold blockR at h
  split at h
  · rename_i cs
    split at h
    · rename_i b hb
      split at h
      · rename_i hl
        simp only [Option.some.injEq, Prod.mk.injEq] at h
        refine ⟨b, hl, ?_, h.1.symm, h.2.symm⟩
        rw [encB, ← decBs_inv _ _ hb]
      · cases h
    · cases h
  · cases h

/-- what a disk is -/
structure St where
  bl : List Bs
  pend : Dt
  worn : Dt
  off : Bool
  left : Int
  cap : Nat
  ext : List Value

def cellsOfB (b : Bs) : List Value := b.map fun x => Value.int .u8 (x.toNat : Int)
def rowsOf (bl : List Bs) : List Value := bl.flatMap cellsOfB

/-- the disk S lies at block g: its struct, its rows at gb, its maps at gp and gw; K bounds the maps -/
structure DiskAt (w : World) (g gb gp gw K : Nat) (S : St) : Prop where
  head : w.heap[g]? = some (.cells #[.slice (some ⟨gb, 0, none⟩) S.bl.length S.cap, .map (some gp), .map (some gw), .bool S.off, .int .i64 S.left] 92 (0, 0))
  rows : w.heap[gb]? = some (.cells (rowsOf S.bl ++ S.ext).toArray 99 (0, 0))
  b64 : ∀ b ∈ S.bl, b.length = 64
  pend : w.ownsMap Tryz.prog 3 blockR gp K S.pend
  worn : w.ownsMap Tryz.prog 3 (plainElem Tryz.prog 4) gw K S.worn
  ne1 : g ≠ gb
  ne2 : gp ≠ gw
  n1 : 1 ≤ S.bl.length
  n2 : S.bl.length ≤ 4096
  l1 : -9223372036854775808 ≤ S.left
  l2 : S.left ≤ 9223372036854775807

variable {w w' : World} {g gb gp gw K : Nat} {S : St}
theorem DiskAt.lt (h : DiskAt w g gb gp gw K S) : g < w.heap.size ∧ gb < w.heap.size ∧ gp < w.heap.size ∧ gw < w.heap.size :=
  ⟨(Array.getElem?_eq_some_iff.1 h.head).1, (Array.getElem?_eq_some_iff.1 h.rows).1, h.pend.lt, h.worn.lt⟩
theorem ownsMap_block {P : Program} {k : TypeId} {R : Value → Option (Dt × List MemPlace)} {b n : Nat} {D : Dt} (h : w.ownsMap P k R b n D) (hb : w'.heap[b]? = w.heap[b]?) : w'.ownsMap P k R b n D := by
  obtain ⟨es, clock, hh, F, hs, hD⟩ := h
  exact ⟨es, clock, hb.trans hh, F, hs, hD⟩
theorem ownsMap_obj {P : Program} {k : TypeId} {R : Value → Option (Dt × List MemPlace)} {b n : Nat} {D : Dt} (h : w.ownsMap P k R b n D) : ∃ es clock, w.heap[b]? = some (.map es clock) := by
  obtain ⟨es, clock, hh, _⟩ := h
  exact ⟨es, clock, hh⟩
theorem DiskAt.apart (h : DiskAt w g gb gp gw K S) : g ≠ gp ∧ g ≠ gw ∧ gb ≠ gp ∧ gb ≠ gw := by
  obtain ⟨e1, c1, h1⟩ := ownsMap_obj h.pend
  obtain ⟨e2, c2, h2⟩ := ownsMap_obj h.worn
  have h3 := h.head
  have h4 := h.rows
  refine ⟨?_, ?_, ?_, ?_⟩ <;> intro e <;> subst e
  · rw [h1] at h3; cases h3
  · rw [h2] at h3; cases h3
  · rw [h1] at h4; cases h4
  · rw [h2] at h4; cases h4
/-- a disk stays what it is where its blocks stay -/
theorem DiskAt.same (h : DiskAt w g gb gp gw K S) (h1 : w'.heap[g]? = w.heap[g]?) (h2 : w'.heap[gb]? = w.heap[gb]?) (h3 : w'.heap[gp]? = w.heap[gp]?) (h4 : w'.heap[gw]? = w.heap[gw]?) : DiskAt w' g gb gp gw K S :=
  ⟨h1.trans h.head, h2.trans h.rows, h.b64, ownsMap_block h.pend h3, ownsMap_block h.worn h4, h.ne1, h.ne2, h.n1, h.n2, h.l1, h.l2⟩
theorem DiskAt.keep {F : List Nat} (h : DiskAt w g gb gp gw K S) (hk : Keep F w w') (hF : ∀ k, k ∈ F → k ≠ g ∧ k ≠ gb ∧ k ≠ gp ∧ k ≠ gw) : DiskAt w' g gb gp gw K S := by
  obtain ⟨l1, l2, l3, l4⟩ := h.lt
  exact h.same (hk.block _ l1 fun e => (hF _ e).1 rfl) (hk.block _ l2 fun e => (hF _ e).2.1 rfl) (hk.block _ l3 fun e => (hF _ e).2.2.1 rfl) (hk.block _ l4 fun e => (hF _ e).2.2.2 rfl)
theorem DiskAt.below (h : DiskAt w g gb gp gw K S) (hb : Below w.heap.size w w') : DiskAt w' g gb gp gw K S := h.keep (Keep.of_below hb []) (fun k hk => by cases hk)
theorem DiskAt.mono (h : DiskAt w g gb gp gw K S) {K' : Nat} (hK : K ≤ K') : DiskAt w g gb gp gw K' S := ⟨h.head, h.rows, h.b64, h.pend.mono hK, h.worn.mono hK, h.ne1, h.ne2, h.n1, h.n2, h.l1, h.l2⟩
/-- the struct's cells -/
theorem DiskAt.cells (h : DiskAt w g gb gp gw K S) : w.cell? ⟨g, 0, none⟩ = some (.slice (some ⟨gb, 0, none⟩) S.bl.length S.cap) ∧ w.cell? ⟨g, 1, none⟩ = some (.map (some gp)) ∧ w.cell? ⟨g, 2, none⟩ = some (.map (some gw)) ∧ w.cell? ⟨g, 3, none⟩ = some (.bool S.off) ∧ w.cell? ⟨g, 4, none⟩ = some (.int .i64 S.left) := by
  have := fun o => cell_of_row w g o _ 92 (0, 0) h.head
  exact ⟨this 0, this 1, this 2, this 3, this 4⟩
theorem DiskAt.free (h : DiskAt w g gb gp gw K S) (o : Nat) : w.frozen? ⟨g, o, none⟩ = false := by
  unfold World.frozen?
  rw [h.head]
  simp
theorem rows_length : ∀ bl : List Bs, (∀ b ∈ bl, b.length = 64) → (rowsOf bl).length = bl.length * 64
  | [], _ => rfl
  | b :: r, h => by
    have ih := rows_length r (fun x hx => h x (List.mem_cons_of_mem _ hx))
    have hb := h b (List.mem_cons_self ..)
    have e : rowsOf (b :: r) = cellsOfB b ++ rowsOf r := rfl
    rw [e, List.length_append, ih, cellsOfB, List.length_map, hb, List.length_cons]
    omega
theorem rows_at : ∀ (bl : List Bs) (_ : ∀ b ∈ bl, b.length = 64) (i k : Nat) (_ : k < 64), i < bl.length → (rowsOf bl)[i * 64 + k]? = some (.int .u8 (((bl.getD i []).getD k 0).toNat : Int))
  | [], _, i, k, _, hi => by simp at hi
  | b :: r, h, 0, k, hk, _ => by
    have hb := h b (List.mem_cons_self ..)
    have e : rowsOf (b :: r) = cellsOfB b ++ rowsOf r := rfl
    rw [e, List.getElem?_append_left (by rw [cellsOfB, List.length_map, hb]; omega), cellsOfB]
    simp [hb, hk]
  | b :: r, h, i + 1, k, hk, hi => by
    have hb := h b (List.mem_cons_self ..)
    have ih := rows_at r (fun x hx => h x (List.mem_cons_of_mem _ hx)) i k hk (by simpa using hi)
    have e : rowsOf (b :: r) = cellsOfB b ++ rowsOf r := rfl
    have el : (cellsOfB b).length = 64 := by rw [cellsOfB, List.length_map, hb]
    rw [e, List.getElem?_append_right (by rw [el]; omega), el, show (i + 1) * 64 + k - 64 = i * 64 + k from by omega, ih]
    simp
/-- a byte of a sector -/
theorem DiskAt.byte (h : DiskAt w g gb gp gw K S) {i k : Nat} (hi : i < S.bl.length) (hk : k < 64) : w.cell? ⟨gb, i * 64 + k, none⟩ = some (.int .u8 (((S.bl.getD i []).getD k 0).toNat : Int)) := by
  rw [cell_of_row w gb _ _ 99 (0, 0) h.rows, List.getElem?_toArray, List.getElem?_append_left (by rw [rows_length S.bl h.b64]; omega)]
  exact rows_at S.bl h.b64 i k hk hi
theorem DiskAt.rfree (h : DiskAt w g gb gp gw K S) (o : Nat) : w.frozen? ⟨gb, o, none⟩ = false := by
  unfold World.frozen?
  rw [h.rows]
  simp
end Go.Proofs.YtddpjahoeldleaaGreatDoor.Dk
