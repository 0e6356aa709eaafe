/- What a call leaves alone: every old block but some. -/
import Derived.Test.YtibhnjnfifpepaaProg
import Derived.Below
import Derived.WalkKit
import Derived.Deep.QuietTactic
import Derived.BigQuiet
import Derived.Laws.OwnMore
import Derived.OwnWalk
import Derived.Maps.OwnSet
import Derived.Lib.Hide
namespace Go.Proofs.Ytibhnjnfifpepaa
open Go.RowKit

/-- w' is w but for the blocks of F and new ones -/
structure Keep (F : List Nat) (w w' : World) : Prop where
  os : w'.os = w.os
  tape : w'.tape = w.tape
  output : w'.output = w.output
  size : w.heap.size ≤ w'.heap.size
  block : ∀ k, k < w.heap.size → k ∉ F → w'.heap[k]? = w.heap[k]?

variable {F G : List Nat} {w w1 w2 w' : World}
theorem Keep.refl (F : List Nat) (w : World) : Keep F w w := ⟨rfl, rfl, rfl, Nat.le_refl _, fun _ _ _ => rfl⟩
theorem Keep.trans (h : Keep F w w1) (k : Keep F w1 w2) : Keep F w w2 :=
  ⟨k.os.trans h.os, k.tape.trans h.tape, k.output.trans h.output, Nat.le_trans h.size k.size, fun i hi hF => (k.block i (Nat.lt_of_lt_of_le hi h.size) hF).trans (h.block i hi hF)⟩
theorem Keep.more (h : Keep F w w1) (hF : ∀ k, k ∈ F → k ∈ G) : Keep G w w1 := ⟨h.os, h.tape, h.output, h.size, fun i hi hG => h.block i hi fun e => hG (hF i e)⟩
theorem Keep.of_below (h : Below w.heap.size w w1) (F : List Nat) : Keep F w w1 := ⟨h.os, h.tape, h.output, h.size, fun i hi _ => h.block i hi⟩
theorem Keep.below (h : Keep F w w1) {B : Nat} (hB : B ≤ w.heap.size) (hF : ∀ k, k ∈ F → B ≤ k) : Below B w w1 :=
  ⟨h.os, h.tape, h.output, h.size, fun i hi => h.block i (Nat.lt_of_lt_of_le hi hB) fun e => by have := hF i e; omega⟩
theorem Keep.nil_below (h : Keep [] w w1) : Below w.heap.size w w1 := h.below (Nat.le_refl _) (by intro k hk; cases hk)
theorem Keep.alloc (h : Keep F w w1) (o : Obj) : Keep F w (w1.alloc o) :=
  h.trans ⟨rfl, rfl, rfl, by simp, fun k hk _ => heap_alloc_old w1 o hk⟩
theorem Keep.drew (h : Keep F w w1) : Keep F w w1.drew := ⟨h.os, h.tape, h.output, h.size, h.block⟩
theorem Keep.drewN (h : Keep F w w1) (n : Nat) : Keep F w (w1.drewN n) := ⟨h.os, h.tape, h.output, h.size, h.block⟩
theorem Keep.grown {b : Nat} (h : Keep F w w1) (hg : w1.grownBy w2 (some b)) (hb : b ∈ F) : Keep F w w2 :=
  h.trans ⟨hg.os, hg.tape, hg.output, hg.size, fun k hk hF => hg.block k hk fun e => hF (by injection e with e; rw [e]; exact hb)⟩
theorem Keep.turned {b : Nat} (h : Keep F w w1) (hg : w1.mapTurned w2 b) (hb : b ∈ F) : Keep F w w2 := h.grown hg.grown hb
theorem Keep.setCell (h : Keep F w w1) {a : Addr} (ha : a.block ∈ F) (u : Value) : Keep F w (w1.setCell a u) := by
  exact h.trans ⟨rfl, rfl, rfl, by simp [World.setCell], fun k hk hF => Below.heap_setCell _ _ _ _ (fun e => hF (by rw [e]; exact ha))⟩
end Go.Proofs.Ytibhnjnfifpepaa
