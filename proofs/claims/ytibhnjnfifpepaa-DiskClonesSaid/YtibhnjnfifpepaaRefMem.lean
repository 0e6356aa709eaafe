/- The reference's disk in memory, and its New. -/
import Derived.Test.YtibhnjnfifpepaaInv
import Derived.Deep.AppendLies
import Derived.Deep.RegionLaw
namespace Go.Proofs.Ytibhnjnfifpepaa
open Go.RowKit Go.Maps

structure Sec where
  text : Bs
  next : Bs
  dirty : Bool
  worn : Bool
structure RSt where
  s : List Sec
  off : Bool
  left : Int
  cap : Nat
  ext : List Value
def secCells (x : Sec) : List Value := [str x.text, str x.next, .bool x.dirty, .bool x.worn]
def secsCells (l : List Sec) : List Value := l.flatMap secCells
theorem secsCells_length (l : List Sec) : (secsCells l).length = l.length * 4 := by
  induction l with
  | nil => rfl
  | cons x r ih => rw [show secsCells (x :: r) = secCells x ++ secsCells r from rfl, List.length_append, ih]; simp [secCells]; omega
theorem secsCells_append (a b : List Sec) : secsCells (a ++ b) = secsCells a ++ secsCells b := by simp [secsCells]
def zSec : Sec := ⟨zeroBs, [], false, false⟩

structure RefAt (w : World) (r gs : Nat) (T : RSt) : Prop where
  head : Blk w r 55 #[.slice (some ⟨gs, 0, none⟩) T.s.length T.cap, .bool T.off, .int .i64 T.left]
  rows : Blk w gs 52 (secsCells T.s ++ T.ext).toArray
  ne : r ≠ gs
  t64 : ∀ x ∈ T.s, x.text.length = 64
  n64 : ∀ x ∈ T.s, x.dirty = true → x.next.length = 64
  n1 : 1 ≤ T.s.length
  n2 : T.s.length ≤ 4096
  l1 : -9223372036854775808 ≤ T.left
  l2 : T.left ≤ 9223372036854775807
theorem RefAt.below {w w' : World} {r gs : Nat} {T : RSt} (h : RefAt w r gs T) {B : Nat} (hb : Below B w w') (h1 : r < B) (h2 : gs < B) : RefAt w' r gs T :=
  ⟨h.head.below hb h1, h.rows.below hb h2, h.ne, h.t64, h.n64, h.n1, h.n2, h.l1, h.l2⟩
def newR (n : Nat) (cap : Nat) (ext : List Value) : RSt := { s := List.replicate n zSec, off := false, left := -1, cap := cap, ext := ext }

def NewRPost (n : Nat) (w : World) (e : Ending) (w' : World) : Prop :=
  ∃ r gs cap ext, e = .returned (.tuple #[.pointer (some ⟨r, 0, none⟩), .int .i64 0]) ∧ RefAt w' r gs (newR n cap ext) ∧ Below w.heap.size w w' ∧ w.heap.size ≤ r ∧ w.heap.size ≤ gs

theorem info52 : (Try.prog.info? 52).map (fun i => (i.zero, i.size, i.bytes)) = some (some (.agg #[.string ⟨#[]⟩, .string ⟨#[]⟩, .bool false, .bool false]), 4, 40) := by kernel_rfl

theorem newR_rel {w wr w3 w4 : World} {n k gg cap : Nat} {v : Value} (hlt : k < n) (hB : Blk w4 w.heap.size 55 #[v, .bool false, .int .i64 (-1)])
    (h4 : w4.ownsRow (w.heap.size + 1) 52 4 (.slice (some ⟨gg, 0, none⟩) (k + 1) cap) (k + 1) (secsCells (List.replicate k zSec) ++ [.string ⟨zeroBs.toArray⟩, .string ⟨#[]⟩, .bool false, .bool false]))
    (h3 : w3.ownsRow (w.heap.size + 1) 52 4 v k (secsCells (List.replicate k zSec))) (hg : w3.grownBy w4 v.ownBlock) (hb : Below w.heap.size w wr) (hbb : Below wr.heap.size wr w3) :
    ∃ (k' : Nat) (v' : Value), k' ≤ n ∧ Value.int .i64 ((k : Int) + 1) = .int .i64 k' ∧ Blk (w4.setCell ⟨w.heap.size, 0, none⟩ (.slice (some ⟨gg, 0, none⟩) (k + 1) cap)) w.heap.size 55 #[v', .bool false, .int .i64 (-1)] ∧
      (w4.setCell ⟨w.heap.size, 0, none⟩ (.slice (some ⟨gg, 0, none⟩) (k + 1) cap)).ownsRow (w.heap.size + 1) 52 4 v' k' (secsCells (List.replicate k' zSec)) ∧ Below w.heap.size w (w4.setCell ⟨w.heap.size, 0, none⟩ (.slice (some ⟨gg, 0, none⟩) (k + 1) cap)) := by
  have hw3 : Below w.heap.size w w3 := hb.trans (hbb.mono hb.size)
  have hw4 : Below w.heap.size w w4 := hw3.grown hg hw3.size (fun g hg => by have := (h3.lt g hg).1; omega)
  refine ⟨k + 1, .slice (some ⟨gg, 0, none⟩) (k + 1) cap, by omega, by rw [Int.natCast_add]; rfl, hB.set_ 0 _, ?_, hw4.setCell (Nat.le_refl _) _⟩
  have e : secsCells (List.replicate (k + 1) zSec) = secsCells (List.replicate k zSec) ++ [.string ⟨zeroBs.toArray⟩, .string ⟨#[]⟩, .bool false, .bool false] := by
    rw [List.replicate_succ', secsCells_append]; rfl
  rw [e]
  refine ⟨h4.1, .inr ?_⟩
  rcases h4.2 with ⟨h, _⟩ | ⟨g, cp, cur, e1, e2, e3, e4⟩
  · cases h
  · refine ⟨g, cp, cur, e1, e2, ?_, e4⟩
    rw [Below.heap_setCell _ _ _ _ (by show g ≠ w.heap.size; omega)]
    exact e3

set_option maxHeartbeats 2000000 in
set_option maxRecDepth 100000 in
theorem newR_any (w : World) (n : Nat) (h1 : 1 ≤ n) (h2 : n ≤ 4096) : Calls Try.prog 36 #[.int .i64 (n : Int)] w (NewRPost n w) := by
  obtain ⟨i5, hi5, hz50, hz51, hz52⟩ := info_parts info5
  obtain ⟨i0, hi, hz0, hz1, hz2⟩ := info_parts info52
  go_enter Try.func36, Try.ntmps36
  go_wp2_with fail
  go_loopw [5] (fun x wr => ∃ (k : Nat) (v : Value), k ≤ n ∧ x = .int .i64 k ∧ Blk wr w.heap.size 55 #[v, .bool false, .int .i64 (-1)] ∧ wr.ownsRow (w.heap.size + 1) 52 4 v k (secsCells (List.replicate k zSec)) ∧ Below w.heap.size w wr) (fun x _ => n - (intOf x).toNat)
  case atStart => exact ⟨0, .slice none 0 0, by omega, rfl, Blk.new _ _ _, World.ownsRow_nil _ _ _ _, below_new _ _⟩
  case round =>
    obtain ⟨k, v, hk, rfl, hB, hown, hb⟩ := hrel
    by_cases hlt : k < n
    · have c0 : wr.cell? ⟨w.heap.size, 0, none⟩ = some v := hB.cell 0
      have HH := Lib.hid hB
      have HOWN := Lib.hid hown
      have HBL := Lib.hid hb
      clear hB hown hb
      go_wp2_with fail
      have hC0 : (madeCells (Value.int .u8 0).cells (64 * i5.size)).toList = List.replicate 64 (.int .u8 0) := by rw [hz51, Nat.mul_one]; exact made_list _ _
      have hmk : (Instr.makeSlice 68 (.int .i64 64) (.int .i64 64)).run Try.prog wr.drew = .ok (.slice (some ⟨wr.heap.size, 0, none⟩) 64 64) (wr.drew.alloc (.cells (madeCells (Value.int .u8 0).cells (64 * i5.size)) 5)) :=
        run_make_rowN (P := Try.prog) 68 5 i5 _ Try.underlying68 hi5 hz50 .i64 .i64 64 64 (Nat.le_refl _) (by rw [hz52]; omega) (by omega) wr.drew
      generalize madeCells (Value.int .u8 0).cells (64 * i5.size) = C0 at *
      have hBn : Blk (wr.drew.alloc (.cells C0 5)) wr.heap.size 5 C0 := Blk.new wr.drew 5 C0
      obtain ⟨w2, hw2⟩ : ∃ w2, w2 = wr.drew.alloc (.cells C0 5) := ⟨_, rfl⟩
      rw [← hw2] at hmk hBn
      have hcv := conv_bytes w2 wr.heap.size 0 zeroBs (by rfl) (fun j hj => by
        rw [Nat.zero_add, hBn.cell j, ← Array.getElem?_toList, hC0, List.getElem?_replicate, if_pos hj, zeroBs, List.getD_eq_getElem?_getD, List.getElem?_replicate, if_pos hj]; rfl) 64
      have hb2 : Below wr.heap.size wr w2 := by
        rw [hw2]; exact ((Below.refl _ wr).drew).alloc (Nat.le_refl _) _
      have hs2 : wr.heap.size < w2.heap.size := by rw [hw2]; simp
      have hown2 : w2.ownsRow (w.heap.size + 1) 52 4 v k (secsCells (List.replicate k zSec)) := own_below HOWN.out hb2
      have hblk2 : Blk w2 w.heap.size 55 #[v, .bool false, .int .i64 (-1)] := HH.out.below hb2 HH.out.lt
      have c2 := hblk2.cell 0
      clear hw2 hBn hC0
      obtain ⟨w3, hw3⟩ : ∃ w3, w3 = w2.alloc (.cells #[.string ⟨zeroBs.toArray⟩, .string ⟨#[]⟩, .bool false, .bool false] 52) := ⟨_, rfl⟩
      have hown3 : w3.ownsRow (w.heap.size + 1) 52 4 v k (secsCells (List.replicate k zSec)) := by rw [hw3]; exact hown2.alloc _
      have hb3 : Below w2.heap.size w2 w3 := by rw [hw3]; exact below_new w2 _
      have hblk3 := hblk2.below hb3 hblk2.lt
      have hs3 : w3.heap.size = w2.heap.size + 1 := by rw [hw3]; simp
      have hnew : w3.heap[w2.heap.size]? = some (.cells #[.string ⟨zeroBs.toArray⟩, .string ⟨#[]⟩, .bool false, .bool false] 52 (0, 0)) := by rw [hw3]; exact heap_alloc_new w2 _
      have c3 := hblk3.cell 0
      have f3 := hblk3.frozen 0
      have hlw := hblk2.lt
      have HB3 := Lib.hid hblk3
      have HOWN3 := Lib.hid hown3
      have HBB := Lib.hid (hb2.trans (hb3.mono (by omega)))
      clear hown2 hblk2 hown3 hblk3 hb2 hb3
      go_region_law (refine step_append_lies _ (by rfl) _ _ _ (by rfl) (w.heap.size + 1) 52 i0 _ 4 40 Try.underlying53 hi hz0 hz1 hz2 rfl (by omega) v k _ (by rfl) (by first | exact HOWN3.out | (rw [← hw3]; exact HOWN3.out)) ⟨w2.heap.size, 0, none⟩ 1 1 [.string ⟨zeroBs.toArray⟩, .string ⟨#[]⟩, .bool false, .bool false] (by rfl) (by rfl) (by first | exact World.news_of_block hnew | (rw [← hw3]; exact World.news_of_block hnew)) (by simp [Value.oneCell']) (by omega) (by unfold maxLen; omega) (by omega) (by first | omega | (rw [← hw3]; omega)) w3.heap.size (by first | rfl | (rw [← hw3])) ?_; intro gg cap w4 hown4 hgrow hor hlt4; have hgr : w3.grownBy w4 v.ownBlock := (by first | exact hgrow | (rw [hw3]; exact hgrow)); have hne : some w.heap.size ≠ v.ownBlock := (fun e => absurd (show w.heap.size + 1 ≤ w.heap.size from (HOWN3.out.lt _ e.symm).1) (by omega)); have hblk4 : Blk w4 w.heap.size 55 #[v, .bool false, .int .i64 (-1)] := (hgr.block _ HB3.out.lt hne).trans HB3.out; have c4 := hblk4.cell 0; have f4 := hblk4.frozen 0; have HB4 := Lib.hid hblk4; have HGR := Lib.hid hgr; have HOWN4 := Lib.hid hown4; clear hgrow hgr hblk4 hown4)
      all_goals go_wp2_with fail
      all_goals go_roundw
      all_goals first
        | exact newR_rel hlt HB4.out HOWN4.out HOWN3.out HGR.out HBL.out HBB.out
        | (simp [intOf]; omega)
    · obtain rfl : k = n := by omega
      go_wp2_with fail
      go_ret2
      rcases hown.2 with ⟨_, h0⟩ | ⟨g, cp, cur, rfl, hbg, hg, _, _, _, htk⟩
      · omega
      refine ⟨w.heap.size, g, cp, cur.toList.drop (k * 4), rfl, ⟨?_, ?_, by omega, ?_, ?_, ?_, ?_, (by decide : (-9223372036854775808 : Int) ≤ -1), (by decide : (-1 : Int) ≤ 9223372036854775807)⟩, hb, Nat.le_refl _, by omega⟩
      · show Blk wr w.heap.size 55 #[.slice (some ⟨g, 0, none⟩) (List.replicate k zSec).length cp, .bool false, .int .i64 (-1)]
        rw [List.length_replicate]; exact hB
      · show wr.heap[g]? = _
        rw [hg]
        show _ = some (Obj.cells (secsCells (List.replicate k zSec) ++ cur.toList.drop (k * 4)).toArray 52 (0, 0))
        rw [← htk, List.take_append_drop, Array.toArray_toList]
      · intro x hx
        rw [List.eq_of_mem_replicate hx]; rfl
      · intro x hx hd
        rw [List.eq_of_mem_replicate hx] at hd; cases hd
      · show 1 ≤ (List.replicate k zSec).length
        rw [List.length_replicate]; exact h1
      · show (List.replicate k zSec).length ≤ 4096
        rw [List.length_replicate]; exact h2
end Go.Proofs.Ytibhnjnfifpepaa
