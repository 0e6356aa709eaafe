import Derived.Test.YtddpjahoeldleaaGreatDoorDModel
import Derived.Deep.AppendLies
import Derived.Deep.RegionLaw
import Derived.StillTailTactics
import Derived.Test.YtddpjahoeldleaaGreatDoorJMore
import Derived.Test.YtddpjahoeldleaaGreatDoorJVal
import Derived.Test.YtddpjahoeldleaaGreatDoorSame
import Derived.Test.YtddpjahoeldleaaGreatDoorPSane
import Derived.Test.YtddpjahoeldleaaGreatDoorRefPack
import Derived.Deep.RegionHeld3
import Derived.Test.YtddpjahoeldleaaGreatDoorJRecord
import Derived.Test.YtddpjahoeldleaaGreatDoorRefUnpack
/-! The reference's disk in memory, and its New. -/
namespace Go.Proofs.YtddpjahoeldleaaGreatDoor.Dk
open Go.RowKit Go.Maps

def secCells (x : Sec) : List Value := [str x.text, str x.next, .bool x.dirty, .bool x.worn]
def secsCells (l : List Sec) : List Value := l.flatMap secCells
theorem secsCells_length (l : List Sec) : (secsCells l).length = l.length * 4 := by
  induction l with
  | nil => rfl
  | cons x r ih => rw [show secsCells (x :: r) = secCells x ++ secsCells r from rfl, List.length_append, ih]; simp [secCells]; omega
theorem secsCells_append (a b : List Sec) : secsCells (a ++ b) = secsCells a ++ secsCells b := by simp [secsCells]

structure RefAt (w : World) (r gs : Nat) (T : RSt) : Prop where
  head : Blk w r 102 #[.slice (some ⟨gs, 0, none⟩) T.s.length T.cap, .bool T.off, .int .i64 T.left]
  rows : Blk w gs 104 (secsCells T.s ++ T.ext).toArray
  ne : r ≠ gs
  t64 : ∀ x ∈ T.s, x.text.length = 64
  n64 : ∀ x ∈ T.s, x.dirty = true → x.next.length = 64
  n1 : 1 ≤ T.s.length
  n2 : T.s.length ≤ 4096
  l1 : -9223372036854775808 ≤ T.left
  l2 : T.left ≤ 9223372036854775807
theorem RefAt.below {w w' : World} {r gs : Nat} {T : RSt} (h : RefAt w r gs T) {B : Nat} (hb : Below B w w') (h1 : r < B) (h2 : gs < B) : RefAt w' r gs T :=
  ⟨h.head.below hb h1, h.rows.below hb h2, h.ne, h.t64, h.n64, h.n1, h.n2, h.l1, h.l2⟩

def NewRPost (n : Nat) (w : World) (e : Ending) (w' : World) : Prop :=
  ∃ r gs cap ext, e = .returned (.tuple #[.pointer (some ⟨r, 0, none⟩), .int .i64 0]) ∧ RefAt w' r gs (newR n cap ext) ∧ Below w.heap.size w w' ∧ w.heap.size ≤ r ∧ w.heap.size ≤ gs

theorem info52 : (Tryz.prog.info? 104).map (fun i => (i.zero, i.size, i.bytes)) = some (some (.agg #[.string ⟨#[]⟩, .string ⟨#[]⟩, .bool false, .bool false]), 4, 40) := by kernel_rfl

theorem newR_rel {w wr w3 w4 : World} {n k gg cap : Nat} {v : Value} (hlt : k < n) (hB : Blk w4 w.heap.size 102 #[v, .bool false, .int .i64 (-1)])
    (h4 : w4.ownsRow (w.heap.size + 1) 104 4 (.slice (some ⟨gg, 0, none⟩) (k + 1) cap) (k + 1) (secsCells (List.replicate k zSec) ++ [.string ⟨zeroBs.toArray⟩, .string ⟨#[]⟩, .bool false, .bool false]))
    (h3 : w3.ownsRow (w.heap.size + 1) 104 4 v k (secsCells (List.replicate k zSec))) (hg : w3.grownBy w4 v.ownBlock) (hb : Below w.heap.size w wr) (hbb : Below wr.heap.size wr w3) :
    ∃ (k' : Nat) (v' : Value), k' ≤ n ∧ Value.int .i64 ((k : Int) + 1) = .int .i64 k' ∧ Blk (w4.setCell ⟨w.heap.size, 0, none⟩ (.slice (some ⟨gg, 0, none⟩) (k + 1) cap)) w.heap.size 102 #[v', .bool false, .int .i64 (-1)] ∧
      (w4.setCell ⟨w.heap.size, 0, none⟩ (.slice (some ⟨gg, 0, none⟩) (k + 1) cap)).ownsRow (w.heap.size + 1) 104 4 v' k' (secsCells (List.replicate k' zSec)) ∧ Below w.heap.size w (w4.setCell ⟨w.heap.size, 0, none⟩ (.slice (some ⟨gg, 0, none⟩) (k + 1) cap)) := by
  have hw3 : Below w.heap.size w w3 := hb.trans (hbb.mono hb.size)
  have hw4 : Below w.heap.size w w4 := hw3.grown hg hw3.size (fun g hg => by have := (h3.lt g hg).1; omega)
  refine ⟨k + 1, .slice (some ⟨gg, 0, none⟩) (k + 1) cap, by omega, by rw [Int.natCast_add]; rfl, hB.set_ 0 _, ?_, hw4.setCell (Nat.le_refl _) _⟩
  have e : secsCells (List.replicate (k + 1) zSec) = secsCells (List.replicate k zSec) ++ [.string ⟨zeroBs.toArray⟩, .string ⟨#[]⟩, .bool false, .bool false] := by
    rw [List.replicate_succ', secsCells_append]; rfl
  rw [e]
  refine ⟨h4.1, .inr ?_⟩
  rcases h4.2 with ⟨h, _⟩ | ⟨g, cp, cur, e1, e2, e3, e4⟩
  · cases h
  · refine ⟨g, cp, cur, e1, e2, ?_, e4⟩
    rw [Below.heap_setCell _ _ _ _ (by show g ≠ w.heap.size; omega)]
    exact e3

set_option maxHeartbeats 2000000 in
set_option maxRecDepth 100000 in
theorem newR_any (w : World) (n : Nat) (h1 : 1 ≤ n) (h2 : n ≤ 4096) : Calls Tryz.prog 21 #[.int .i64 (n : Int)] w (NewRPost n w) := by
  obtain ⟨i5, hi5, hz50, hz51, hz52⟩ := info_parts info5
  obtain ⟨i0, hi, hz0, hz1, hz2⟩ := info_parts info52
  go_enter Tryz.func21, Tryz.ntmps21
  go_wp2_with fail
  go_loopw [5] (fun x wr => ∃ (k : Nat) (v : Value), k ≤ n ∧ x = .int .i64 k ∧ Blk wr w.heap.size 102 #[v, .bool false, .int .i64 (-1)] ∧ wr.ownsRow (w.heap.size + 1) 104 4 v k (secsCells (List.replicate k zSec)) ∧ Below w.heap.size w wr) (fun x _ => n - (intOf x).toNat)
  case atStart => exact ⟨0, .slice none 0 0, by omega, rfl, Blk.new _ _ _, World.ownsRow_nil _ _ _ _, below_new _ _⟩
  case round =>
    obtain ⟨k, v, hk, rfl, hB, hown, hb⟩ := hrel
    by_cases hlt : k < n
    · have c0 : wr.cell? ⟨w.heap.size, 0, none⟩ = some v := hB.cell 0
      have HH := Lib.hid hB
      have HOWN := Lib.hid hown
      have HBL := Lib.hid hb
      clear hB hown hb
      go_wp2_with fail
      have hC0 : (madeCells (Value.int .u8 0).cells (64 * i5.size)).toList = List.replicate 64 (.int .u8 0) := by rw [hz51, Nat.mul_one]; exact made_list _ _
      have hmk : (Instr.makeSlice 84 (.int .i64 64) (.int .i64 64)).run Tryz.prog wr.drew = .ok (.slice (some ⟨wr.heap.size, 0, none⟩) 64 64) (wr.drew.alloc (.cells (madeCells (Value.int .u8 0).cells (64 * i5.size)) 5)) :=
        run_make_rowN (P := Tryz.prog) 84 5 i5 _ Tryz.underlying84 hi5 hz50 .i64 .i64 64 64 (Nat.le_refl _) (by rw [hz52]; omega) (by omega) wr.drew
      generalize madeCells (Value.int .u8 0).cells (64 * i5.size) = C0 at *
      have hBn : Blk (wr.drew.alloc (.cells C0 5)) wr.heap.size 5 C0 := Blk.new wr.drew 5 C0
      obtain ⟨w2, hw2⟩ : ∃ w2, w2 = wr.drew.alloc (.cells C0 5) := ⟨_, rfl⟩
      rw [← hw2] at hmk hBn
      have hcv := conv_bytes w2 wr.heap.size 0 zeroBs (by rfl) (fun j hj => by
        rw [Nat.zero_add, hBn.cell j, ← Array.getElem?_toList, hC0, List.getElem?_replicate, if_pos hj, zeroBs, List.getD_eq_getElem?_getD, List.getElem?_replicate, if_pos hj]; rfl) 64
      have hb2 : Below wr.heap.size wr w2 := by
        rw [hw2]; exact ((Below.refl _ wr).drew).alloc (Nat.le_refl _) _
      have hs2 : wr.heap.size < w2.heap.size := by rw [hw2]; simp
      have hown2 : w2.ownsRow (w.heap.size + 1) 104 4 v k (secsCells (List.replicate k zSec)) := own_below HOWN.out hb2
      have hblk2 : Blk w2 w.heap.size 102 #[v, .bool false, .int .i64 (-1)] := HH.out.below hb2 HH.out.lt
      have c2 := hblk2.cell 0
      clear hw2 hBn hC0
      obtain ⟨w3, hw3⟩ : ∃ w3, w3 = w2.alloc (.cells #[.string ⟨zeroBs.toArray⟩, .string ⟨#[]⟩, .bool false, .bool false] 104) := ⟨_, rfl⟩
      have hown3 : w3.ownsRow (w.heap.size + 1) 104 4 v k (secsCells (List.replicate k zSec)) := by rw [hw3]; exact hown2.alloc _
      have hb3 : Below w2.heap.size w2 w3 := by rw [hw3]; exact below_new w2 _
      have hblk3 := hblk2.below hb3 hblk2.lt
      have hs3 : w3.heap.size = w2.heap.size + 1 := by rw [hw3]; simp
      have hnew : w3.heap[w2.heap.size]? = some (.cells #[.string ⟨zeroBs.toArray⟩, .string ⟨#[]⟩, .bool false, .bool false] 104 (0, 0)) := by rw [hw3]; exact heap_alloc_new w2 _
      have c3 := hblk3.cell 0
      have f3 := hblk3.frozen 0
      have hlw := hblk2.lt
      have HB3 := Lib.hid hblk3
      have HOWN3 := Lib.hid hown3
      have HBB := Lib.hid (hb2.trans (hb3.mono (by omega)))
      clear hown2 hblk2 hown3 hblk3 hb2 hb3
      go_region_law (refine step_append_lies _ (by rfl) _ _ _ (by rfl) (w.heap.size + 1) 104 i0 _ 4 40 Tryz.underlying100 hi hz0 hz1 hz2 rfl (by omega) v k _ (by rfl) (by first | exact HOWN3.out | (rw [← hw3]; exact HOWN3.out)) ⟨w2.heap.size, 0, none⟩ 1 1 [.string ⟨zeroBs.toArray⟩, .string ⟨#[]⟩, .bool false, .bool false] (by rfl) (by rfl) (by first | exact World.news_of_block hnew | (rw [← hw3]; exact World.news_of_block hnew)) (by simp [Value.oneCell']) (by omega) (by unfold maxLen; omega) (by omega) (by first | omega | (rw [← hw3]; omega)) w3.heap.size (by first | rfl | (rw [← hw3])) ?_; intro gg cap w4 hown4 hgrow hor hlt4; have hgr : w3.grownBy w4 v.ownBlock := (by first | exact hgrow | (rw [hw3]; exact hgrow)); have hne : some w.heap.size ≠ v.ownBlock := (fun e => absurd (show w.heap.size + 1 ≤ w.heap.size from (HOWN3.out.lt _ e.symm).1) (by omega)); have hblk4 : Blk w4 w.heap.size 102 #[v, .bool false, .int .i64 (-1)] := (hgr.block _ HB3.out.lt hne).trans HB3.out; have c4 := hblk4.cell 0; have f4 := hblk4.frozen 0; have HB4 := Lib.hid hblk4; have HGR := Lib.hid hgr; have HOWN4 := Lib.hid hown4; clear hgrow hgr hblk4 hown4)
      all_goals go_wp2_with fail
      all_goals go_roundw
      all_goals first
        | exact newR_rel hlt HB4.out HOWN4.out HOWN3.out HGR.out HBL.out HBB.out
        | (simp [intOf]; omega)
    · obtain rfl : k = n := by omega
      go_wp2_with fail
      go_ret2
      rcases hown.2 with ⟨_, h0⟩ | ⟨g, cp, cur, rfl, hbg, hg, _, _, _, htk⟩
      · omega
      refine ⟨w.heap.size, g, cp, cur.toList.drop (k * 4), rfl, ⟨?_, ?_, by omega, ?_, ?_, ?_, ?_, (by decide : (-9223372036854775808 : Int) ≤ -1), (by decide : (-1 : Int) ≤ 9223372036854775807)⟩, hb, Nat.le_refl _, by omega⟩
      · show Blk wr w.heap.size 102 #[.slice (some ⟨g, 0, none⟩) (List.replicate k zSec).length cp, .bool false, .int .i64 (-1)]
        rw [List.length_replicate]; exact hB
      · show wr.heap[g]? = _
        rw [hg]
        show _ = some (Obj.cells (secsCells (List.replicate k zSec) ++ cur.toList.drop (k * 4)).toArray 104 (0, 0))
        rw [← htk, List.take_append_drop, Array.toArray_toList]
      · intro x hx
        rw [List.eq_of_mem_replicate hx]; rfl
      · intro x hx hd
        rw [List.eq_of_mem_replicate hx] at hd; cases hd
      · show 1 ≤ (List.replicate k zSec).length
        rw [List.length_replicate]; exact h1
      · show (List.replicate k zSec).length ≤ 4096
        rw [List.length_replicate]; exact h2
end Go.Proofs.YtddpjahoeldleaaGreatDoor.Dk

/-! The reference's methods: is, step, Read, Write, Trip, Wear. -/
namespace Go.Proofs.YtddpjahoeldleaaGreatDoor.Dk
open Go.RowKit Go.Maps

theorem secs_at : ∀ (l : List Sec) (i c : Nat) (x : Sec), l[i]? = some x → c < 4 → (secsCells l)[i * 4 + c]? = (secCells x)[c]?
  | [], _, _, _, h, _ => by simp at h
  | a :: l, 0, c, x, h, hc => by
    obtain rfl : a = x := by simpa using h
    rw [show secsCells (a :: l) = secCells a ++ secsCells l from rfl, List.getElem?_append_left (by simp [secCells]; omega), Nat.zero_mul, Nat.zero_add]
  | a :: l, i + 1, c, x, h, hc => by
    rw [show secsCells (a :: l) = secCells a ++ secsCells l from rfl, List.getElem?_append_right (by simp [secCells]; omega), show (i + 1) * 4 + c - (secCells a).length = i * 4 + c by simp [secCells]; omega]
    exact secs_at l i c x (by simpa using h) hc
theorem secs_set : ∀ (l : List Sec) (i c : Nat) (x x' : Sec) (u : Value), l[i]? = some x → c < 4 → (secCells x).set c u = secCells x' → (secsCells l).set (i * 4 + c) u = secsCells (l.set i x')
  | [], _, _, _, _, _, h, _, _ => by simp at h
  | a :: l, 0, c, x, x', u, h, hc, hs => by
    obtain rfl : a = x := by simpa using h
    rw [show secsCells (a :: l) = secCells a ++ secsCells l from rfl, List.set_append_left _ _ (by simp [secCells]; omega), Nat.zero_mul, Nat.zero_add, hs]; rfl
  | a :: l, i + 1, c, x, x', u, h, hc, hs => by
    rw [show secsCells (a :: l) = secCells a ++ secsCells l from rfl, List.set_append_right _ _ (by simp [secCells]; omega), show (i + 1) * 4 + c - (secCells a).length = i * 4 + c by simp [secCells]; omega, secs_set l i c x x' u (by simpa using h) hc hs]; rfl

variable {w w' : World} {r gs : Nat} {T : RSt}
theorem RefAt.heads (h : RefAt w r gs T) : w.cell? ⟨r, 0, none⟩ = some (.slice (some ⟨gs, 0, none⟩) T.s.length T.cap) ∧ w.cell? ⟨r, 1, none⟩ = some (.bool T.off) ∧ w.cell? ⟨r, 2, none⟩ = some (.int .i64 T.left) :=
  ⟨h.head.cell 0, h.head.cell 1, h.head.cell 2⟩
theorem RefAt.cellAt (h : RefAt w r gs T) {i c : Nat} {x : Sec} (hx : T.s[i]? = some x) (hc : c < 4) : w.cell? ⟨gs, i * 4 + c, none⟩ = (secCells x)[c]? := by
  have hi := (List.getElem?_eq_some_iff.1 hx).1
  rw [h.rows.cell, List.getElem?_toArray, List.getElem?_append_left (by rw [secsCells_length]; omega), secs_at T.s i c x hx hc]
theorem RefAt.sec (h : RefAt w r gs T) {i : Nat} {x : Sec} (hx : T.s[i]? = some x) : w.cell? ⟨gs, i * 4, none⟩ = some (str x.text) ∧ w.cell? ⟨gs, i * 4 + 1, none⟩ = some (str x.next) ∧ w.cell? ⟨gs, i * 4 + 2, none⟩ = some (.bool x.dirty) ∧ w.cell? ⟨gs, i * 4 + 3, none⟩ = some (.bool x.worn) :=
  ⟨h.cellAt (c := 0) hx (by omega), h.cellAt (c := 1) hx (by omega), h.cellAt (c := 2) hx (by omega), h.cellAt (c := 3) hx (by omega)⟩
theorem RefAt.lt (h : RefAt w r gs T) : r < w.heap.size ∧ gs < w.heap.size := ⟨h.head.lt, h.rows.lt⟩
theorem RefAt.keep {F : List Nat} (h : RefAt w r gs T) (k : Keep F w w') (h1 : r ∉ F) (h2 : gs ∉ F) : RefAt w' r gs T :=
  ⟨(k.block r h.lt.1 h1).trans h.head, (k.block gs h.lt.2 h2).trans h.rows, h.ne, h.t64, h.n64, h.n1, h.n2, h.l1, h.l2⟩
theorem RefAt.setOff (h : RefAt w r gs T) (b : Bool) : RefAt (w.setCell ⟨r, 1, none⟩ (.bool b)) r gs { T with off := b } :=
  ⟨h.head.set_ 1 _, (Below.heap_setCell _ _ _ _ (Ne.symm h.ne)).trans h.rows, h.ne, h.t64, h.n64, h.n1, h.n2, h.l1, h.l2⟩
theorem RefAt.setLeft (h : RefAt w r gs T) (n : Int) (l1 : -9223372036854775808 ≤ n) (l2 : n ≤ 9223372036854775807) : RefAt (w.setCell ⟨r, 2, none⟩ (.int .i64 n)) r gs { T with left := n } :=
  ⟨h.head.set_ 2 _, (Below.heap_setCell _ _ _ _ (Ne.symm h.ne)).trans h.rows, h.ne, h.t64, h.n64, h.n1, h.n2, l1, l2⟩
/-- other sectors, as many -/
theorem RefAt.turned (h : RefAt w r gs T) {l : List Sec} (hr : Blk w' gs 104 (secsCells l ++ T.ext).toArray) (hh : w'.heap[r]? = w.heap[r]?) (hl : l.length = T.s.length) (h1 : ∀ x ∈ l, x.text.length = 64) (h2 : ∀ x ∈ l, x.dirty = true → x.next.length = 64) : RefAt w' r gs { T with s := l } :=
  ⟨by show Blk w' r 102 #[.slice (some ⟨gs, 0, none⟩) l.length T.cap, .bool T.off, .int .i64 T.left]
      rw [hl]
      exact hh.trans h.head, hr, h.ne, h1, h2, by rw [hl]; exact h.n1, by rw [hl]; exact h.n2, h.l1, h.l2⟩
theorem mem_set_or {l : List Sec} {i : Nat} {a : Sec} {P : Sec → Prop} (h : ∀ x ∈ l, P x) (ha : P a) : ∀ x ∈ l.set i a, P x := fun x hx => by
  rcases List.mem_or_eq_of_mem_set hx with hx | rfl
  · exact h x hx
  · exact ha
theorem RefAt.setSec (h : RefAt w r gs T) {i c : Nat} {x : Sec} (hx : T.s[i]? = some x) (hc : c < 4) (x' : Sec) (u : Value) (hs : (secCells x).set c u = secCells x') (t64 : x'.text.length = 64) (n64 : x'.dirty = true → x'.next.length = 64) :
    RefAt (w.setCell ⟨gs, i * 4 + c, none⟩ u) r gs { T with s := T.s.set i x' } := by
  have hi := (List.getElem?_eq_some_iff.1 hx).1
  refine h.turned ?_ (Below.heap_setCell _ _ _ _ h.ne) List.length_set (mem_set_or h.t64 t64) (mem_set_or (P := fun x => x.dirty = true → x.next.length = 64) h.n64 n64)
  have := h.rows.set_ (i * 4 + c) u
  rw [List.setIfInBounds_toArray, List.set_append_left _ _ (by rw [secsCells_length]; omega), secs_set T.s i c x x' u hx hc hs] at this
  exact this
theorem getD_some {l : List Sec} {i : Nat} {x : Sec} (h : l[i]? = some x) (z : Sec) : l.getD i z = x := by rw [List.getD_eq_getElem?_getD, h]; rfl

theorem is_any (w : World) (r gs : Nat) (T : RSt) (h : RefAt w r gs T) (i : Int) (b : Bool) (hb : Hid (rIs T i = b)) :
    Calls Tryz.prog 63 #[.pointer (some ⟨r, 0, none⟩), .int .i64 i] w (Ret (.bool b) w) := by
  obtain ⟨c0, c1, c2⟩ := h.heads
  have n2 := h.n2
  obtain ⟨n, hn⟩ : ∃ n, n = T.s.length := ⟨_, rfl⟩
  rw [← hn] at c0 n2
  have HB := Lib.hid (show decide (0 ≤ i ∧ i < (n : Int)) = b by rw [← hb.out, rIs, hn])
  clear h hb hn
  by_cases h0 : 0 ≤ i
  · by_cases h1 : i < (n : Int)
    · go_enter Tryz.func63, Tryz.ntmps63
      go_wp2_with fail
      go_ret
      exact Ret.bool (by rw [← HB.out]; simp [h0, h1])
    · go_enter Tryz.func63, Tryz.ntmps63
      go_wp2_with fail
      go_ret
      exact Ret.bool (by rw [← HB.out]; simp [h0, h1])
  · go_enter Tryz.func63, Tryz.ntmps63
    go_wp2_with fail
    go_ret
    exact Ret.bool (by rw [← HB.out, decide_eq_false (by omega)])

/-- what a method of the reference leaves -/
def RPost (v : Value) (r gs : Nat) (T : RSt) (w : World) : Ending → World → Prop := fun e w' => e = .returned v ∧ RefAt w' r gs T ∧ Keep [r, gs] w w'
theorem RPost.ret {v : Value} {r gs : Nat} {T T' : RSt} {w w' : World} (hT : T = T') (h : RefAt w' r gs T) (hk : Keep [r, gs] w w') : RPost v r gs T' w (.returned v) w' := by rw [← hT]; exact ⟨rfl, h, hk⟩

theorem rstep_any (w : World) (r gs : Nat) (T : RSt) (h : RefAt w r gs T) :
    Calls Tryz.prog 66 #[.pointer (some ⟨r, 0, none⟩)] w (RPost (.int .i64 (rStepE T)) r gs (rStepS T) w) := by
  obtain ⟨c0, c1, c2⟩ := h.heads
  have f1 := h.head.frozen 1
  have f2 := h.head.frozen 2
  have l1 := h.l1
  have l2 := h.l2
  by_cases h0 : T.left = 0
  · have HE : rStepE T = 24 := by rw [rStepE, if_pos h0]
    have HS := Lib.hid (show { T with off := true } = rStepS T by rw [rStepS, if_pos h0])
    rw [HE]
    rw [h0] at c2
    have H1 := Lib.hid (h.setOff true)
    have hk := Lib.hid ((Keep.refl [r, gs] w).setCell (a := ⟨r, 1, none⟩) (by simp) (.bool true))
    clear h h0 HE l1 l2
    go_enter Tryz.func66, Tryz.ntmps66
    go_wp2_with fail
    go_ret
    exact RPost.ret HS.out H1.out hk.out
  · have HE : rStepE T = 0 := by rw [rStepE, if_neg h0]
    rw [HE]
    by_cases hp : 0 < T.left
    · have HS := Lib.hid (show { T with left := T.left - 1 } = rStepS T by rw [rStepS, if_neg h0, if_pos hp])
      have H2 := Lib.hid (h.setLeft (T.left - 1) (by omega) (by omega))
      have hk := Lib.hid ((Keep.refl [r, gs] w).setCell (a := ⟨r, 2, none⟩) (by simp) (.int .i64 (T.left - 1)))
      clear HE
      generalize T.left = n at *
      clear h
      go_enter Tryz.func66, Tryz.ntmps66
      go_wp2_with fail
      go_ret
      exact RPost.ret HS.out H2.out hk.out
    · have HS := Lib.hid (show T = rStepS T by rw [rStepS, if_neg h0, if_neg hp])
      have H2 := Lib.hid h
      clear HE h
      generalize T.left = n at *
      go_enter Tryz.func66, Tryz.ntmps66
      go_wp2_with fail
      go_ret
      exact RPost.ret HS.out H2.out (Keep.refl _ _)

theorem rtrip_any (w : World) (r gs : Nat) (T : RSt) (h : RefAt w r gs T) (n : Int) (l1 : -9223372036854775808 ≤ n) (l2 : n ≤ 9223372036854775807) :
    Calls Tryz.prog 25 #[.pointer (some ⟨r, 0, none⟩), .int .i64 n] w (RPost (.tuple #[]) r gs (rTripS T n) w) := by
  have hn := h.setLeft (max (-1) n) (by omega) (by omega)
  have c2 := h.heads.2.2
  have f2 := h.head.frozen 2
  have HN := Lib.hid hn
  clear h hn
  go_enter Tryz.func25, Tryz.ntmps25
  go_wp2_with fail
  go_end0
  exact ⟨rfl, HN.out, (Keep.refl _ _).setCell (by simp) _⟩

theorem rwear_any (w : World) (r gs : Nat) (T : RSt) (h : RefAt w r gs T) (i : Int) :
    Calls Tryz.prog 30 #[.pointer (some ⟨r, 0, none⟩), .int .i64 i] w (RPost (.int .i64 (rWearE T i)) r gs (rWearS T i) w) := by
  have n2 := h.n2
  have H := Lib.hid h
  cases hi : rIs T i
  · have hE : rWearE T i = 1 := by rw [rWearE, hi]; rfl
    have HS := Lib.hid (show T = rWearS T i by rw [rWearS, hi]; rfl)
    rw [hE]
    have HI := Lib.hid hi
    clear h hi hE n2
    go_enter Tryz.func30, Tryz.ntmps30
    go_wp2_with fail
    refine (is_any w r gs T H.out i false HI).mono ?_
    rintro e w' ⟨rfl, rfl⟩
    go_wp2_with fail
    go_ret
    exact RPost.ret HS.out H.out (Keep.refl _ _)
  · have hE : rWearE T i = 0 := by rw [rWearE, hi]; rfl
    have HS := Lib.hid (show { T with s := T.s.set i.toNat { T.s.getD i.toNat zs with worn := true } } = rWearS T i by rw [rWearS, hi]; rfl)
    rw [hE]
    have HI := Lib.hid hi
    have hr := is_range hi
    obtain ⟨m, rfl⟩ : ∃ m : Nat, i = m := ⟨i.toNat, by omega⟩
    have hm : m < T.s.length := by omega
    obtain ⟨x, hx⟩ : ∃ x, T.s[m]? = some x := ⟨_, List.getElem?_eq_getElem hm⟩
    obtain ⟨d0, d1, d2, d3⟩ := h.sec hx
    have f3 := h.rows.frozen (m * 4 + 3)
    have hxm := List.mem_of_getElem? hx
    have H1 := Lib.hid (h.setSec (c := 3) hx (by omega) { x with worn := true } (.bool true) rfl (h.t64 x hxm) (h.n64 x hxm))
    have hk := Lib.hid ((Keep.refl [r, gs] w).setCell (a := ⟨gs, m * 4 + 3, none⟩) (by simp) (.bool true))
    obtain ⟨c0, c1, c2⟩ := h.heads
    rw [Int.toNat_natCast, getD_some hx] at HS
    obtain ⟨n, hn⟩ : ∃ n, n = T.s.length := ⟨_, rfl⟩
    rw [← hn] at c0 hm n2
    have j1 : (m : Int) < (n : Int) := by omega
    have j0 : (0 : Int) ≤ (m : Int) := by omega
    clear h hi hE hr hxm hx hn
    go_enter Tryz.func30, Tryz.ntmps30
    go_wp2_with fail
    refine (is_any w r gs T H.out m true HI).mono ?_
    rintro e w' ⟨rfl, rfl⟩
    go_wp2_with fail
    go_ret
    exact RPost.ret HS.out H1.out hk.out

theorem rread_any (w : World) (r gs : Nat) (T : RSt) (h : RefAt w r gs T) (i : Int) :
    Calls Tryz.prog 55 #[.pointer (some ⟨r, 0, none⟩), .int .i64 i] w (Ret (StrErr (rReadB T i) (rReadE T i)) w) := by
  have n2 := h.n2
  have H := Lib.hid h
  obtain ⟨c0, c1, c2⟩ := h.heads
  cases ho : T.off
  · cases hi : rIs T i
    · have hE : rReadE T i = 1 := by rw [rReadE, ho, hi]; rfl
      have hB : rReadB T i = [] := by rw [rReadB, hE]; rfl
      rw [hE, hB]
      rw [ho] at c1
      have HI := Lib.hid hi
      unfold StrErr
      clear h hi hE hB n2 ho
      go_enter Tryz.func55, Tryz.ntmps55
      go_wp2_with fail
      refine (is_any w r gs T H.out i false HI).mono ?_
      rintro e w' ⟨rfl, rfl⟩
      go_wp2_with fail
      go_ret2
      exact Ret.mk
    · have hE : rReadE T i = 0 := by rw [rReadE, ho, hi]; rfl
      have HI := Lib.hid hi
      have hr := is_range hi
      obtain ⟨m, rfl⟩ : ∃ m : Nat, i = m := ⟨i.toNat, by omega⟩
      have hm : m < T.s.length := by omega
      obtain ⟨x, hx⟩ : ∃ x, T.s[m]? = some x := ⟨_, List.getElem?_eq_getElem hm⟩
      obtain ⟨d0, d1, d2, d3⟩ := h.sec hx
      have hB : rReadB T m = if x.dirty then x.next else x.text := by rw [rReadB, hE, if_neg (by simp), Int.toNat_natCast, getD_some hx]
      rw [hE, hB]
      rw [ho] at c1
      obtain ⟨n, hn⟩ : ∃ n, n = T.s.length := ⟨_, rfl⟩
      rw [← hn] at c0 hm n2
      have j1 : (m : Int) < (n : Int) := by omega
      have j0 : (0 : Int) ≤ (m : Int) := by omega
      unfold StrErr
      clear h hi hE hr hx hn ho hB
      cases hd : x.dirty
      · rw [hd] at d2
        go_enter Tryz.func55, Tryz.ntmps55
        go_wp2_with fail
        refine (is_any w r gs T H.out m true HI).mono ?_
        rintro e w' ⟨rfl, rfl⟩
        go_wp2_with fail
        go_ret2
        exact Ret.mk
      · rw [hd] at d2
        go_enter Tryz.func55, Tryz.ntmps55
        go_wp2_with fail
        refine (is_any w r gs T H.out m true HI).mono ?_
        rintro e w' ⟨rfl, rfl⟩
        go_wp2_with fail
        go_ret2
        exact Ret.mk
  · have hE : rReadE T i = 24 := by rw [rReadE, ho]; rfl
    have hB : rReadB T i = [] := by rw [rReadB, hE]; rfl
    rw [hE, hB]
    rw [ho] at c1
    unfold StrErr
    clear h hE hB n2 ho
    go_enter Tryz.func55, Tryz.ntmps55
    go_wp2_with fail
    go_ret2
    exact Ret.mk
end Go.Proofs.YtddpjahoeldleaaGreatDoor.Dk

/-! The reference's methods: Write, settle, Rot. -/
namespace Go.Proofs.YtddpjahoeldleaaGreatDoor.Dk
open Go.RowKit Go.Maps

theorem mk_sz (b : Bs) : (⟨b.toArray⟩ : ByteArray).size = b.length := by simp [ByteArray.size]
theorem rstep_s (T : RSt) : (rStepS T).s = T.s := by
  unfold rStepS
  split
  · rfl
  · split
    · rfl
    · rfl
set_option maxRecDepth 100000 in
theorem rwrite_all (w : World) (r gs : Nat) (T : RSt) (h : RefAt w r gs T) (i : Int) (s : ByteArray) :
    Calls Tryz.prog 33 #[.pointer (some ⟨r, 0, none⟩), .int .i64 i, .string s] w (RPost (.int .i64 (rWriteE T i s.data.toList)) r gs (rWriteS T i s.data.toList) w) := by
  have hls : s.data.toList.length = s.size := by simp
  have n2 := h.n2
  have H := Lib.hid h
  obtain ⟨c0, c1, c2⟩ := h.heads
  cases ho : T.off
  · rw [ho] at c1
    cases hi : rIs T i
    · have hE : rWriteE T i s.data.toList = 1 := by rw [rWriteE, ho, hi]; rfl
      have HS := Lib.hid (show T = rWriteS T i s.data.toList by rw [rWriteS, if_pos (by simp [hi])])
      rw [hE]
      have HI := Lib.hid hi
      clear h hi hE n2 hls ho
      go_enter Tryz.func33, Tryz.ntmps33
      go_wp2_with fail
      refine (is_any w r gs T H.out i false HI).mono ?_
      rintro e w' ⟨rfl, rfl⟩
      go_wp2_with fail
      go_ret
      exact RPost.ret HS.out H.out (Keep.refl _ _)
    · have HI := Lib.hid hi
      by_cases h64 : s.size = 64
      · have l64 : s.data.toList.length = 64 := by rw [hls, h64]
        have hE : rWriteE T i s.data.toList = rStepE T := by rw [rWriteE, ho, hi]; simp [l64]
        have hS : rWriteS T i s.data.toList = if rStepE T ≠ 0 then rStepS T else { rStepS T with s := T.s.set i.toNat { T.s.getD i.toNat zs with next := s.data.toList, dirty := true } } := by
          rw [rWriteS, if_neg (by simp [ho, hi, l64])]
        rw [hE]
        have HS := Lib.hid hS
        obtain ⟨b, hb⟩ : ∃ b, b = s.data.toList := ⟨_, rfl⟩
        rw [← hb] at l64 HS ⊢
        have HB := Lib.hid hb
        obtain ⟨E, hEE⟩ : ∃ E, E = rStepE T := ⟨_, rfl⟩
        rw [← hEE] at HS ⊢
        have HEE := Lib.hid hEE
        have hf : (s.size : Int) = 64 := by omega
        have HR := Lib.hid (is_range hi)
        have HTS := Lib.hid (show (rStepS T).s = T.s by exact rstep_s T)
        clear h hi hE hS hb hEE hls ho n2 c0 c2
        go_enter Tryz.func33, Tryz.ntmps33
        go_wp2_with fail
        refine (is_any w r gs T H.out i true HI).mono ?_
        rintro e w' ⟨rfl, rfl⟩
        go_wp2_with fail
        refine (rstep_any w r gs T H.out).mono ?_
        rintro e w2 ⟨rfl, h2, k2⟩
        rw [← HEE.out]
        by_cases hE0 : E = 0
        · subst hE0
          have hr := HR.out
          obtain ⟨m, rfl⟩ : ∃ m : Nat, i = m := ⟨i.toNat, by omega⟩
          have hm : m < T.s.length := by omega
          obtain ⟨x, hx⟩ : ∃ x, T.s[m]? = some x := ⟨_, List.getElem?_eq_getElem hm⟩
          have hx2 : (rStepS T).s[m]? = some x := by rw [HTS.out]; exact hx
          obtain ⟨d0, d1, d2, d3⟩ := h2.sec hx2
          have hxm := List.mem_of_getElem? hx2
          have f1 := h2.rows.frozen (m * 4 + 1)
          obtain ⟨e0, e1, e2⟩ := h2.heads
          have n2 := h2.n2
          have h3 := h2.setSec (c := 1) hx2 (by omega) { x with next := b } (.string s) (by rw [HB.out]; cases s; simp [secCells, str]) (h2.t64 x hxm) (fun _ => l64)
          have hx3 : ((rStepS T).s.set m { x with next := b })[m]? = some { x with next := b } := List.getElem?_set_self (by rw [HTS.out]; exact hm)
          obtain ⟨g0, g1, g2, g3⟩ := h3.sec hx3
          have f2 := h3.rows.frozen (m * 4 + 2)
          obtain ⟨k0, _, _⟩ := h3.heads
          have h4 := h3.setSec (c := 2) hx3 (by omega) { x with next := b, dirty := true } (.bool true) rfl (h2.t64 x hxm) (fun _ => l64)
          have HK := Lib.hid ((k2.setCell (a := ⟨gs, m * 4 + 1, none⟩) (by simp) (.string s)).setCell (a := ⟨gs, m * 4 + 2, none⟩) (by simp) (.bool true))
          rw [Int.toNat_natCast, getD_some hx] at HS
          have H4 := Lib.hid h4
          obtain ⟨n, hn⟩ : ∃ n, n = (rStepS T).s.length := ⟨_, rfl⟩
          rw [show ({ rStepS T with s := (rStepS T).s.set m { x with next := b } } : RSt).s.length = n from by rw [hn]; exact List.length_set] at k0
          rw [← hn] at e0 n2
          have j1 : (m : Int) < (n : Int) := by rw [hn, HTS.out]; omega
          have j0 : (0 : Int) ≤ (m : Int) := by omega
          clear h2 h3 h4 k2 hx hx2 hx3 hxm hn hr hm HR d2 g0 g3
          go_wp2_with fail
          go_ret
          refine RPost.ret ?_ H4.out HK.out
          rw [HS.out, if_neg (by simp)]
          show ({ rStepS T with s := ((rStepS T).s.set m _).set m _ } : RSt) = _
          rw [List.set_set, HTS.out]
        · have hb : (E == 0) = false := beq_eq_false_iff_ne.2 hE0
          have H2 := Lib.hid h2
          have K2 := Lib.hid k2
          clear h2 k2
          go_wp2_with fail
          go_ret
          exact RPost.ret (by rw [HS.out, if_pos hE0]) H2.out K2.out
      · have hne : s.data.toList.length ≠ 64 := by rw [hls]; exact h64
        have hE : rWriteE T i s.data.toList = 1 := by rw [rWriteE, ho, hi, decide_eq_true hne]; rfl
        have HS := Lib.hid (show T = rWriteS T i s.data.toList by rw [rWriteS, if_pos (.inr (by rw [decide_eq_true hne]; simp))])
        rw [hE]
        have hf : ((s.size : Int) == 64) = false := beq_eq_false_iff_ne.2 (by omega)
        clear h hi hE n2 hls h64 ho hne
        go_enter Tryz.func33, Tryz.ntmps33
        go_wp2_with fail
        refine (is_any w r gs T H.out i true HI).mono ?_
        rintro e w' ⟨rfl, rfl⟩
        go_wp2_with fail
        go_ret
        exact RPost.ret HS.out H.out (Keep.refl _ _)
  · rw [ho] at c1
    have hE : rWriteE T i s.data.toList = 24 := by rw [rWriteE, ho]; rfl
    have HS := Lib.hid (show T = rWriteS T i s.data.toList by rw [rWriteS, if_pos (.inl ho)])
    rw [hE]
    clear h hE n2 hls ho
    go_enter Tryz.func33, Tryz.ntmps33
    go_wp2_with fail
    go_ret
    exact RPost.ret HS.out H.out (Keep.refl _ _)

theorem rwrite_any (w : World) (r gs : Nat) (T : RSt) (h : RefAt w r gs T) (i : Int) (s : ByteArray) (_hs : s.size ≤ 9223372036854775807) :
    Calls Tryz.prog 33 #[.pointer (some ⟨r, 0, none⟩), .int .i64 i, .string s] w (RPost (.int .i64 (rWriteE T i s.data.toList)) r gs (rWriteS T i s.data.toList) w) :=
  rwrite_all w r gs T h i s
theorem torn_bytes (a b : Bs) (q : Nat) (hb : b.length = 64) : (⟨a.toArray⟩ : ByteArray).extract 0 q ++ (⟨b.toArray⟩ : ByteArray).extract q 64 = ⟨(tornB a b q).toArray⟩ := by
  apply ByteArray.ext
  rw [ByteArray.data_append, ByteArray.data_extract, ByteArray.data_extract]
  apply Array.toList_inj.1
  rw [Array.toList_append, Array.toList_extract, Array.toList_extract]
  simp only [tornB, List.extract_eq_take_drop, List.drop_zero, Nat.sub_zero]
  rw [List.take_of_length_le (i := 64 - q) (by rw [List.length_drop]; omega)]
theorem rows4 (l : List Sec) (E : List Value) (m : Nat) (x : Sec) (hx : l[m]? = some x) (V : Bs) :
    ((((secsCells l ++ E).toArray.setIfInBounds (m * 4) (str V)).setIfInBounds (m * 4 + 1) (str [])).setIfInBounds (m * 4 + 2) (.bool false)).setIfInBounds (m * 4 + 3) (.bool x.worn) = (secsCells (l.set m ⟨V, [], false, x.worn⟩) ++ E).toArray := by
  have hm := (List.getElem?_eq_some_iff.1 hx).1
  have hl : (secsCells l).length = l.length * 4 := secsCells_length l
  simp only [List.setIfInBounds_toArray]
  congr 1
  rw [List.set_append_left _ _ (by rw [hl]; omega), List.set_append_left _ _ (by rw [List.length_set, hl]; omega), List.set_append_left _ _ (by rw [List.length_set, List.length_set, hl]; omega), List.set_append_left _ _ (by rw [List.length_set, List.length_set, List.length_set, hl]; omega)]
  congr 1
  have e0 := secs_set l m 0 x { x with text := V } (str V) hx (by omega) rfl
  have e1 := secs_set (l.set m { x with text := V }) m 1 _ { x with text := V, next := [] } (str []) (List.getElem?_set_self hm) (by omega) rfl
  have e2 := secs_set ((l.set m { x with text := V }).set m { x with text := V, next := [] }) m 2 _ ⟨V, [], false, x.worn⟩ (.bool false) (List.getElem?_set_self (by rw [List.length_set]; exact hm)) (by omega) rfl
  have e3 := secs_set (((l.set m { x with text := V }).set m { x with text := V, next := [] }).set m ⟨V, [], false, x.worn⟩) m 3 _ ⟨V, [], false, x.worn⟩ (.bool x.worn) (List.getElem?_set_self (by rw [List.length_set, List.length_set]; exact hm)) (by omega) rfl
  rw [Nat.add_zero] at e0
  rw [e0, e1, e2, e3, List.set_set, List.set_set, List.set_set]

/-- a sector stored whole -/
theorem RefAt.store {w : World} {r gs : Nat} {T : RSt} (h : RefAt w r gs T) {m : Nat} {x : Sec} (hx : T.s[m]? = some x) (V : Bs) (hV : V.length = 64) (sV : ByteArray) (hs : sV = ⟨V.toArray⟩) (b : Bool) (hb : b = x.worn) :
    RefAt ((((w.setCell ⟨gs, m * 4, none⟩ (.string sV)).setCell ⟨gs, m * 4 + 1, none⟩ (.string ⟨#[]⟩)).setCell ⟨gs, m * 4 + 2, none⟩ (.bool false)).setCell ⟨gs, m * 4 + 3, none⟩ (.bool b)) r gs { T with s := T.s.set m ⟨V, [], false, x.worn⟩ } := by
  subst hs hb
  have h1 := (((h.rows.set_ (m * 4) (str V)).set_ (m * 4 + 1) (str [])).set_ (m * 4 + 2) (.bool false)).set_ (m * 4 + 3) (.bool x.worn)
  rw [rows4 T.s T.ext m x hx V] at h1
  refine h.turned h1 ?_ List.length_set (mem_set_or h.t64 hV) (mem_set_or (P := fun x => x.dirty = true → x.next.length = 64) h.n64 (fun e => by cases e))
  rw [Below.heap_setCell _ _ _ _ h.ne, Below.heap_setCell _ _ _ _ h.ne, Below.heap_setCell _ _ _ _ h.ne, Below.heap_setCell _ _ _ _ h.ne]
/-- what the walk asks of the four stores -/
theorem RefAt.four {w : World} {r gs : Nat} {T : RSt} (h : RefAt w r gs T) {m : Nat} (hm : m < T.s.length) (u0 u1 u2 : Value) :
    (∃ v, w.cell? ⟨gs, m * 4, none⟩ = some v) ∧ w.frozen? ⟨gs, m * 4, none⟩ = false ∧
    (∃ v, (w.setCell ⟨gs, m * 4, none⟩ u0).cell? ⟨gs, m * 4 + 1, none⟩ = some v) ∧ (w.setCell ⟨gs, m * 4, none⟩ u0).frozen? ⟨gs, m * 4 + 1, none⟩ = false ∧
    (∃ v, ((w.setCell ⟨gs, m * 4, none⟩ u0).setCell ⟨gs, m * 4 + 1, none⟩ u1).cell? ⟨gs, m * 4 + 2, none⟩ = some v) ∧ ((w.setCell ⟨gs, m * 4, none⟩ u0).setCell ⟨gs, m * 4 + 1, none⟩ u1).frozen? ⟨gs, m * 4 + 2, none⟩ = false ∧
    (∃ v, (((w.setCell ⟨gs, m * 4, none⟩ u0).setCell ⟨gs, m * 4 + 1, none⟩ u1).setCell ⟨gs, m * 4 + 2, none⟩ u2).cell? ⟨gs, m * 4 + 3, none⟩ = some v) ∧ (((w.setCell ⟨gs, m * 4, none⟩ u0).setCell ⟨gs, m * 4 + 1, none⟩ u1).setCell ⟨gs, m * 4 + 2, none⟩ u2).frozen? ⟨gs, m * 4 + 3, none⟩ = false := by
  have h0 := h.rows
  have h1 := h0.set_ (m * 4) u0
  have h2 := h1.set_ (m * 4 + 1) u1
  have h3 := h2.set_ (m * 4 + 2) u2
  have hl : (secsCells T.s).length = T.s.length * 4 := secsCells_length T.s
  refine ⟨?_, h0.frozen _, ?_, h1.frozen _, ?_, h2.frozen _, ?_, h3.frozen _⟩
  · rw [h0.cell]; exact ⟨_, Array.getElem?_eq_getElem (by simp [hl]; omega)⟩
  · rw [h1.cell]; exact ⟨_, Array.getElem?_eq_getElem (by simp [hl]; omega)⟩
  · rw [h2.cell]; exact ⟨_, Array.getElem?_eq_getElem (by simp [hl]; omega)⟩
  · rw [h3.cell]; exact ⟨_, Array.getElem?_eq_getElem (by simp [hl]; omega)⟩

set_option maxHeartbeats 4000000 in
set_option maxRecDepth 100000 in
theorem rsettle_any (w : World) (r gs : Nat) (T : RSt) (h : RefAt w r gs T) (m : Nat) (x : Sec) (hx : T.s[m]? = some x) (hd : x.dirty = true) (p : Int) :
    Calls Tryz.prog 62 #[.pointer (some ⟨r, 0, none⟩), .int .i64 (m : Int), .int .i64 p] w (RPost (.tuple #[]) r gs { T with s := T.s.set m (settleX x p) } w) := by
  have n2 := h.n2
  have hm := (List.getElem?_eq_some_iff.1 hx).1
  obtain ⟨c0, c1, c2⟩ := h.heads
  obtain ⟨d0, d1, d2, d3⟩ := h.sec hx
  rw [hd] at d2
  have hxm := List.mem_of_getElem? hx
  have t64 := h.t64 x hxm
  have x64 := h.n64 x hxm hd
  obtain ⟨sT, hsT⟩ : ∃ sT : ByteArray, sT = ⟨x.text.toArray⟩ := ⟨_, rfl⟩
  obtain ⟨sN, hsN⟩ : ∃ sN : ByteArray, sN = ⟨x.next.toArray⟩ := ⟨_, rfl⟩
  have zT : sT.size = 64 := by rw [hsT, mk_sz, t64]
  have zN : sN.size = 64 := by rw [hsN, mk_sz, x64]
  rw [show str x.text = .string sT by rw [hsT]] at d0
  rw [show str x.next = .string sN by rw [hsN]] at d1
  obtain ⟨q, hq⟩ : ∃ q, q = pq p := ⟨_, rfl⟩
  have q64 : q ≤ 64 := by rw [hq]; exact pq_le p
  have hmx : max 0 (min p 64) = (q : Int) := by rw [hq, pq]; omega
  have q1 : (q : Int) ≤ 64 := by omega
  have q0 : (0 : Int) ≤ (q : Int) := by omega
  obtain ⟨n, hn⟩ : ∃ n, n = T.s.length := ⟨_, rfl⟩
  rw [← hn] at c0 hm n2
  have j1 : (m : Int) < (n : Int) := by omega
  have j0 : (0 : Int) ≤ (m : Int) := by omega
  have H := Lib.hid h
  have hx' := hx
  have hn' := hn
  clear h hx hxm hn
  obtain ⟨w1, hw1⟩ : ∃ w1, w1 = w.alloc (.cells #[.string sT, .string sN, .bool true, .bool x.worn] 104) := ⟨_, rfl⟩
  have hB := Blk.new w 104 #[.string sT, .string sN, .bool true, .bool x.worn]
  rw [← hw1] at hB
  have HB := Lib.hid hB
  have HBE := Lib.hid (show Below w.heap.size w w1 by rw [hw1]; exact below_new w _)
  have HT := Lib.hid hsT
  have HN := Lib.hid hsN
  have HQ := Lib.hid hq
  have HX := Lib.hid hx'
  have HLN := Lib.hid hn'
  have f0 : w1.cell? ⟨w.heap.size, 0, none⟩ = some (.string sT) := hB.cell 0
  have f1 : w1.cell? ⟨w.heap.size, 1, none⟩ = some (.string sN) := hB.cell 1
  have f2 : w1.cell? ⟨w.heap.size, 2, none⟩ = some (.bool true) := hB.cell 2
  have f3 : w1.cell? ⟨w.heap.size, 3, none⟩ = some (.bool x.worn) := hB.cell 3
  clear hsT hsN hq hB hx' hn'
  cases hw : x.worn
  · rw [hw] at d3 f3
    rw [hw] at hw1
    go_enter Tryz.func62, Tryz.ntmps62
    go_wp2_with fail
    rw [← hw1]
    clear hw1
    go_still_tail 10, (by kernel_rfl)
    change wpList _ _ _ _ _ w1.drew
    obtain ⟨sV, hsV⟩ : ∃ sV, sV = sN.extract 0 q ++ sT.extract q 64 := ⟨_, rfl⟩
    rw [← hsV]
    have hBd : Blk w1.drew w.heap.size 104 #[.string sT, .string sN, .bool true, .bool x.worn] := HB.out
    have HBd := Lib.hid (show Below w.heap.size w w1.drew from HBE.out.drew)
    clear f0 f1 f2 f3 HB HBE
    generalize w1.drew = w2 at *
    have k1 := hBd.frozen 0
    have hB1 := hBd.set_ 0 (.string sV)
    have k2 := hB1.frozen 1
    have hB2 := hB1.set_ 1 (.string ⟨#[]⟩)
    have k3 := hB2.frozen 2
    have hB3 := hB2.set_ 2 (.bool false)
    have o1 := hBd.cell 0
    have o2 := hB1.cell 1
    have o3 := hB2.cell 2
    obtain ⟨w3, hw3⟩ : ∃ w3, w3 = ((w2.setCell ⟨w.heap.size, 0, none⟩ (.string sV)).setCell ⟨w.heap.size, 1, none⟩ (.string ⟨#[]⟩)).setCell ⟨w.heap.size, 2, none⟩ (.bool false) := ⟨_, rfl⟩
    have HE := Lib.hid (show Below w.heap.size w w3.drew by rw [hw3]; exact (((HBd.out.setCell (Nat.le_refl _) (.string sV)).setCell (Nat.le_refl _) (.string ⟨#[]⟩)).setCell (Nat.le_refl _) (.bool false)).drew)
    have HB3 := Lib.hid (show Blk w3.drew w.heap.size 104 #[.string sV, .string ⟨#[]⟩, .bool false, .bool x.worn] by rw [hw3]; exact hB3)
    have HV := Lib.hid hsV
    clear hB1 hB2 hB3 hBd hsV HBd
    go_wp2_with fail
    rw [← hw3]
    clear hw3 k1 k2 k3 o1 o2 o3
    have H3 := Lib.hid (H.out.below HE.out H.out.lt.1 H.out.lt.2)
    obtain ⟨e0, -, -⟩ := H3.out.heads
    have o0 := HB3.out.cell 0
    have o1 := HB3.out.cell 1
    have o2 := HB3.out.cell 2
    have o3 := HB3.out.cell 3
    have LN := Lib.hid (show T.s.length = n by rw [HLN.out])
    rw [LN.out] at e0
    rw [show (#[Value.string sV, .string ⟨#[]⟩, .bool false, .bool x.worn] : Array Value)[3]? = some (.bool false) by rw [hw]; rfl] at o3
    have HMS := Lib.hid (show m < T.s.length by rw [LN.out]; exact hm)
    obtain ⟨⟨v0, z0⟩, y0, ⟨v1, z1⟩, y1, ⟨v2, z2⟩, y2, ⟨v3, z3⟩, y3⟩ := H3.out.four HMS.out (.string sV) (.string ⟨#[]⟩) (.bool false)
    have HF := Lib.hid (H3.out.store HX.out (tornB x.next x.text q) (torn_length x64 t64 q64) sV (by rw [HV.out, HN.out, HT.out]; exact torn_bytes _ _ _ t64) false hw.symm)
    have HK := Lib.hid (((((Keep.of_below HE.out [r, gs]).setCell (a := ⟨gs, m * 4, none⟩) (by simp) (.string sV)).setCell (a := ⟨gs, m * 4 + 1, none⟩) (by simp) (.string ⟨#[]⟩)).setCell (a := ⟨gs, m * 4 + 2, none⟩) (by simp) (.bool false)).setCell (a := ⟨gs, m * 4 + 3, none⟩) (by simp) (.bool false))
    go_still_tail 7, (by kernel_rfl)
    change wpList _ _ _ _ _ w3.drew
    clear H3 HB3 HE d0 d1 d2 d3 c0 c1 c2 o0 o1 o2 o3 e0
    generalize w3.drew = w4 at *
    go_wp2_with fail
    go_end0
    refine ⟨rfl, ?_, HK.out⟩
    have he : settleX x p = ⟨tornB x.next x.text q, [], false, x.worn⟩ := by
      unfold settleX
      rw [hw, HQ.out]
      rfl
    rw [he]
    exact HF.out
  · rw [hw] at d3
    clear hw1 f0 f1 f2 f3 HB HBE
    obtain ⟨w3, hw3⟩ : ∃ w3, w3 = w.alloc (.cells #[.string sT, .string ⟨#[]⟩, .bool false, .bool true] 104) := ⟨_, rfl⟩
    have HE := Lib.hid (show Below w.heap.size w w3.drew by rw [hw3]; exact (below_new w _).drew)
    have HB3 := Lib.hid (show Blk w3.drew w.heap.size 104 #[.string sT, .string ⟨#[]⟩, .bool false, .bool x.worn] by rw [hw3, hw]; exact Blk.new w 104 _)
    go_enter Tryz.func62, Tryz.ntmps62
    go_wp2_with fail
    rw [← hw3]
    clear hw3
    have H3 := Lib.hid (H.out.below HE.out H.out.lt.1 H.out.lt.2)
    obtain ⟨e0, -, -⟩ := H3.out.heads
    have o0 := HB3.out.cell 0
    have o1 := HB3.out.cell 1
    have o2 := HB3.out.cell 2
    have o3 := HB3.out.cell 3
    have LN := Lib.hid (show T.s.length = n by rw [HLN.out])
    rw [LN.out] at e0
    rw [show (#[Value.string sT, .string ⟨#[]⟩, .bool false, .bool x.worn] : Array Value)[3]? = some (.bool true) by rw [hw]; rfl] at o3
    have HMS := Lib.hid (show m < T.s.length by rw [LN.out]; exact hm)
    obtain ⟨⟨v0, z0⟩, y0, ⟨v1, z1⟩, y1, ⟨v2, z2⟩, y2, ⟨v3, z3⟩, y3⟩ := H3.out.four HMS.out (.string sT) (.string ⟨#[]⟩) (.bool false)
    have HF := Lib.hid (H3.out.store HX.out x.text t64 sT HT.out true hw.symm)
    have HK := Lib.hid (((((Keep.of_below HE.out [r, gs]).setCell (a := ⟨gs, m * 4, none⟩) (by simp) (.string sT)).setCell (a := ⟨gs, m * 4 + 1, none⟩) (by simp) (.string ⟨#[]⟩)).setCell (a := ⟨gs, m * 4 + 2, none⟩) (by simp) (.bool false)).setCell (a := ⟨gs, m * 4 + 3, none⟩) (by simp) (.bool true))
    go_still_tail 7, (by kernel_rfl)
    change wpList _ _ _ _ _ w3.drew
    clear H3 HB3 HE d0 d1 d2 d3 c0 c1 c2 o0 o1 o2 o3 e0
    generalize w3.drew = w4 at *
    go_wp2_with fail
    go_end0
    refine ⟨rfl, ?_, HK.out⟩
    have he : settleX x p = ⟨x.text, [], false, x.worn⟩ := by
      unfold settleX
      rw [hw]
      rfl
    rw [he]
    exact HF.out

set_option maxHeartbeats 4000000 in
set_option maxRecDepth 100000 in
theorem rrot_any (w : World) (r gs : Nat) (T : RSt) (h : RefAt w r gs T) (i bit : Int) :
    Calls Tryz.prog 28 #[.pointer (some ⟨r, 0, none⟩), .int .i64 i, .int .i64 bit] w (RPost (.int .i64 (rRotE T i bit)) r gs (rRotS T i bit) w) := by
  have n2 := h.n2
  have H := Lib.hid h
  cases hr : rRotOK T i bit
  · have hE : rRotE T i bit = 1 := by rw [rRotE, hr]; rfl
    have HS := Lib.hid (show T = rRotS T i bit by rw [rRotS, hr]; rfl)
    rw [hE]
    cases hi : rIs T i
    · have HI := Lib.hid hi
      clear h hi hE n2 hr
      go_enter Tryz.func28, Tryz.ntmps28
      go_wp2_with fail
      refine (is_any w r gs T H.out i false HI).mono ?_
      rintro e w' ⟨rfl, rfl⟩
      go_wp2_with fail
      go_ret
      exact RPost.ret HS.out H.out (Keep.refl _ _)
    · have HI := Lib.hid hi
      have hb : bit < 0 ∨ (0 ≤ bit ∧ 511 < bit) := by
        unfold rRotOK at hr
        rw [hi] at hr
        simp at hr
        omega
      clear h hi hE n2 hr
      rcases hb with hb | ⟨hb0, hb⟩
      all_goals
        go_enter Tryz.func28, Tryz.ntmps28
        go_wp2_with fail
        refine (is_any w r gs T H.out i true HI).mono ?_
        rintro e w' ⟨rfl, rfl⟩
        go_wp2_with fail
        go_ret
        exact RPost.ret HS.out H.out (Keep.refl _ _)
  · have hE : rRotE T i bit = 0 := by rw [rRotE, hr]; rfl
    have HS := Lib.hid (show { T with s := T.s.set i.toNat { T.s.getD i.toNat zs with text := flipB (T.s.getD i.toNat zs).text bit.toNat } } = rRotS T i bit by rw [rRotS, hr]; rfl)
    rw [hE]
    have hi : rIs T i = true := (Bool.and_eq_true_iff.1 hr).1
    have hb : 0 ≤ bit ∧ bit < 512 := by simpa using (Bool.and_eq_true_iff.1 hr).2
    have HI := Lib.hid hi
    have hR := is_range hi
    obtain ⟨m, rfl⟩ : ∃ m : Nat, i = m := ⟨i.toNat, by omega⟩
    obtain ⟨q, rfl⟩ : ∃ q : Nat, bit = q := ⟨bit.toNat, by omega⟩
    have hm : m < T.s.length := by omega
    obtain ⟨x, hx⟩ : ∃ x, T.s[m]? = some x := ⟨_, List.getElem?_eq_getElem hm⟩
    obtain ⟨d0, d1, d2, d3⟩ := h.sec hx
    have hxm := List.mem_of_getElem? hx
    have t64 := h.t64 x hxm
    have x64 := h.n64 x hxm
    obtain ⟨c0, c1, c2⟩ := h.heads
    obtain ⟨sT, hsT⟩ : ∃ sT : ByteArray, sT = ⟨x.text.toArray⟩ := ⟨_, rfl⟩
    have zT : sT.size = 64 := by rw [hsT, mk_sz, t64]
    rw [show str x.text = .string sT by rw [hsT]] at d0
    have hcv := Lib.run_convert_string_bytes (P := Tryz.prog) w 9 84 5 sT Tryz.underlying9 Tryz.underlying84 Tryz.underlying5
    rw [zT] at hcv
    have hbn := Lib.bytesWorld_at_new w 5 sT
    have hbl : Below w.heap.size w (Lib.bytesWorld w 5 sT) := ⟨rfl, rfl, rfl, by rw [Lib.bytesWorld_size]; exact Nat.le_succ _, fun k hk => Lib.bytesWorld_at_old w 5 sT k hk⟩
    have hbc : ∀ j, j < 64 → (Lib.bytesCells w 5 sT)[j]? = some (.int .u8 ((x.text.getD j 0).toNat : Int)) := fun j hj => by
      have := Lib.bytesWorld_cell w 5 sT j (by omega)
      rw [cell_of_row _ _ _ _ _ _ hbn] at this
      rw [this, hsT]
    generalize Lib.bytesWorld w 5 sT = w1 at *
    generalize grownCap w 64 0 5 = cp at *
    generalize Lib.bytesCells w 5 sT = CB at *
    have hCs : 64 ≤ CB.size := by
      have := (Array.getElem?_eq_some_iff.1 (hbc 63 (by omega))).1
      omega
    obtain ⟨d, hd⟩ : ∃ d, d = q / 8 := ⟨_, rfl⟩
    obtain ⟨rr, hrr⟩ : ∃ rr, rr = q % 8 := ⟨_, rfl⟩
    have hdm : d < 64 := by omega
    obtain ⟨y, hy⟩ : ∃ y, y = x.text.getD d 0 := ⟨_, rfl⟩
    have hby : w1.drew.cell? ⟨w.heap.size, d, none⟩ = some (.int .u8 (y.toNat : Int)) := by
      show w1.cell? _ = _
      rw [cell_of_row _ _ _ _ _ _ hbn, hbc d hdm, hy]
    have hfz : w1.drew.frozen? ⟨w.heap.size, d, none⟩ = false := by
      show w1.frozen? _ = false
      unfold World.frozen?
      rw [hbn]
      simp
      omega
    have hxr := xor_u8 y (bitOf q)
    have hsh := shl_one rr (by omega)
    rw [show ((1 : UInt8) <<< (UInt8.ofNat rr)) = bitOf q from by rw [hrr]; rfl] at hsh
    have q1 : IntKind.i64.wrap ((q : Int) / 8) = (d : Int) := by rw [IntWalk.i64_in _ (by omega)]; omega
    have q2 : IntKind.i64.wrap ((q : Int) % 8) = (rr : Int) := by rw [IntWalk.i64_in _ (by omega)]; omega
    have q4 : ((q : Int) % 8) = (rr : Int) := by omega
    have q7 : ((q : Int).tmod 8) = (rr : Int) := by rw [Int.tmod_eq_emod_of_nonneg (by omega)]; omega
    have q8 : ((q : Int).tdiv 8) = (d : Int) := by rw [Int.tdiv_eq_ediv_of_nonneg (by omega)]; omega
    have q9 : IntKind.i64.wrap (d : Int) = (d : Int) := IntWalk.i64_in _ (by omega)
    have q10 : IntKind.i64.wrap (rr : Int) = (rr : Int) := IntWalk.i64_in _ (by omega)
    have q5 : (d : Int) < 64 := by omega
    have q6 : (rr : Int) ≤ 8 := by omega
    have p1 : (0 : Int) ≤ (d : Int) := by omega
    have p2 : (0 : Int) ≤ (rr : Int) := by omega
    have b1 : decide ((q : Int) < 0) = false := by simp
    have b2 : decide (511 < (q : Int)) = false := by simp; omega
    obtain ⟨z, hz⟩ : ∃ z, z = y ^^^ bitOf q := ⟨_, rfl⟩
    obtain ⟨yy, hyy⟩ : ∃ yy, yy = bitOf q := ⟨_, rfl⟩
    rw [← hz, ← hyy] at hxr
    rw [← hyy] at hsh
    obtain ⟨w3, hw3⟩ : ∃ w3, w3 = w1.drew.setCell ⟨w.heap.size, d, none⟩ (.int .u8 (z.toNat : Int)) := ⟨_, rfl⟩
    have hB3 : w3.heap[w.heap.size]? = some (.cells (CB.setIfInBounds d (.int .u8 (z.toNat : Int))) 5 (CB.size, CB.size + 1)) := by
      rw [hw3]
      have e : w1.drew.heap[w.heap.size]? = _ := hbn
      simp [World.setCell, Array.getElem?_modify, e]
    have hE3 : Below w.heap.size w w3.drew := by rw [hw3]; exact (hbl.drew.setCell (Nat.le_refl _) _).drew
    have hfl : flipB x.text q = x.text.set d z := by rw [flipB, ← hd, hz, hy]
    have f64 : (flipB x.text q).length = 64 := by rw [flip_length, t64]
    have hcv2 := conv_bytes w3.drew w.heap.size 0 (flipB x.text q) f64 (fun k hk => by
      show w3.cell? _ = _
      rw [Nat.zero_add, cell_of_row _ _ _ _ _ _ hB3, hfl, Array.getElem?_setIfInBounds, List.getD_eq_getElem?_getD, List.getElem?_set]
      by_cases e : d = k
      · rw [if_pos e, if_pos e, if_pos (by omega), if_pos (by omega)]; rfl
      · rw [if_neg e, if_neg e, hbc k hk, List.getD_eq_getElem?_getD]) cp
    have h4 := h.below hE3 h.lt.1 h.lt.2
    obtain ⟨e0, -, -⟩ := h4.heads
    obtain ⟨g0, -, -, -⟩ := h4.sec hx
    have hf4 := h4.rows.frozen (m * 4)
    obtain ⟨sF, hsF⟩ : ∃ sF : ByteArray, sF = ⟨(flipB x.text q).toArray⟩ := ⟨_, rfl⟩
    rw [← hsF] at hcv2
    have H4 := Lib.hid (h4.setSec (c := 0) hx (by omega) { x with text := flipB x.text q } (.string sF) (by rw [hsF]; rfl) f64 x64)
    have HK := Lib.hid ((Keep.of_below hE3 [r, gs]).setCell (a := ⟨gs, m * 4, none⟩) (by simp) (.string sF))
    rw [Int.toNat_natCast, Int.toNat_natCast, getD_some hx] at HS
    rw [show str x.text = .string sT by rw [hsT]] at g0
    obtain ⟨n, hn⟩ : ∃ n, n = T.s.length := ⟨_, rfl⟩
    rw [← hn] at c0 hm n2 e0
    have j1 : (m : Int) < (n : Int) := by omega
    have j0 : (0 : Int) ≤ (m : Int) := by omega
    have c0' : w1.cell? ⟨r, 0, none⟩ = some (.slice (some ⟨gs, 0, none⟩) n T.cap) := by rw [hbl.cell (p := ⟨r, 0, none⟩) h.lt.1]; exact c0
    clear h4 hsF hfl hbc hbn hB3 hE3 hsT hxm t64 x64 f64 hR hi hr hE h hx hn hd hrr hy hz hyy hbl d1 d2 d3 c1 c2 hCs hb
    go_enter Tryz.func28, Tryz.ntmps28
    go_wp2_with fail
    refine (is_any w r gs T H.out m true HI).mono ?_
    rintro e w' ⟨rfl, rfl⟩
    go_wp2_with fail
    go_still_tail 13, (by kernel_rfl)
    change wpList _ _ _ _ _ w1.drew
    go_wp2_with fail
    rw [show (w1.setCell ⟨w.heap.size, d, none⟩ (.int .u8 (z.toNat : Int))).drew = w3 from hw3.symm]
    clear hw3 hby hfz hcv c0 c0' d0
    go_still_tail 9, (by kernel_rfl)
    change wpList _ _ _ _ _ w3.drew
    clear e0 hcv2
    generalize w3.drew = w4 at *
    go_wp2_with fail
    go_ret
    exact RPost.ret HS.out H4.out HK.out
end Go.Proofs.YtddpjahoeldleaaGreatDoor.Dk

/-! The reference's methods: Flush, Mount. -/
namespace Go.Proofs.YtddpjahoeldleaaGreatDoor.Dk
open Go.RowKit Go.Maps

def cntD (l : List Sec) : Nat := (l.filter (·.dirty)).length
def mountTo (pf : Nat → Int) (l : List Sec) (i : Nat) : List Sec := mountL pf (l.take i) 0 ++ l.drop i
theorem mountL_length (pf : Nat → Int) : ∀ (l : List Sec) (k : Nat), (mountL pf l k).length = l.length
  | [], _ => rfl
  | x :: r, k => by
    rw [mountL]
    split
    · rw [List.length_cons, mountL_length pf r, List.length_cons]
    · rw [List.length_cons, mountL_length pf r, List.length_cons]
theorem mountL_append (pf : Nat → Int) (b : List Sec) : ∀ (a : List Sec) (k : Nat), mountL pf (a ++ b) k = mountL pf a k ++ mountL pf b (k + cntD a)
  | [], k => rfl
  | x :: r, k => by
    rw [List.cons_append, mountL, mountL]
    by_cases hd : x.dirty = true
    · rw [if_pos hd, if_pos hd, mountL_append pf b r (k + 1), List.cons_append, show cntD (x :: r) = cntD r + 1 by simp [cntD, hd], show k + 1 + cntD r = k + (cntD r + 1) by omega]
    · rw [if_neg hd, if_neg hd, mountL_append pf b r k, List.cons_append, show cntD (x :: r) = cntD r by simp [cntD, hd]]
theorem mountTo_length (pf : Nat → Int) (l : List Sec) (i : Nat) : (mountTo pf l i).length = l.length := by
  rw [mountTo, List.length_append, mountL_length, List.length_take, List.length_drop]; omega
theorem mountTo_zero (pf : Nat → Int) (l : List Sec) : mountTo pf l 0 = l := rfl
theorem mountTo_end (pf : Nat → Int) (l : List Sec) : mountTo pf l l.length = mountL pf l 0 := by rw [mountTo, List.take_length, List.drop_length, List.append_nil]
theorem mountTo_at (pf : Nat → Int) (l : List Sec) (i : Nat) (hi : i < l.length) : (mountTo pf l i)[i]? = l[i]? := by
  rw [mountTo, List.getElem?_append_right (by rw [mountL_length, List.length_take]; omega), mountL_length, List.length_take, Nat.min_eq_left (by omega), Nat.sub_self, List.getElem?_drop, Nat.add_zero]
theorem take_snoc {l : List Sec} {i : Nat} {x : Sec} (hx : l[i]? = some x) : l.take (i + 1) = l.take i ++ [x] ∧ l.drop i = x :: l.drop (i + 1) := by
  obtain ⟨hi, rfl⟩ := List.getElem?_eq_some_iff.1 hx
  exact ⟨List.take_succ_eq_append_getElem hi, List.drop_eq_getElem_cons hi⟩
theorem mountTo_skip (pf : Nat → Int) {l : List Sec} {i : Nat} {x : Sec} (hx : l[i]? = some x) (hd : x.dirty = false) : mountTo pf l (i + 1) = mountTo pf l i ∧ cntD (l.take (i + 1)) = cntD (l.take i) := by
  obtain ⟨e1, e2⟩ := take_snoc hx
  constructor
  · rw [mountTo, mountTo, e1, e2, mountL_append, mountL, if_neg (by rw [hd]; simp), mountL, List.append_assoc]; rfl
  · rw [e1]; simp [cntD, hd]
theorem mountTo_step (pf : Nat → Int) {l : List Sec} {i : Nat} {x : Sec} (hx : l[i]? = some x) (hd : x.dirty = true) : mountTo pf l (i + 1) = (mountTo pf l i).set i (settleX x (pf (cntD (l.take i)))) ∧ cntD (l.take (i + 1)) = cntD (l.take i) + 1 := by
  obtain ⟨e1, e2⟩ := take_snoc hx
  have hi := (List.getElem?_eq_some_iff.1 hx).1
  constructor
  · rw [mountTo, mountTo, e1, e2, mountL_append, mountL, if_pos hd, mountL, List.set_append_right _ _ (by rw [mountL_length, List.length_take]; omega), mountL_length, List.length_take, Nat.min_eq_left (by omega), Nat.sub_self, List.set_cons_zero, Nat.zero_add, List.append_assoc]; rfl
  · rw [e1]; simp [cntD, hd]
theorem cntD_le (l : List Sec) : cntD l ≤ l.length := List.length_filter_le _ _

set_option maxHeartbeats 1000000 in
set_option maxRecDepth 100000 in
theorem rflush_any (w : World) (r gs : Nat) (T : RSt) (h : RefAt w r gs T) :
    Calls Tryz.prog 61 #[.pointer (some ⟨r, 0, none⟩)] w (RPost (.int .i64 (rFlushE T)) r gs (rFlushS T) w) := by
  obtain ⟨c0, c1, c2⟩ := h.heads
  have H := Lib.hid h
  cases ho : T.off
  · rw [ho] at c1
    obtain ⟨E, hE⟩ : ∃ E, E = rStepE T := ⟨_, rfl⟩
    have e1 : rFlushE T = E := by rw [rFlushE, ho, hE]; rfl
    have HS := Lib.hid (show rFlushS T = if E ≠ 0 then rStepS T else { rStepS T with s := mountL (fun _ => 64) T.s 0 } by rw [rFlushS, if_neg (by simp [ho]), hE])
    rw [e1]
    have HE := Lib.hid hE
    clear h ho e1 hE c0 c2
    go_enter Tryz.func61, Tryz.ntmps61
    go_wp2_with fail
    refine (rstep_any w r gs T H.out).mono ?_
    rintro e w1 ⟨rfl, h1, k1⟩
    rw [← HE.out]
    have H1 := Lib.hid h1
    have K1 := Lib.hid k1
    clear h1 k1
    by_cases hE0 : E = 0
    · subst hE0
      have HTS := Lib.hid (rstep_s T)
      obtain ⟨n, hn⟩ : ∃ n, n = T.s.length := ⟨_, rfl⟩
      have n2 := H.out.n2
      rw [← hn] at n2
      have HN := Lib.hid hn
      clear hn
      go_wp2_with fail
      go_loopw [4] (fun v wr => ∃ i : Nat, i ≤ n ∧ v = .int .i64 i ∧ Hid (RefAt wr r gs { rStepS T with s := mountTo (fun _ => 64) T.s i }) ∧ Hid (Keep [r, gs] w wr)) (fun v _ => n - (intOf v).toNat)
      case atStart => exact ⟨0, by omega, rfl, Lib.hid (by rw [mountTo_zero, ← HTS.out]; exact H1.out), K1⟩
      case round =>
        obtain ⟨i, hi, rfl, R, K⟩ := hrel
        obtain ⟨e0, -, -⟩ := R.out.heads
        rw [show ({ rStepS T with s := mountTo (fun _ => 64) T.s i } : RSt).s.length = n from (mountTo_length _ _ _).trans HN.out.symm] at e0
        by_cases hlt : i < n
        · have hil : i < T.s.length := by have := HN.out; omega
          obtain ⟨x, hx⟩ : ∃ x, T.s[i]? = some x := ⟨_, List.getElem?_eq_getElem hil⟩
          have HX := Lib.hid hx
          have hx2 : (mountTo (fun _ => 64) T.s i)[i]? = some x := (mountTo_at _ _ _ hil).trans hx
          have HX2 := Lib.hid hx2
          obtain ⟨-, -, d2, -⟩ := R.out.sec hx2
          have j1 : (i : Int) < (n : Int) := by omega
          have j0 : (0 : Int) ≤ (i : Int) := by omega
          clear hx hx2 hil
          cases hd : x.dirty
          · rw [hd] at d2
            have HD := Lib.hid hd
            clear hd
            go_wp2_with fail
            go_roundw
            case rel => exact ⟨i + 1, by omega, by go_num, Lib.hid (by rw [(mountTo_skip _ HX.out HD.out).1]; exact R.out), K⟩
            case measure => simp [intOf]; omega
          · rw [hd] at d2
            have HD := Lib.hid hd
            clear hd
            go_wp2_with fail
            refine (rsettle_any wr r gs _ R.out i x HX2.out HD.out 64).mono ?_
            rintro e w2 ⟨rfl, h2, k2⟩
            have H2 := Lib.hid h2
            have K2 := Lib.hid (K.out.trans k2)
            clear h2 k2
            go_wp2_with fail
            go_roundw
            case rel => exact ⟨i + 1, by omega, by go_num, Lib.hid (by rw [(mountTo_step _ HX.out HD.out).1]; exact H2.out), K2⟩
            case measure => simp [intOf]; omega
        · obtain rfl : i = n := by omega
          go_wp2_with fail
          go_ret
          refine RPost.ret ?_ R.out K.out
          rw [HS.out, if_neg (by simp), HN.out, mountTo_end]
    · have hb : (E == 0) = false := beq_eq_false_iff_ne.2 hE0
      go_wp2_with fail
      go_ret
      exact RPost.ret (by rw [HS.out, if_pos hE0]) H1.out K1.out
  · rw [ho] at c1
    have hE : rFlushE T = 24 := by rw [rFlushE, ho]; rfl
    have HS := Lib.hid (show T = rFlushS T by rw [rFlushS, if_pos ho])
    rw [hE]
    clear h hE ho c0 c2
    go_enter Tryz.func61, Tryz.ntmps61
    go_wp2_with fail
    go_ret
    exact RPost.ret HS.out H.out (Keep.refl _ _)

set_option maxHeartbeats 2000000 in
set_option maxRecDepth 100000 in
theorem rmount_any (w : World) (r gs : Nat) (T : RSt) (h : RefAt w r gs T) (A : Option Addr) (n' c' : Nat) (ps : List Int)
    (hp : Rd w w.heap.size 1 A n' (intCells ps)) (hn' : n' ≤ 9223372036854775807) (hpF : 0 < n' → ∀ b x, A = some ⟨b, x, none⟩ → b ∉ [r, gs]) :
    Calls Tryz.prog 26 #[.pointer (some ⟨r, 0, none⟩), .slice A n' c'] w (RPost (.tuple #[]) r gs (rMountS T ps) w) := by
  have hl : ps.length = n' := by have := hp.1; simpa [intCells] using this
  have HL := Lib.hid hl
  have H := Lib.hid h
  have HP := Lib.hid hp
  have HPF := Lib.hid hpF
  obtain ⟨n, hn⟩ : ∃ n, n = T.s.length := ⟨_, rfl⟩
  have n2 := h.n2
  rw [← hn] at n2
  have HN := Lib.hid hn
  clear hn h hp hpF hl
  go_enter Tryz.func26, Tryz.ntmps26
  go_wp2_with fail
  go_loopw [4, 5] (fun u v wr => ∃ i : Nat, i ≤ n ∧ u = .int .i64 (cntD (T.s.take i) : Nat) ∧ v = .int .i64 i ∧ Hid (RefAt wr r gs { T with s := mountTo (pickF ps) T.s i }) ∧ Hid (Keep [r, gs] w wr)) (fun _ v _ => n - (intOf v).toNat)
  case atStart => exact ⟨0, by omega, rfl, rfl, Lib.hid (by rw [mountTo_zero]; exact H.out), Lib.hid (Keep.refl _ _)⟩
  case round =>
    obtain ⟨i, hi, rfl, rfl, R, K⟩ := hrel
    obtain ⟨e0, -, -⟩ := R.out.heads
    rw [show ({ T with s := mountTo (pickF ps) T.s i } : RSt).s.length = n from (mountTo_length _ _ _).trans HN.out.symm] at e0
    by_cases hlt : i < n
    · have hil : i < T.s.length := by have := HN.out; omega
      obtain ⟨x, hx⟩ : ∃ x, T.s[i]? = some x := ⟨_, List.getElem?_eq_getElem hil⟩
      have HX := Lib.hid hx
      have hx2 : (mountTo (pickF ps) T.s i)[i]? = some x := (mountTo_at _ _ _ hil).trans hx
      have HX2 := Lib.hid hx2
      obtain ⟨-, -, d2, -⟩ := R.out.sec hx2
      have j1 : (i : Int) < (n : Int) := by omega
      have j0 : (0 : Int) ≤ (i : Int) := by omega
      have hcl : cntD (T.s.take i) ≤ i := Nat.le_trans (cntD_le _) (by rw [List.length_take]; omega)
      cases hd : x.dirty
      · rw [hd] at d2
        have HD := Lib.hid hd
        have HC := Lib.hid (mountTo_skip (pickF ps) hx hd)
        clear hd hx hx2 hil
        generalize hcu : cntD (T.s.take i) = cu at *
        have HCU := Lib.hid hcu
        clear hcu
        go_wp2_with fail
        go_roundw
        case rel => exact ⟨i + 1, by omega, by rw [HC.out.2], by go_num, Lib.hid (by rw [HC.out.1]; exact R.out), K⟩
        case measure => simp [intOf]; omega
      · rw [hd] at d2
        have HD := Lib.hid hd
        have HC := Lib.hid (mountTo_step (pickF ps) hx hd)
        clear hd hx hx2 hil
        generalize hcu : cntD (T.s.take i) = cu at *
        have HCU := Lib.hid hcu
        clear hcu
        have ju : (0 : Int) ≤ (cu : Int) := by omega
        by_cases hkn : cu < n'
        · obtain ⟨b, o, e, hbb, hcc⟩ := HP.out.2 (by omega)
          subst e
          have hnF := HPF.out (by omega) b o rfl
          have hpk : wr.cell? ⟨b, o + cu, none⟩ = some (.int .i64 (ps.getD cu 0)) := by
            rw [K.out.cell (p := ⟨b, o + cu, none⟩) hbb hnF]
            refine hcc cu _ ?_
            have hkp : cu < ps.length := by have := HL.out; omega
            rw [intCells, List.getElem?_map, List.getElem?_eq_getElem hkp, Option.map_some, List.getD_eq_getElem?_getD, List.getElem?_eq_getElem hkp, Option.getD_some]
          have HPK := Lib.hid (show pickF ps cu = ps.getD cu 0 by rw [pickF, if_pos (by have := HL.out; omega)])
          generalize ps.getD cu 0 = pk at *
          have i2 : (cu : Int) < (n' : Int) := by omega
          clear hcc hnF
          go_wp2_with fail
          refine (rsettle_any wr r gs _ R.out i x HX2.out HD.out pk).mono ?_
          rintro e w2 ⟨rfl, h2, k2⟩
          have H2 := Lib.hid h2
          have K2 := Lib.hid (K.out.trans k2)
          clear h2 k2
          go_wp2_with fail
          go_roundw
          case rel => exact ⟨i + 1, by omega, by rw [HC.out.2]; go_num, by go_num, Lib.hid (by rw [HC.out.1, HPK.out]; exact H2.out), K2⟩
          case measure => simp [intOf]; omega
        · have HPK := Lib.hid (show pickF ps cu = 64 by rw [pickF, if_neg (by have := HL.out; omega)])
          go_wp2_with fail
          refine (rsettle_any wr r gs _ R.out i x HX2.out HD.out 64).mono ?_
          rintro e w2 ⟨rfl, h2, k2⟩
          have H2 := Lib.hid h2
          have K2 := Lib.hid (K.out.trans k2)
          clear h2 k2
          go_wp2_with fail
          go_roundw
          case rel => exact ⟨i + 1, by omega, by rw [HC.out.2]; go_num, by go_num, Lib.hid (by rw [HC.out.1, HPK.out]; exact H2.out), K2⟩
          case measure => simp [intOf]; omega
    · obtain rfl : i = n := by omega
      have f1 := R.out.head.frozen 1
      have f2 := R.out.head.frozen 2
      obtain ⟨-, e1, e2⟩ := R.out.heads
      have hfin := (R.out.setOff false).setLeft (-1) (by decide) (by decide)
      have HF := Lib.hid hfin
      have KF := Lib.hid ((K.out.setCell (a := ⟨r, 1, none⟩) (by simp) (.bool false)).setCell (a := ⟨r, 2, none⟩) (by simp) (.int .i64 (-1)))
      clear hfin
      go_wp2_with fail
      go_end0
      refine ⟨rfl, ?_, KF.out⟩
      have he : rMountS T ps = { T with s := mountTo (pickF ps) T.s i, off := false, left := -1 } := by rw [HN.out, mountTo_end]; rfl
      rw [he]
      exact HF.out
end Go.Proofs.YtddpjahoeldleaaGreatDoor.Dk

/-! The reference's journal in memory; has, blank, Len, Image, Damaged, Room. -/
namespace Go.Proofs.YtddpjahoeldleaaGreatDoor
open Go.RowKit Go.Maps
open Dk (RefAt RSt)

def obR (v : Value) : List Nat := v.ownBlock.toList
theorem mem_obR {v : Value} {k : Nat} : k ∈ obR v ↔ v.ownBlock = some k := by simp [obR]
/-- the reference's journal J lies at block j: its disk's struct at r, its lists at vn, vt, vb -/
structure RJAt (w : World) (j r : Nat) (vn vt vb : Value) (J : JV) : Prop where
  head : Blk w j 57 #[.pointer (some ⟨r, 0, none⟩), vn, vt, vb, .int .i64 J.next, .int .i64 J.fin, .bool J.closed]
  nums : w.ownsRow 0 3 1 vn J.nums.length (intCells J.nums)
  texts : w.ownsRow 0 9 1 vt J.texts.length (strCells J.texts)
  bad : w.ownsRow 0 3 1 vb J.bad.length (intCells J.bad)
  apart : ∀ k, vn.ownBlock = some k → vb.ownBlock ≠ some k
/-- a row's block holds cells of its type -/
theorem row_neB {w : World} {b : Nat} {T : TypeId} {cs : Array Value} {base : Nat} {e : TypeId} {sz : Nat} {v : Value} {n : Nat} {xs : List Value} (hb : Blk w b T cs) (h : w.ownsRow base e sz v n xs) (he : e ≠ T) : ∀ k, v.ownBlock = some k → k ≠ b := fun k hk hm => by
  obtain ⟨c2, fr, h2⟩ := own_block h hk
  subst hm
  unfold Blk at hb
  rw [hb] at h2
  injection h2 with h2
  injection h2 with _ h2
  exact he h2.symm
theorem blk_neB {w : World} {b b' : Nat} {T T' : TypeId} {cs cs' : Array Value} (h : Blk w b T cs) (h' : Blk w b' T' cs') (he : T ≠ T') : b ≠ b' := fun e => by
  subst e
  unfold Blk at h h'
  rw [h] at h'
  injection h' with h'
  injection h' with _ h'
  exact he h'
theorem rows_neB {w : World} {e1 e2 : TypeId} {v1 v2 : Value} {n1 n2 b1 b2 z1 z2 : Nat} {xs1 xs2 : List Value} (h1 : w.ownsRow b1 e1 z1 v1 n1 xs1) (h2 : w.ownsRow b2 e2 z2 v2 n2 xs2) (he : e1 ≠ e2) : ∀ k, v1.ownBlock = some k → k ∉ obR v2 := fun k hk hm => by
  obtain ⟨c1, f1, q1⟩ := own_block h1 hk
  obtain ⟨c2, f2, q2⟩ := own_block h2 (mem_obR.1 hm)
  rw [q1] at q2
  injection q2 with q2
  injection q2 with _ q2
  exact he q2
section
variable {w w' : World} {j r gs : Nat} {vn vt vb : Value} {J : JV} {F : List Nat} {T : RSt}
theorem RJAt.keep (h : RJAt w j r vn vt vb J) (hk : Keep F w w') (h0 : j ∉ F) (h1 : ∀ k, vn.ownBlock = some k → k ∉ F) (h2 : ∀ k, vt.ownBlock = some k → k ∉ F) (h3 : ∀ k, vb.ownBlock = some k → k ∉ F) : RJAt w' j r vn vt vb J :=
  ⟨(hk.block j h.head.lt h0).trans h.head, own_keepF h.nums hk h1, own_keepF h.texts hk h2, own_keepF h.bad hk h3, h.apart⟩
theorem RJAt.below (h : RJAt w j r vn vt vb J) (hb : Below w.heap.size w w') : RJAt w' j r vn vt vb J :=
  h.keep (Keep.of_below hb []) (by simp) (by simp) (by simp) (by simp)
/-- what the disk's change leaves -/
theorem RJAt.disk (h : RJAt w j r vn vt vb J) (hd : RefAt w r gs T) (hk : Keep [r, gs] w w') : RJAt w' j r vn vt vb J := by
  have key : ∀ (e : TypeId) (v : Value) (n : Nat) (xs : List Value), w.ownsRow 0 e 1 v n xs → e ≠ 102 → e ≠ 104 → ∀ k, v.ownBlock = some k → k ∉ [r, gs] := fun e v n xs ho h1 h2 k hq hm => by
    simp only [List.mem_cons, List.not_mem_nil, or_false] at hm
    rcases hm with hm | hm
    · exact row_neB hd.head ho h1 k hq hm
    · exact row_neB hd.rows ho h2 k hq hm
  refine h.keep hk (fun hm => ?_) (key _ _ _ _ h.nums (by decide) (by decide)) (key _ _ _ _ h.texts (by decide) (by decide)) (key _ _ _ _ h.bad (by decide) (by decide))
  simp only [List.mem_cons, List.not_mem_nil, or_false] at hm
  rcases hm with hm | hm
  · exact blk_neB h.head hd.head (by decide) hm
  · exact blk_neB h.head hd.rows (by decide) hm
theorem RJAt.cells (h : RJAt w j r vn vt vb J) : w.cell? ⟨j, 0, none⟩ = some (.pointer (some ⟨r, 0, none⟩)) ∧ w.cell? ⟨j, 1, none⟩ = some vn ∧ w.cell? ⟨j, 2, none⟩ = some vt ∧ w.cell? ⟨j, 3, none⟩ = some vb ∧ w.cell? ⟨j, 4, none⟩ = some (.int .i64 J.next) ∧ w.cell? ⟨j, 5, none⟩ = some (.int .i64 J.fin) ∧ w.cell? ⟨j, 6, none⟩ = some (.bool J.closed) :=
  ⟨h.head.cell 0, h.head.cell 1, h.head.cell 2, h.head.cell 3, h.head.cell 4, h.head.cell 5, h.head.cell 6⟩
theorem RJAt.set_ (h : RJAt w j r vn vt vb J) (i : Nat) (u : Value) {J' : JV} (hh : (#[.pointer (some ⟨r, 0, none⟩), vn, vt, vb, .int .i64 J.next, .int .i64 J.fin, .bool J.closed] : Array Value).setIfInBounds i u = #[.pointer (some ⟨r, 0, none⟩), vn, vt, vb, .int .i64 J'.next, .int .i64 J'.fin, .bool J'.closed])
    (e1 : J'.nums = J.nums) (e2 : J'.bad = J.bad) (e3 : J'.texts = J.texts) : RJAt (w.setCell ⟨j, i, none⟩ u) j r vn vt vb J' := by
  have hk : Keep [j] w (w.setCell ⟨j, i, none⟩ u) := (Keep.refl _ _).setCell (a := ⟨j, i, none⟩) (by simp) u
  have key : ∀ (e : TypeId) (v : Value) (n : Nat) (xs : List Value), w.ownsRow 0 e 1 v n xs → e ≠ 57 → ∀ k, v.ownBlock = some k → k ∉ [j] := fun e v n xs ho he k hq hm => row_neB h.head ho he k hq (List.mem_singleton.1 hm)
  refine ⟨by rw [← hh]; exact h.head.set_ i u, ?_, ?_, ?_, h.apart⟩
  · rw [e1]; exact own_keepF h.nums hk (key _ _ _ _ h.nums (by decide))
  · rw [e3]; exact own_keepF h.texts hk (key _ _ _ _ h.texts (by decide))
  · rw [e2]; exact own_keepF h.bad hk (key _ _ _ _ h.bad (by decide))
theorem ref_go (h : RefAt w r gs T) (hb : Below w.heap.size w w') : RefAt w' r gs T := h.below hb h.lt.1 h.lt.2
end

theorem has_any (A : Option Addr) (n c : Nat) (zs : List Int) (z : Int) (w : World) (h : Rd w w.heap.size 1 A n (intCells zs)) (hn : n ≤ 100000) (r : Bool) (hr : Hid (decide (z ∈ zs) = r)) :
    Calls Tryz.prog 58 #[.slice A n c, .int .i64 z] w (RetB (.bool r) w) := by
  have HL := Lib.hid (show zs.length = n by have := h.1; simpa [intCells] using this)
  have H := Lib.hid h
  clear h
  go_enter Tryz.func58, Tryz.ntmps58
  go_wp2_with fail
  go_loopw [5] (fun x wr => ∃ k : Nat, k ≤ n ∧ x = .int .i64 k ∧ Hid (z ∉ zs.take k) ∧ Hid (Below w.heap.size w wr)) (fun x _ => n - (intOf x).toNat)
  case atStart => exact ⟨0, by omega, rfl, Lib.hid (by simp), Lib.hid (Below.refl _ _)⟩
  case round =>
    obtain ⟨k, hk, rfl, M, B⟩ := hrel
    by_cases hlt : k < n
    · obtain ⟨b1, o1, rfl, _, x1⟩ := (H.out.below B.out).int hlt
      have hkl : k < zs.length := by have := HL.out; omega
      obtain ⟨x, hx⟩ : ∃ x, x = zs.getD k 0 := ⟨_, rfl⟩
      rw [← hx] at x1
      have HX := Lib.hid (show zs.take (k + 1) = zs.take k ++ [x] ∧ x ∈ zs by
        rw [hx, List.getD_eq_getElem?_getD, List.getElem?_eq_getElem hkl, Option.getD_some, List.take_succ_eq_append_getElem hkl]
        exact ⟨rfl, List.getElem_mem hkl⟩)
      clear hx
      have j1 : (k : Int) < (n : Int) := by omega
      have j0 : (0 : Int) ≤ (k : Int) := by omega
      by_cases hq : x = z
      · have HR := Lib.hid (show z ∈ zs by rw [← hq]; exact HX.out.2)
        have hq' : (x == z) = true := by simpa using hq
        go_wp2_with fail
        go_ret
        exact RetB.bool (by rw [← hr.out, decide_eq_true HR.out]) B.out
      · have M2 := Lib.hid (show z ∉ zs.take (k + 1) by
          rw [HX.out.1, List.mem_append, List.mem_singleton]
          rintro (h | h)
          · exact M.out h
          · exact hq h.symm)
        have hq' : (x == z) = false := by simpa using hq
        go_wp2_with fail
        go_roundw
        case rel => exact ⟨k + 1, by omega, by go_num, M2, B⟩
        case measure => simp [intOf]; omega
    · obtain rfl : k = n := by omega
      go_wp2_with fail
      go_ret
      refine RetB.bool ?_ B.out
      rw [← hr.out, decide_eq_false]
      have := M.out
      rwa [List.take_of_length_le (by rw [HL.out]; exact Nat.le_refl _)] at this
theorem rlen_any (w : World) (r gs : Nat) (T : RSt) (h : RefAt w r gs T) : Calls Tryz.prog 54 #[.pointer (some ⟨r, 0, none⟩)] w (Ret (.int .i64 (T.s.length : Int)) w) := by
  obtain ⟨c0, _, _⟩ := h.heads
  clear h
  go_enter Tryz.func54, Tryz.ntmps54
  go_wp2_with fail
  go_ret
  exact Ret.mk
end Go.Proofs.YtddpjahoeldleaaGreatDoor

/-! The reference's journal: blank, Room, Damaged, Image of its disk. -/
namespace Go.Proofs.YtddpjahoeldleaaGreatDoor
open Go.RowKit Go.Maps
open Dk (RefAt RSt)

theorem blank_iff {s : ByteArray} (h : s.size = 64) : blankB s.data.toList = decide (∀ k, k < 64 → s.data.toList[k]? = some 0) := by
  unfold blankB
  rw [decide_eq_decide]
  constructor
  · intro e k hk
    rw [e, zero64, List.getElem?_replicate, if_pos hk]
  · intro e
    apply List.ext_getElem?
    intro k
    by_cases hk : k < 64
    · rw [e k hk, zero64, List.getElem?_replicate, if_pos hk]
    · rw [List.getElem?_eq_none (by rw [list_size, h]; omega), List.getElem?_eq_none (by simp [zero64]; omega)]
set_option maxHeartbeats 1000000 in
theorem blank_any (s : ByteArray) (w : World) (h : s.size = 64) : Calls Tryz.prog 56 #[.string s] w (RetB (.bool (blankB s.data.toList)) w) := by
  obtain ⟨r, hr⟩ : ∃ r, r = blankB s.data.toList := ⟨_, rfl⟩
  have HR := Lib.hid (show decide (∀ k, k < 64 → s.data.toList[k]? = some 0) = r by rw [hr, blank_iff h])
  rw [← hr]
  have H := Lib.hid h
  clear hr
  go_enter Tryz.func56, Tryz.ntmps56
  go_wp2_with fail
  go_loopw [3] (fun x wr => ∃ k : Nat, k ≤ 64 ∧ x = .int .i64 k ∧ Hid (∀ i, i < k → s.data.toList[i]? = some 0) ∧ Hid (Below w.heap.size w wr)) (fun x _ => 64 - (intOf x).toNat)
  case atStart => exact ⟨0, by omega, rfl, Lib.hid (fun i hi => by omega), Lib.hid (Below.refl _ _)⟩
  case round =>
    obtain ⟨k, hk, rfl, M, B⟩ := hrel
    by_cases hlt : k < 64
    · have j1 : (k : Int) < (s.size : Int) := by rw [H.out]; omega
      have j0 : (0 : Int) ≤ (k : Int) := by omega
      have hks : k < s.size := by rw [H.out]; exact hlt
      obtain ⟨y, hy⟩ : ∃ y, y = (s[k]'hks).toNat := ⟨_, rfl⟩
      have hx : (s[k]'hks).toNat = y := hy.symm
      have hget : s.data.toList[k]? = some (s[k]'hks) := by rw [List.getElem?_eq_getElem (by rw [list_size]; exact hks)]; rfl
      by_cases hy0 : y = 0
      · have HZ := Lib.hid (show s.data.toList[k]? = some 0 by rw [hget]; congr 1; exact UInt8.toNat_inj.1 (by rw [hx, hy0]; rfl))
        rw [hy0] at hx
        clear hy hy0 hget
        go_wp2_with fail
        go_roundw
        case rel => exact ⟨k + 1, by omega, by go_num, Lib.hid (fun i hi => by
          by_cases e : i = k
          · rw [e]; exact HZ.out
          · exact M.out i (by omega)), B⟩
        case measure => simp [intOf]; omega
      · have HU := Lib.hid (show r = false by
          rw [← HR.out, decide_eq_false]
          intro h
          have h := h k hlt
          rw [hget] at h
          injection h with h
          rw [h] at hx
          exact hy0 hx.symm)
        have hyb : ((y : Int) == 0) = false := beq_eq_false_iff_ne.2 (by omega)
        have hyd : decide ((y : Int) = 0) = false := decide_eq_false (by omega)
        have hyn : ((y : Int) != 0) = true := by rw [bne, hyb]; rfl
        have hye : (y != 0) = true := by simp [hy0]
        clear hy hget
        go_wp2_with fail
        go_ret
        exact RetB.bool HU.out.symm B.out
    · obtain rfl : k = 64 := by omega
      have HF := Lib.hid (show r = true by rw [← HR.out]; exact decide_eq_true M.out)
      have j1 : ¬ ((64 : Nat) : Int) < (s.size : Int) := by rw [H.out]; omega
      go_wp2_with fail
      go_ret
      exact RetB.bool HF.out.symm B.out
/-- Room draws its order -/
theorem rroom_any (w : World) (j r gs : Nat) (vn vt vb : Value) (J : JV) (T : RSt) (h : RJAt w j r vn vt vb J) (hd : RefAt w r gs T) (h0 : 0 ≤ J.fin) (h1 : J.fin ≤ 4096) : Calls Tryz.prog 60 #[.pointer (some ⟨j, 0, none⟩)] w (RetB (.int .i64 ((T.s.length : Int) - J.fin)) w) := by
  obtain ⟨c0, _, _, _, _, c5, _⟩ := h.cells
  have HL : Hid (∀ n, Calls Tryz.prog 54 #[.pointer (some ⟨r, 0, none⟩)] (w.drewN n) (fun e w' => e = .returned (.int .i64 (T.s.length : Int)) ∧ w' = w.drewN n)) := Lib.hid (fun n => (rlen_any (w.drewN n) r gs T (ref_go hd (below_drewN' (Below.refl _ _) n))).mono (fun _ _ hq => ⟨hq.1, hq.2.symm⟩))
  have n2 : (T.s.length : Int) ≤ 4096 := by have := hd.n2; omega
  have n1 : (0 : Int) ≤ (T.s.length : Int) := by omega
  clear h hd
  go_enter Tryz.func60, Tryz.ntmps60
  go_wp2_with fail
  go_quiet ((go_at_call 54; with_reducible exact Calls.quiet_of_same (HL.out _)))
  go_wp2_with fail
  go_ret
  exact ⟨rfl, below_drewN' (Below.refl _ _) _⟩

set_option maxHeartbeats 2000000 in
set_option maxRecDepth 100000 in
theorem rdamaged_any (w : World) (j r : Nat) (vn vt vb : Value) (J : JV) (h : RJAt w j r vn vt vb J) (hn : J.nums.length ≤ 90000) (M : Nat) (hM : J.next = (M : Int) + 1) (hM2 : M ≤ 90000) :
    Calls Tryz.prog 59 #[.pointer (some ⟨j, 0, none⟩)] w (OwnPost w.heap.size 3 1 (lostL J.nums M).length (intCells (lostL J.nums M)) w) := by
  obtain ⟨An, cn, rfl, _⟩ := own_slice h.nums
  obtain ⟨n, hnl⟩ : ∃ n, n = J.nums.length := ⟨_, rfl⟩
  obtain ⟨zs, hzs⟩ : ∃ zs, zs = J.nums := ⟨_, rfl⟩
  have HR := Lib.hid (Rd.of_own h.nums)
  rw [← hnl, ← hzs] at HR
  rw [← hnl] at hn
  have HH := Lib.hid (show ∀ W, Below w.heap.size w W → W.cell? ⟨j, 4, none⟩ = some (.int .i64 ((M : Int) + 1)) ∧ W.cell? ⟨j, 1, none⟩ = some (.slice An n cn) from fun W hb => by
    have := (h.below hb).cells
    rw [hM] at this
    rw [hnl]
    exact ⟨this.2.2.2.2.1, this.2.1⟩)
  rw [← hzs]
  obtain ⟨i0, hi, hz0, hz1, hz2⟩ := info_parts info3
  clear h hnl hzs hM
  go_enter Tryz.func59, Tryz.ntmps59
  go_wp2_with fail
  go_loopw [3, 4] (fun o x wr => ∃ (m : Nat) (v : Value), m ≤ M ∧ x = .int .i64 ((m : Int) + 1) ∧ v = o ∧ Hid (wr.ownsRow w.heap.size 3 1 v (lostL zs m).length (intCells (lostL zs m))) ∧ Hid (Below w.heap.size w wr)) (fun _ x _ => M + 1 - (intOf x).toNat)
  case atStart => exact ⟨0, .slice none 0 0, by omega, rfl, rfl, Lib.hid (World.ownsRow_nil _ _ _ _), Lib.hid (Below.refl _ _)⟩
  case round =>
    obtain ⟨m, v, hm, rfl, rfl, R, B⟩ := hrel
    obtain ⟨c4, c1⟩ := HH.out _ B.out
    by_cases hlt : m < M
    · have j1 : (m : Int) + 1 < (M : Int) + 1 := by omega
      obtain ⟨b, hb⟩ : ∃ b, b = decide (((m : Int) + 1) ∈ zs) := ⟨_, rfl⟩
      have HHAS := Lib.hid (has_any An n cn zs ((m : Int) + 1) wr (HR.out.go B.out) (by omega) b (Lib.hid hb.symm))
      have HB := Lib.hid hb.symm
      clear hb
      go_wp2_with fail
      refine HHAS.out.mono ?_
      rintro e w2 ⟨rfl, b2⟩
      have B2 := Lib.hid (below_go B.out b2)
      have R2 := Lib.hid (own_below R.out b2)
      clear b2 HHAS c4 c1
      cases b
      · have HL := Lib.hid (show lostL zs (m + 1) = lostL zs m ++ [(m : Int) + 1] by rw [lost_succ, if_neg (of_decide_eq_false HB.out)])
        have hsz := lost_len zs m
        go_wp2_with (at_builtin; refine wpList_append_own _ rfl _ _ 23 rfl w.heap.size 3 i0 _ 1 8 Tryz.underlying23 hi hz0 hz1 hz2 rfl (by decide) v _ _ rfl (R2.out.alloc _) ⟨w2.heap.size, 0, none⟩ 1 1 [.int .i64 ((m : Int) + 1)] rfl rfl (cells_one _ _ _) (by simp [Value.oneCell']) (by unfold maxLen; omega) (by omega) (by have := B2.out.size; rw [World.size_alloc]; omega) ?_)
        intro v6 w6 hown6 hgrow6 _
        have O6 := Lib.hid (show w6.ownsRow w.heap.size 3 1 v6 (lostL zs (m + 1)).length (intCells (lostL zs (m + 1))) by rw [HL.out, List.length_append, List.length_singleton, intCells_snoc]; exact hown6)
        have B6 := Lib.hid (show Below w.heap.size w w6 from ((B2.out.alloc B2.out.size _).grown hgrow6 (by have := B2.out.size; rw [World.size_alloc]; omega) (fun g hg => (R2.out.lt g hg).1)))
        obtain ⟨A6, c6, rfl, -⟩ := own_slice hown6
        clear hown6 hgrow6
        go_wp2_with fail
        go_roundw
        case rel => exact ⟨m + 1, _, by omega, by go_num, rfl, O6, B6⟩
        case measure => simp [intOf]; omega
      · have HL := Lib.hid (show lostL zs (m + 1) = lostL zs m by rw [lost_succ, if_pos (of_decide_eq_true HB.out)])
        go_wp2_with fail
        go_roundw
        case rel => exact ⟨m + 1, v, by omega, by go_num, rfl, Lib.hid (by rw [HL.out]; exact R2.out), B2⟩
        case measure => simp [intOf]; omega
    · obtain rfl : m = M := by omega
      obtain ⟨A, c, rfl, _⟩ := own_slice R.out
      go_wp2_with fail
      go_ret
      exact ⟨_, rfl, R.out, B.out⟩

set_option maxHeartbeats 2000000 in
set_option maxRecDepth 100000 in
theorem rimage_any (w : World) (r gs : Nat) (T : RSt) (h : RefAt w r gs T) : Calls Tryz.prog 31 #[.pointer (some ⟨r, 0, none⟩)] w (OwnPost w.heap.size 9 1 T.s.length (strCells (T.s.map (·.text))) w) := by
  have H := Lib.hid h
  obtain ⟨n, hn⟩ : ∃ n, n = T.s.length := ⟨_, rfl⟩
  have HN := Lib.hid hn
  have n2 : n ≤ 4096 := by rw [hn]; exact h.n2
  obtain ⟨i0, hi, hz0, hz1, hz2⟩ := info_parts info9
  rw [← hn]
  clear h hn
  go_enter Tryz.func31, Tryz.ntmps31
  go_wp2_with fail
  go_loopw [3, 4] (fun o x wr => ∃ (k : Nat) (v : Value), k ≤ n ∧ x = .int .i64 (k : Int) ∧ v = o ∧ Hid (wr.ownsRow w.heap.size 9 1 v k (strCells ((T.s.map (·.text)).take k))) ∧ Hid (Below w.heap.size w wr)) (fun _ x _ => n - (intOf x).toNat)
  case atStart => exact ⟨0, .slice none 0 0, by omega, rfl, rfl, Lib.hid (World.ownsRow_nil _ _ _ _), Lib.hid (Below.refl _ _)⟩
  case round =>
    obtain ⟨k, v, hk, rfl, rfl, R, B⟩ := hrel
    have HW := Lib.hid (ref_go H.out B.out)
    obtain ⟨c0, _, _⟩ := HW.out.heads
    rw [← HN.out] at c0
    by_cases hlt : k < n
    · have hkl : k < T.s.length := by rw [← HN.out]; exact hlt
      have s0 := (HW.out.sec (List.getElem?_eq_getElem hkl)).1
      obtain ⟨s, hs⟩ : ∃ s : ByteArray, s = ⟨T.s[k].text.toArray⟩ := ⟨_, rfl⟩
      rw [show str T.s[k].text = .string s by rw [hs]] at s0
      have HT := Lib.hid (show strCells ((T.s.map (·.text)).take (k + 1)) = strCells ((T.s.map (·.text)).take k) ++ [.string s] by
        rw [List.take_succ_eq_append_getElem (by simpa using hkl), strCells_snoc, hs]
        simp)
      have j1 : (k : Int) < (n : Int) := by omega
      have j0 : (0 : Int) ≤ (k : Int) := by omega
      clear hs hkl
      go_wp2_with (at_builtin; refine wpList_append_own _ rfl _ _ 28 rfl w.heap.size 9 i0 _ 1 16 Tryz.underlying28 hi hz0 hz1 hz2 rfl (by decide) v _ _ rfl (R.out.alloc _) ⟨wr.heap.size, 0, none⟩ 1 1 [.string s] rfl rfl (cells_one _ _ _) (by simp [Value.oneCell']) (by unfold maxLen; omega) (by omega) (by have := B.out.size; rw [World.size_alloc]; omega) ?_)
      intro v6 w6 hown6 hgrow6 _
      have O6 := Lib.hid (show w6.ownsRow w.heap.size 9 1 v6 (k + 1) (strCells ((T.s.map (·.text)).take (k + 1))) by rw [HT.out]; exact hown6)
      have B6 := Lib.hid (show Below w.heap.size w w6 from ((B.out.alloc B.out.size _).grown hgrow6 (by have := B.out.size; rw [World.size_alloc]; omega) (fun g hg => (R.out.lt g hg).1)))
      obtain ⟨A6, c6, rfl, -⟩ := own_slice hown6
      clear hown6 hgrow6
      go_wp2_with fail
      go_roundw
      case rel => exact ⟨k + 1, _, by omega, by go_num, rfl, O6, B6⟩
      case measure => simp [intOf]; omega
    · obtain rfl : k = n := by omega
      have HTK := Lib.hid (show (T.s.map (·.text)).take k = T.s.map (·.text) from List.take_of_length_le (by rw [List.length_map, ← HN.out]; exact Nat.le_refl _))
      obtain ⟨A, c, rfl, _⟩ := own_slice R.out
      go_wp2_with fail
      go_ret
      exact ⟨_, rfl, by rw [← HTK.out]; exact R.out, B.out⟩
end Go.Proofs.YtddpjahoeldleaaGreatDoor

/-! The reference's Append. -/
namespace Go.Proofs.YtddpjahoeldleaaGreatDoor
open Go.RowKit Go.Maps
open Dk (RefAt RSt rWriteE rWriteS rFlushE rFlushS rReadB rReadE)

def RApPost (r : ApT) (w : World) (j rr gs : Nat) (vn vt vb : Value) : Ending → World → Prop := fun e w' => ∃ vn' vt', e = .returned (.tuple #[.int .i64 r.n, .int .i64 r.err]) ∧ RJAt w' j rr vn' vt' vb r.J ∧ RefAt w' rr gs r.T ∧ Keep (j :: (obR vn ++ obR vt ++ [rr, gs])) w w' ∧ Aged w vn vn' ∧ Aged w vt vt'
theorem rhcell {w w' : World} {F : List Nat} {a : Addr} {v : Value} (hk : Keep F w w') (hl : a.block < w.heap.size) (hF : a.block ∉ F) (h : w.cell? a = some v) : w'.cell? a = some v := (hk.cell (p := a) hl hF).trans h
section
variable (w : World) (j r gs : Nat) (vn vt vb : Value) (J : JV) (T : RSt)
theorem rapp_closed (hJ : RJAt w j r vn vt vb J) (hd : RefAt w r gs T) (s : ByteArray) (hc : J.closed = true) : Calls Tryz.prog 24 #[.pointer (some ⟨j, 0, none⟩), .string s] w (RApPost (appT J T s.data.toList) w j r gs vn vt vb) := by
  obtain ⟨_, _, _, _, _, _, c6⟩ := hJ.cells
  have HR := Lib.hid (show appT J T s.data.toList = ⟨0, 24, J, T⟩ by rw [appT, if_pos hc])
  have HJ := Lib.hid hJ
  have HD := Lib.hid hd
  rw [hc] at c6
  clear hJ hd hc
  go_enter Tryz.func24, Tryz.ntmps24
  go_wp2_with fail
  go_ret2
  rw [HR.out]
  exact ⟨vn, vt, rfl, HJ.out, HD.out, Keep.refl _ _, Aged.refl _ _, Aged.refl _ _⟩
theorem rapp_limit (hJ : RJAt w j r vn vt vb J) (hd : RefAt w r gs T) (s : ByteArray) (hc : J.closed = false) (hl : 8000 < s.size ∨ 4096 < J.next) : Calls Tryz.prog 24 #[.pointer (some ⟨j, 0, none⟩), .string s] w (RApPost (appT J T s.data.toList) w j r gs vn vt vb) := by
  obtain ⟨_, _, _, _, c4, _, c6⟩ := hJ.cells
  have HR := Lib.hid (show appT J T s.data.toList = ⟨0, 4, J, T⟩ by rw [appT, if_neg (by rw [hc]; decide), if_pos (by rw [list_size]; exact hl)])
  have HJ := Lib.hid hJ
  have HD := Lib.hid hd
  rw [hc] at c6
  generalize J.next = N at *
  clear hJ hd hc
  by_cases h8 : 8000 < s.size
  · have d1 : decide ((8000 : Int) < (s.size : Int)) = true := decide_eq_true (by omega)
    clear hl h8
    go_enter Tryz.func24, Tryz.ntmps24
    go_wp2_with fail
    go_ret2
    rw [HR.out]
    exact ⟨vn, vt, rfl, HJ.out, HD.out, Keep.refl _ _, Aged.refl _ _, Aged.refl _ _⟩
  · have d1 : decide ((8000 : Int) < (s.size : Int)) = false := decide_eq_false (by omega)
    have d2 : decide ((4096 : Int) < N) = true := decide_eq_true (by omega)
    clear hl h8
    go_enter Tryz.func24, Tryz.ntmps24
    go_wp2_with fail
    go_ret2
    rw [HR.out]
    exact ⟨vn, vt, rfl, HJ.out, HD.out, Keep.refl _ _, Aged.refl _ _, Aged.refl _ _⟩
theorem rapp_full (hJ : RJAt w j r vn vt vb J) (hd : RefAt w r gs T) (s : ByteArray) (hc : J.closed = false) (h8 : s.size ≤ 8000) (hx : J.next ≤ 4096) (f0 : 0 ≤ J.fin) (f1 : J.fin ≤ 4096) (hf : (T.s.length : Int) - J.fin < (countN s.size : Int)) : Calls Tryz.prog 24 #[.pointer (some ⟨j, 0, none⟩), .string s] w (RApPost (appT J T s.data.toList) w j r gs vn vt vb) := by
  obtain ⟨_, _, _, _, c4, _, c6⟩ := hJ.cells
  have HR := Lib.hid (show appT J T s.data.toList = ⟨0, 23, J, T⟩ by rw [appT, if_neg (by rw [hc]; decide), if_neg (by rw [list_size]; omega), if_pos (by rw [list_size]; exact hf)])
  have HJ := Lib.hid hJ
  have HD := Lib.hid hd
  have HRM := Lib.hid (fun w' hb => rroom_any w' j r gs vn vt vb J T (hJ.below (w' := w') hb) (ref_go hd hb) f0 f1)
  have HCN := Lib.hid (fun w' => rcount_any (s.size : Int) w')
  rw [hc] at c6
  obtain ⟨N, hN⟩ : ∃ N, N = J.next := ⟨_, rfl⟩
  rw [← hN] at c4 hx
  have d1 : decide ((8000 : Int) < (s.size : Int)) = false := decide_eq_false (by omega)
  have d2 : decide ((4096 : Int) < N) = false := decide_eq_false (by omega)
  obtain ⟨C, hC⟩ : ∃ C, C = countI (s.size : Int) := ⟨_, rfl⟩
  rw [← hC] at HCN
  have hC2 : (C : Int) = (countN s.size : Int) := by rw [hC, countI_nat]
  obtain ⟨R, hR⟩ : ∃ R, R = (T.s.length : Int) - J.fin := ⟨_, rfl⟩
  rw [← hR] at HRM hf
  have d3 : decide (R < (C : Int)) = true := decide_eq_true (by omega)
  clear hJ hd hc hN hC hC2 hR hf f0 f1 h8 hx
  go_enter Tryz.func24, Tryz.ntmps24
  go_wp2_with (first
    | (go_at_call 57; refine (HCN.out _).mono ?_; rintro e w2 ⟨rfl, rfl⟩)
    | (go_at_call 60; refine (HRM.out _ (Below.refl _ _)).mono ?_; rintro e w3 ⟨rfl, b3⟩; have HB3 := Lib.hid b3; clear b3))
  go_ret2
  rw [HR.out]
  exact ⟨vn, vt, rfl, HJ.out.below HB3.out, ref_go HD.out HB3.out, Keep.of_below HB3.out _, Aged.refl _ _, Aged.refl _ _⟩
end
section
variable {ops : Array Oper} {o : Oper} {rest : List Oper} {a : Act} {X : World} {Q : Exit → Act → World → Prop}
theorem list_appI (hgd : o.guard = none) (s x : Operand) (ho : o.op = .call { callee := .builtin .append, args := #[s, x], argTypes := #[23, 23] }) (hty : o.type = 23) (v : Value) (n : Nat) (zs : List Int) (hs : a.eval s = v) (h : X.ownsRow 0 3 1 v n (intCells zs)) (z : Int) (b : Nat) (hx : a.eval x = .slice (some ⟨b, 0, none⟩) 1 1)
    (ha : X.cell? ⟨b, 0, none⟩ = some (.int .i64 z)) (hn : n ≤ 100000)
    (hK : ∀ A c X', X'.ownsRow 0 3 1 (.slice A (n + 1) c) (n + 1) (intCells (zs ++ [z])) → X.grownBy X' v.ownBlock → ((Value.slice A (n + 1) c).ownBlock = v.ownBlock ∨ (Value.slice A (n + 1) c).ownBlock = some X.heap.size) → wpList Tryz.prog ops Q rest (a.put o.dst (.slice A (n + 1) c)) X') :
    wpList Tryz.prog ops Q (o :: rest) a X := by
  have h := step_appI (ops := ops) (K := wpList Tryz.prog ops Q rest) (Q := Q) (E := True) hgd s x ho hty v n zs hs h z b hx ha hn hK
  have hw : Region.wanted o (yielded ops a.tmps) = true := by simp [Region.wanted, hgd]
  rw [if_pos hw] at h
  rw [wpList, if_pos hw]
  exact .inl h
theorem list_appS (hgd : o.guard = none) (s x : Operand) (ho : o.op = .call { callee := .builtin .append, args := #[s, x], argTypes := #[28, 28] }) (hty : o.type = 28) (v : Value) (n : Nat) (zs : List Bs) (hs : a.eval s = v) (h : X.ownsRow 0 9 1 v n (strCells zs)) (z : Bs) (b : Nat) (hx : a.eval x = .slice (some ⟨b, 0, none⟩) 1 1)
    (ha : X.cell? ⟨b, 0, none⟩ = some (str z)) (hn : n ≤ 100000)
    (hK : ∀ A c X', X'.ownsRow 0 9 1 (.slice A (n + 1) c) (n + 1) (strCells (zs ++ [z])) → X.grownBy X' v.ownBlock → ((Value.slice A (n + 1) c).ownBlock = v.ownBlock ∨ (Value.slice A (n + 1) c).ownBlock = some X.heap.size) → wpList Tryz.prog ops Q rest (a.put o.dst (.slice A (n + 1) c)) X') :
    wpList Tryz.prog ops Q (o :: rest) a X := by
  have h := step_appS (ops := ops) (K := wpList Tryz.prog ops Q rest) (Q := Q) (E := True) hgd s x ho hty v n zs hs h z b hx ha hn hK
  have hw : Region.wanted o (yielded ops a.tmps) = true := by simp [Region.wanted, hgd]
  rw [if_pos hw] at h
  rw [wpList, if_pos hw]
  exact .inl h
end
section
variable {w7 w8 : World} {j r gs : Nat} {vn vt vb v8 : Value} {J : JV} {T : RSt}
theorem ob_eq (v : Value) : ob v = obR v := rfl
theorem row_ref {base e sz n : Nat} {v : Value} {xs : List Value} (h : w7.ownsRow base e sz v n xs) (hd : RefAt w7 r gs T) (h1 : e ≠ 102) (h2 : e ≠ 104) : ∀ k, v.ownBlock = some k → k ≠ r ∧ k ≠ gs := fun k hk => ⟨row_neB hd.head h h1 k hk, row_neB hd.rows h h2 k hk⟩
/-- a number more in the journal -/
theorem rj_nums (h : RJAt w7 j r vn vt vb J) (hd : RefAt w7 r gs T) (N : Int) (G8 : Grew w7 vn w8 v8) (o8 : w8.ownsRow 0 3 1 v8 (J.nums.length + 1) (intCells (J.nums ++ [N]))) :
    RJAt (w8.setCell ⟨j, 1, none⟩ v8) j r v8 vt vb { J with nums := J.nums ++ [N] } ∧ RefAt (w8.setCell ⟨j, 1, none⟩ v8) r gs T ∧ Keep (j :: obR vn) w7 (w8.setCell ⟨j, 1, none⟩ v8) := by
  have k8 := G8.keep
  rw [ob_eq] at k8
  have hjn : j ∉ obR vn := fun hm => row_neB h.head h.nums (by decide) j (mem_obR.1 hm) rfl
  have H8 : Blk w8 j 57 _ := (k8.block j h.head.lt hjn).trans h.head
  have T8 := own_keepF h.texts k8 (rows_neB h.texts h.nums (by decide))
  have b8 := own_keepF h.bad k8 (fun k hk hm => h.apart k (mem_obR.1 hm) hk)
  have ks : Keep [j] w8 (w8.setCell ⟨j, 1, none⟩ v8) := (Keep.refl _ _).setCell (a := ⟨j, 1, none⟩) (by simp) _
  have nj : ∀ (e : TypeId) (v : Value) (n : Nat) (xs : List Value), w8.ownsRow 0 e 1 v n xs → e ≠ 57 → ∀ k, v.ownBlock = some k → k ∉ [j] := fun e v n xs ho he k hk hm => row_neB H8 ho he k hk (List.mem_singleton.1 hm)
  have hr := row_ref h.nums hd (by decide) (by decide)
  have d8 : RefAt w8 r gs T := hd.keep k8 (fun hm => (hr r (mem_obR.1 hm)).1 rfl) (fun hm => (hr gs (mem_obR.1 hm)).2 rfl)
  refine ⟨⟨H8.set_ 1 v8, ?_, own_keepF T8 ks (nj _ _ _ _ T8 (by decide)), own_keepF b8 ks (nj _ _ _ _ b8 (by decide)), fun k hk e => ?_⟩, d8.keep ks (fun hm => ?_) (fun hm => ?_), (k8.more (fun _ hk => List.mem_cons_of_mem _ hk)).trans (ks.more (fun k hk => by rw [List.mem_singleton] at hk; rw [hk]; exact List.mem_cons_self ..))⟩
  · rw [List.length_append, List.length_singleton]; exact own_keepF o8 ks (nj _ _ _ _ o8 (by decide))
  · rcases G8.aged k hk with e1 | e1
    · exact h.apart k e1 e
    · have := (h.bad.lt k e).2; omega
  · exact blk_neB H8 d8.head (by decide) (List.mem_singleton.1 hm).symm
  · exact blk_neB H8 d8.rows (by decide) (List.mem_singleton.1 hm).symm
/-- a text more in the journal -/
theorem rj_texts (h : RJAt w7 j r vn vt vb J) (hd : RefAt w7 r gs T) (t : Bs) (G8 : Grew w7 vt w8 v8) (o8 : w8.ownsRow 0 9 1 v8 (J.texts.length + 1) (strCells (J.texts ++ [t]))) :
    RJAt (w8.setCell ⟨j, 2, none⟩ v8) j r vn v8 vb { J with texts := J.texts ++ [t] } ∧ RefAt (w8.setCell ⟨j, 2, none⟩ v8) r gs T ∧ Keep (j :: obR vt) w7 (w8.setCell ⟨j, 2, none⟩ v8) := by
  have k8 := G8.keep
  rw [ob_eq] at k8
  have hjn : j ∉ obR vt := fun hm => row_neB h.head h.texts (by decide) j (mem_obR.1 hm) rfl
  have H8 : Blk w8 j 57 _ := (k8.block j h.head.lt hjn).trans h.head
  have N8 := own_keepF h.nums k8 (rows_neB h.nums h.texts (by decide))
  have b8 := own_keepF h.bad k8 (rows_neB h.bad h.texts (by decide))
  have ks : Keep [j] w8 (w8.setCell ⟨j, 2, none⟩ v8) := (Keep.refl _ _).setCell (a := ⟨j, 2, none⟩) (by simp) _
  have nj : ∀ (e : TypeId) (v : Value) (n : Nat) (xs : List Value), w8.ownsRow 0 e 1 v n xs → e ≠ 57 → ∀ k, v.ownBlock = some k → k ∉ [j] := fun e v n xs ho he k hk hm => row_neB H8 ho he k hk (List.mem_singleton.1 hm)
  have hr := row_ref h.texts hd (by decide) (by decide)
  have d8 : RefAt w8 r gs T := hd.keep k8 (fun hm => (hr r (mem_obR.1 hm)).1 rfl) (fun hm => (hr gs (mem_obR.1 hm)).2 rfl)
  refine ⟨⟨H8.set_ 2 v8, own_keepF N8 ks (nj _ _ _ _ N8 (by decide)), ?_, own_keepF b8 ks (nj _ _ _ _ b8 (by decide)), h.apart⟩, d8.keep ks (fun hm => ?_) (fun hm => ?_), (k8.more (fun _ hk => List.mem_cons_of_mem _ hk)).trans (ks.more (fun k hk => by rw [List.mem_singleton] at hk; rw [hk]; exact List.mem_cons_self ..))⟩
  · rw [List.length_append, List.length_singleton]; exact own_keepF o8 ks (nj _ _ _ _ o8 (by decide))
  · exact blk_neB H8 d8.head (by decide) (List.mem_singleton.1 hm).symm
  · exact blk_neB H8 d8.rows (by decide) (List.mem_singleton.1 hm).symm
end
section
variable (w : World) (j r gs : Nat) (vn vt vb : Value) (J : JV) (T : RSt)
set_option maxHeartbeats 8000000 in
set_option maxRecDepth 100000 in
theorem rapp_main (hJ : RJAt w j r vn vt vb J) (hd : RefAt w r gs T) (hk : RConsts w) (s : ByteArray) (hc : J.closed = false) (h8 : s.size ≤ 8000) (hx1 : 1 ≤ J.next) (hx : J.next ≤ 4096) (f0 : 0 ≤ J.fin) (f1 : J.fin ≤ 4096) (hf : ¬ (T.s.length : Int) - J.fin < (countN s.size : Int))
    (hn : J.nums.length ≤ 90000) (ht : J.texts.length ≤ 90000) : Calls Tryz.prog 24 #[.pointer (some ⟨j, 0, none⟩), .string s] w (RApPost (appT J T s.data.toList) w j r gs vn vt vb) := by
  obtain ⟨_, _, _, _, c4, c5, c6⟩ := hJ.cells
  have HR := Lib.hid (show appT J T s.data.toList = (if (apT J T s.data.toList).err ≠ 0 then ⟨0, (apT J T s.data.toList).err, { apJ1 J s.data.toList with closed := true }, (apT J T s.data.toList).T⟩ else if (apT J T s.data.toList).same = false then ⟨0, 25, apJ1 J s.data.toList, (apT J T s.data.toList).T⟩ else ⟨J.next, 0, { apJ1 J s.data.toList with nums := J.nums ++ [J.next], texts := J.texts ++ [s.data.toList] }, (apT J T s.data.toList).T⟩) by
    rw [appT, if_neg (by rw [hc]; decide), if_neg (by rw [list_size]; omega), if_neg (by rw [list_size]; exact hf)])
  have HJ := Lib.hid hJ
  have HD := Lib.hid hd
  have HK := Lib.hid hk
  have HRM := Lib.hid (fun w' hb => rroom_any w' j r gs vn vt vb J T (hJ.below (w' := w') hb) (ref_go hd hb) f0 f1)
  have HCN := Lib.hid (fun w' => rcount_any (s.size : Int) w')
  have hn2 := hd.n2
  rw [hc] at c6
  obtain ⟨N, hN⟩ : ∃ N, N = J.next := ⟨_, rfl⟩
  obtain ⟨F, hF⟩ : ∃ F, F = J.fin := ⟨_, rfl⟩
  rw [← hN] at c4 hx hx1
  rw [← hF] at c5 f0 f1
  have d1 : decide ((8000 : Int) < (s.size : Int)) = false := decide_eq_false (by omega)
  have d2 : decide ((4096 : Int) < N) = false := decide_eq_false (by omega)
  obtain ⟨C, hC⟩ : ∃ C, C = countI (s.size : Int) := ⟨_, rfl⟩
  rw [← hC] at HCN
  have hC2 : C = countN s.size := by rw [hC, countI_nat]
  obtain ⟨R, hR⟩ : ∃ R, R = (T.s.length : Int) - J.fin := ⟨_, rfl⟩
  rw [← hR] at HRM hf
  have d3 : decide (R < (C : Int)) = false := decide_eq_false (by rw [hC2]; exact hf)
  have hC200 : C ≤ 200 := by rw [hC2]; unfold countN; split <;> (try split) <;> omega
  have hFC : F + (C : Int) ≤ 4096 := by rw [hC2, hF]; rw [hR] at hf; omega
  have HPK := Lib.hid (fun w' hk' => rpackV_any N s w' hk')
  have hpv : packV N s.data.toList = packB N.toNat s.data.toList ∧ packE N s.data.toList = 0 := by
    have e : packE N s.data.toList = 0 := by unfold packE; rw [if_neg (by omega), if_neg (by rw [list_size]; omega)]
    exact ⟨by rw [packV, if_pos e], e⟩
  rw [hpv.1, hpv.2] at HPK
  obtain ⟨ss, hss⟩ : ∃ ss, ss = packB N.toNat s.data.toList := ⟨_, rfl⟩
  rw [← hss] at HPK
  have hsl : ss.length = C := by rw [hss, packB, List.length_map, List.length_range, list_size, hC2]
  have hs64 : ∀ x ∈ ss, x.length ≤ 1000000 := fun x hx => by
    rw [hss, packB, List.mem_map] at hx
    obtain ⟨i, _, rfl⟩ := hx
    rw [sect_len]; decide
  have HSL := Lib.hid hsl
  have HS64 := Lib.hid hs64
  have HSS := Lib.hid hss
  have HNF := Lib.hid (And.intro hN (And.intro hF hC2))
  clear hJ hd hk hc hN hF hC hC2 hR hf h8 hpv hss hsl hs64
  go_enter Tryz.func24, Tryz.ntmps24
  go_wp2_with (first
    | (go_at_call 57; refine (HCN.out _).mono ?_; rintro e w2 ⟨rfl, rfl⟩)
    | (go_at_call 60; refine (HRM.out _ (Below.refl _ _)).mono ?_; rintro e w3 ⟨rfl, b3⟩; have HB3 := Lib.hid b3; have JT3 := Lib.hid (HJ.out.below b3); have c4' := JT3.out.cells.2.2.2.2.1; have c5' := JT3.out.cells.2.2.2.2.2.1; rw [← HNF.out.1] at c4'; rw [← HNF.out.2.1] at c5'; clear b3))
  refine (HPK.out w3 (HK.out.below HB3.out)).mono ?_
  rintro e w5 ⟨v5, rfl, own5, b5⟩
  rw [HSL.out] at own5
  obtain ⟨A5, cp5, rfl, _⟩ := own_slice own5
  have O5 := Lib.hid own5
  have JT5 := Lib.hid (JT3.out.below b5)
  have DT5 := Lib.hid (ref_go (ref_go HD.out HB3.out) b5)
  have B5 := Lib.hid (below_go HB3.out b5)
  have HJ2 := Lib.hid (JT5.out.set_ 4 (.int .i64 (N + 1)) (J' := { J with next := N + 1 }) (by rw [← HNF.out.1]; rfl) rfl rfl rfl)
  have HJ3 := Lib.hid (HJ2.out.set_ 5 (.int .i64 (F + (C : Int))) (J' := { J with next := N + 1, fin := F + (C : Int) }) rfl rfl rfl rfl)
  have HJK : Hid (Keep [j] w5 ((w5.setCell ⟨j, 4, none⟩ (.int .i64 (N + 1))).setCell ⟨j, 5, none⟩ (.int .i64 (F + (C : Int))))) := Lib.hid (((Keep.refl _ _).setCell (a := ⟨j, 4, none⟩) (by simp) _).setCell (a := ⟨j, 5, none⟩) (by simp) _)
  have q4 := JT5.out.cells.2.2.2.2.1
  have q5 := JT5.out.cells.2.2.2.2.2.1
  rw [← HNF.out.1] at q4
  rw [← HNF.out.2.1] at q5
  have r4 := JT5.out.head.frozen 4
  have r5 := JT5.out.head.frozen 5
  have wN : IntKind.i64.wrap (N + 1) = N + 1 := IntWalk.i64_in _ (by omega)
  have wF : IntKind.i64.wrap (F + (C : Int)) = F + (C : Int) := IntWalk.i64_in _ (by omega)
  have hBL := Lib.hid (show ∀ b off, A5 = some ⟨b, off, none⟩ → w.heap.size ≤ b from fun b off e => by
    rcases own5.2 with ⟨h1, _⟩ | ⟨g', cap, cur, hv, hb, _⟩
    · injection h1 with h1; rw [h1] at e; cases e
    · injection hv with h1 _ _; rw [h1] at e; injection e with e; injection e with e1 _ _; have := HB3.out.size; omega)
  clear own5 b5
  go_wp2_with fail
  have D6 := Lib.hid (DT5.out.keep HJK.out (fun hm => blk_neB JT5.out.head DT5.out.head (by decide) (List.mem_singleton.1 hm).symm) (fun hm => blk_neB JT5.out.head DT5.out.rows (by decide) (List.mem_singleton.1 hm).symm))
  have R6 := Lib.hid (Rd.of_own (own_keepF O5.out HJK.out (fun k hk hm => row_neB JT5.out.head (own_base O5.out (Nat.zero_le _)) (by decide) k hk (List.mem_singleton.1 hm))))
  have HBN := Lib.hid (show ∀ b off, A5 = some ⟨b, off, none⟩ → b ∉ [r, gs] from fun b off e hm => by
    have h1 := hBL.out b off e
    obtain ⟨l1, l2⟩ := HD.out.lt
    simp only [List.mem_cons, List.not_mem_nil, or_false] at hm
    omega)
  have K6 := Lib.hid (show Keep (j :: (obR vn ++ obR vt ++ [r, gs])) w ((w5.setCell ⟨j, 4, none⟩ (.int .i64 (N + 1))).setCell ⟨j, 5, none⟩ (.int .i64 (F + (C : Int)))) from (Keep.of_below B5.out _).trans (HJK.out.more (fun k hk => by rw [List.mem_singleton] at hk; rw [hk]; exact List.mem_cons_self ..)))
  clear q4 q5 r4 r5 c4 c5 c6 c4' c5'
  generalize (w5.setCell ⟨j, 4, none⟩ (.int .i64 (N + 1))).setCell ⟨j, 5, none⟩ (.int .i64 (F + (C : Int))) = w6 at *
  obtain ⟨J6, hJ6⟩ : ∃ J6 : JV, J6 = { J with next := N + 1, fin := F + (C : Int) } := ⟨_, rfl⟩
  have HJ6 := Lib.hid hJ6
  rw [← hJ6] at HJ3
  clear hJ6 HJ2 HJK
  have HRR := Lib.hid (show apT J T s.data.toList = writeT T F ss by rw [apT, ← HNF.out.2.1, ← HNF.out.1, ← HSS.out])
  have HA1 := Lib.hid (show apJ1 J s.data.toList = J6 by rw [apJ1, ← HNF.out.1, ← HNF.out.2.1, list_size, HJ6.out, HNF.out.2.2])
  go_loopw [10] (fun x wr => ∃ (k : Nat) (T' : RSt), k ≤ C ∧ x = .int .i64 k ∧ Hid (RefAt wr r gs T') ∧ Hid (Keep [r, gs] w6 wr) ∧ Hid (wrT T F ss = wrT T' (F + k) (ss.drop k))) (fun x _ => C - (intOf x).toNat)
  case atStart => exact ⟨0, T, by omega, rfl, D6, Lib.hid (Keep.refl _ _), Lib.hid (by rw [List.drop_zero]; congr 1; omega)⟩
  case round =>
    obtain ⟨k, T', hk, rfl, dT, kT, eT⟩ := hrel
    have JT := Lib.hid (HJ3.out.disk D6.out kT.out)
    have c0 := JT.out.cells.1
    by_cases hlt : k < C
    · have k0 : (0 : Int) ≤ (k : Int) := by omega
      have k1 : (k : Int) < (C : Int) := by omega
      obtain ⟨b, off, rfl, hbl, hcell⟩ := R6.out.str HSL.out hlt
      have hcw := rhcell kT.out hbl (HBN.out b off rfl) hcell
      have hkl : k < ss.length := by rw [HSL.out]; exact hlt
      obtain ⟨sk, hsk⟩ : ∃ sk : ByteArray, sk = ⟨ss[k].toArray⟩ := ⟨_, rfl⟩
      rw [← hsk] at hcw
      have HSK := Lib.hid (show ss.drop k = sk.data.toList :: ss.drop (k + 1) by rw [List.drop_eq_getElem_cons hkl, hsk])
      have HZ := Lib.hid (show sk.size ≤ 9223372036854775807 by
        have := HS64.out ss[k] (List.getElem_mem hkl)
        rw [hsk, mk_size]; omega)
      have w1 : IntKind.i64.wrap (F + (k : Int)) = F + (k : Int) := IntWalk.i64_in _ (by omega)
      have HKN := Lib.hid (And.intro hk hlt)
      have HBL6 := Lib.hid (show b < wr.heap.size from Nat.lt_of_lt_of_le hbl kT.out.size)
      have HBN6 := Lib.hid (HBN.out b off rfl)
      have HJL := Lib.hid JT.out.head.lt
      have HJN := Lib.hid (show j ∉ [r, gs] from fun hm => by
        simp only [List.mem_cons, List.not_mem_nil, or_false] at hm
        rcases hm with hm | hm
        · exact blk_neB JT.out.head dT.out.head (by decide) hm
        · exact blk_neB JT.out.head dT.out.rows (by decide) hm)
      have WR := Lib.hid (show ∀ W, Hid (Below wr.heap.size wr W) → Calls Tryz.prog 33 #[.pointer (some ⟨r, 0, none⟩), .int .i64 (F + (k : Int)), .string sk] W (Dk.RPost (.int .i64 (rWriteE T' (F + (k : Int)) sk.data.toList)) r gs (rWriteS T' (F + (k : Int)) sk.data.toList) W) from fun W h => Dk.rwrite_any W r gs T' (ref_go dT.out h.out) (F + (k : Int)) sk HZ.out)
      obtain ⟨E, hE⟩ : ∃ E, E = rWriteE T' (F + (k : Int)) sk.data.toList := ⟨_, rfl⟩
      rw [← hE] at WR
      have HE := Lib.hid hE
      have y0 : Hid (Below wr.heap.size wr wr.drew) := Lib.hid (Below.refl _ _).drew
      clear hcell hsk hk hlt hkl hbl hE
      go_wp2_with fail
      go_region_held3 (fun W => W.cell? ⟨j, 0, none⟩ = some (.pointer (some ⟨r, 0, none⟩)) ∧ W.cell? ⟨b, off + k, none⟩ = some (.string sk))
        (first | exact ⟨rhcell k2 HJL.out HJN.out c0, rhcell k2 HBL6.out HBN6.out hcw⟩ | exact ⟨c0, hcw⟩ | go_keep)
        (first | (go_at_call 33; refine (WR.out _ y0).mono ?_; rintro e w2 ⟨rfl, d2, k2⟩))
      go_split_ands
      have D2 := Lib.hid d2
      have K2 := Lib.hid (show Keep [r, gs] w6 w2 from kT.out.trans ⟨k2.os, k2.tape, k2.output, k2.size, k2.block⟩)
      clear d2 k2 WR y0 hcw c0
      by_cases h0 : E = 0
      · subst h0
        have HST := Lib.hid (show wrT T F ss = wrT (rWriteS T' (F + (k : Int)) sk.data.toList) (F + ((k + 1 : Nat) : Int)) (ss.drop (k + 1)) by
          rw [eT.out, HSK.out, wrT, if_neg (by rw [← HE.out]; exact fun h => h rfl)]
          congr 1
          omega)
        go_wp2_with fail
        go_roundw
        case rel => exact ⟨k + 1, _, by have := HKN.out.2; omega, by go_num, D2, K2, HST⟩
        case measure => have := HKN.out.2; simp [intOf]; omega
      · have hb : (E == 0) = false := beq_eq_false_iff_ne.2 h0
        have hb2 : (E != 0) = true := by rw [bne, hb]; rfl
        have HW := Lib.hid (show wrT T F ss = (E, rWriteS T' (F + (k : Int)) sk.data.toList) by rw [eT.out, HSK.out, wrT, if_pos (by rw [← HE.out]; exact h0), ← HE.out])
        have HRF := Lib.hid (show appT J T s.data.toList = ⟨0, E, { J6 with closed := true }, rWriteS T' (F + (k : Int)) sk.data.toList⟩ by
          have hwt : writeT T F ss = ⟨E, false, rWriteS T' (F + (k : Int)) sk.data.toList⟩ := by rw [writeT, HW.out, if_pos (by exact h0)]
          rw [HR.out, HRR.out, HA1.out, hwt, if_pos (by exact h0)])
        have J7 := Lib.hid (HJ3.out.disk D6.out K2.out)
        have q6 := J7.out.cells.2.2.2.2.2.2
        have r6 := J7.out.head.frozen 6
        have J8 := Lib.hid (J7.out.set_ 6 (.bool true) (J' := { J6 with closed := true }) rfl rfl rfl rfl)
        have hk8 : Keep [j] w2 (w2.setCell ⟨j, 6, none⟩ (.bool true)) := (Keep.refl _ _).setCell (a := ⟨j, 6, none⟩) (by simp) _
        have D8 := Lib.hid (D2.out.keep hk8 (fun hm => blk_neB J7.out.head D2.out.head (by decide) (List.mem_singleton.1 hm).symm) (fun hm => blk_neB J7.out.head D2.out.rows (by decide) (List.mem_singleton.1 hm).symm))
        have K8 := Lib.hid ((K6.out.trans (K2.out.more (fun k hk => List.mem_cons_of_mem _ (List.mem_append_right _ hk)))).trans (hk8.more (fun k hk => by rw [List.mem_singleton] at hk; rw [hk]; exact List.mem_cons_self ..)))
        clear h0 hk8
        go_wp2_with fail
        go_ret2
        rw [HRF.out]
        exact ⟨vn, vt, rfl, J8.out, D8.out, K8.out, Aged.refl _ _, Aged.refl _ _⟩
    · obtain rfl : k = C := by omega
      have HW := Lib.hid (show wrT T F ss = (0, T') by rw [eT.out, List.drop_eq_nil_of_le (by rw [HSL.out]; exact Nat.le_refl _), wrT])
      go_wp2_with fail
      refine (Dk.rflush_any wr r gs T' dT.out).mono ?_
      rintro e w2 ⟨rfl, d2, k2⟩
      obtain ⟨E, hE⟩ : ∃ E, E = rFlushE T' := ⟨_, rfl⟩
      rw [← hE]
      have D2 := Lib.hid d2
      have K2 := Lib.hid (kT.out.trans k2)
      have HE := Lib.hid hE
      clear d2 k2 hE c0
      have J7 := Lib.hid (HJ3.out.disk D6.out K2.out)
      by_cases h0 : E = 0
      · subst h0
        have HRW := Lib.hid (show writeT T F ss = ⟨(rdT (rFlushS T') F ss true).1, (rdT (rFlushS T') F ss true).2, rFlushS T'⟩ by rw [writeT, HW.out, if_neg (fun h => h rfl), if_neg (by rw [← HE.out]; exact fun h => h rfl)])
        obtain ⟨T2, hT2⟩ : ∃ T2, T2 = rFlushS T' := ⟨_, rfl⟩
        rw [← hT2] at D2 HRW
        have R7 := Lib.hid (Rd.keepF R6.out K2.out (Nat.le_refl _) HBN.out)
        have q6 := J7.out.cells.2.2.2.2.2.2
        have r6 := J7.out.head.frozen 6
        have c0 := J7.out.cells.1
        clear hT2
        go_wp2_with fail
        go_loopw [13, 14] (fun bv x wr => ∃ (i : Nat) (b : Bool), i ≤ k ∧ x = .int .i64 i ∧ bv = .bool b ∧ w2 = wr ∧ Hid (rdT T2 F ss true = rdT T2 (F + i) (ss.drop i) b)) (fun _ x _ => k - (intOf x).toNat)
        case atStart => exact ⟨0, true, by omega, rfl, rfl, rfl, Lib.hid (by rw [List.drop_zero]; congr 1; omega)⟩
        case round =>
          obtain ⟨i, b, hi, rfl, rfl, rfl, eR⟩ := hrel
          by_cases hik : i < k
          · have k0 : (0 : Int) ≤ (i : Int) := by omega
            have k1 : (i : Int) < (k : Int) := by omega
            obtain ⟨bb, off, rfl, hbl, hcw⟩ := R7.out.str HSL.out hik
            have hkl : i < ss.length := by rw [HSL.out]; exact hik
            obtain ⟨sk, hsk⟩ : ∃ sk : ByteArray, sk = ⟨ss[i].toArray⟩ := ⟨_, rfl⟩
            rw [← hsk] at hcw
            have HSK := Lib.hid (show ss.drop i = sk.data.toList :: ss.drop (i + 1) by rw [List.drop_eq_getElem_cons hkl, hsk])
            have w1 : IntKind.i64.wrap (F + (i : Int)) = F + (i : Int) := IntWalk.i64_in _ (by omega)
            have HKN := Lib.hid (And.intro hi hik)
            have RD := Lib.hid (Dk.rread_any w2 r gs T2 D2.out (F + (i : Int)))
            obtain ⟨E, hE⟩ : ∃ E, E = rReadE T2 (F + (i : Int)) := ⟨_, rfl⟩
            obtain ⟨tt, htt⟩ : ∃ tt : ByteArray, tt = ⟨(rReadB T2 (F + (i : Int))).toArray⟩ := ⟨_, rfl⟩
            rw [Dk.StrErr, ← hE, ← htt] at RD
            have HE2 := Lib.hid hE
            have HTT := Lib.hid (show (tt.toList == sk.toList) = decide (sk.data.toList = rReadB T2 (F + (i : Int))) by
              rw [Lib.toList_data, Lib.toList_data, htt]
              by_cases e : sk.data.toList = rReadB T2 (F + (i : Int))
              · rw [decide_eq_true e, e]; exact beq_self_eq_true _
              · rw [decide_eq_false e]; exact beq_eq_false_iff_ne.2 (fun h => e h.symm))
            clear hsk hi hik hkl hbl hE htt
            go_wp2_with fail
            refine RD.out.mono ?_
            rintro e w' ⟨rfl, rfl⟩
            by_cases h0 : E = 0
            · subst h0
              have HST := Lib.hid (show rdT T2 F ss true = rdT T2 (F + ((i + 1 : Nat) : Int)) (ss.drop (i + 1)) (b && (tt.toList == sk.toList)) by
                rw [eR.out, HSK.out, rdT, if_neg (by rw [← HE2.out]; exact fun h => h rfl), HTT.out]
                congr 1
                omega)
              cases b
              · have HST2 := Lib.hid (show rdT T2 F ss true = rdT T2 (F + ((i + 1 : Nat) : Int)) (ss.drop (i + 1)) false by rw [HST.out]; rfl)
                go_wp2_with fail
                go_roundw
                case rel => exact ⟨i + 1, _, by have := HKN.out.2; omega, by go_num, rfl, trivial, HST2⟩
                case measure => have := HKN.out.2; simp [intOf]; omega
              · cases hx : tt.toList == sk.toList
                · have HST2 := Lib.hid (show rdT T2 F ss true = rdT T2 (F + ((i + 1 : Nat) : Int)) (ss.drop (i + 1)) false by rw [HST.out, hx]; rfl)
                  go_wp2_with fail
                  go_roundw
                  case rel => exact ⟨i + 1, _, by have := HKN.out.2; omega, by go_num, rfl, trivial, HST2⟩
                  case measure => have := HKN.out.2; simp [intOf]; omega
                · have HST2 := Lib.hid (show rdT T2 F ss true = rdT T2 (F + ((i + 1 : Nat) : Int)) (ss.drop (i + 1)) true by rw [HST.out, hx]; rfl)
                  go_wp2_with fail
                  go_roundw
                  case rel => exact ⟨i + 1, _, by have := HKN.out.2; omega, by go_num, rfl, trivial, HST2⟩
                  case measure => have := HKN.out.2; simp [intOf]; omega
            · have hb : (E == 0) = false := beq_eq_false_iff_ne.2 h0
              have hb2 : (E != 0) = true := by rw [bne, hb]; rfl
              have HRD := Lib.hid (show rdT T2 F ss true = (E, false) by rw [eR.out, HSK.out, rdT, if_pos (by rw [← HE2.out]; exact h0), ← HE2.out])
              have HRF := Lib.hid (show appT J T s.data.toList = ⟨0, E, { J6 with closed := true }, T2⟩ by
                rw [HR.out, HRR.out, HA1.out, HRW.out, HRD.out]
                rw [if_pos (by exact h0)])
              have J8 := Lib.hid (J7.out.set_ 6 (.bool true) (J' := { J6 with closed := true }) rfl rfl rfl rfl)
              have hk8 : Keep [j] w2 (w2.setCell ⟨j, 6, none⟩ (.bool true)) := (Keep.refl _ _).setCell (a := ⟨j, 6, none⟩) (by simp) _
              have D8 := Lib.hid (D2.out.keep hk8 (fun hm => blk_neB J7.out.head D2.out.head (by decide) (List.mem_singleton.1 hm).symm) (fun hm => blk_neB J7.out.head D2.out.rows (by decide) (List.mem_singleton.1 hm).symm))
              have K8 := Lib.hid ((K6.out.trans (K2.out.more (fun k hk => List.mem_cons_of_mem _ (List.mem_append_right _ hk)))).trans (hk8.more (fun k hk => by rw [List.mem_singleton] at hk; rw [hk]; exact List.mem_cons_self ..)))
              clear h0 hk8
              go_wp2_with fail
              go_ret2
              rw [HRF.out]
              exact ⟨vn, vt, rfl, J8.out, D8.out, K8.out, Aged.refl _ _, Aged.refl _ _⟩
          · obtain rfl : i = k := by omega
            have HRD := Lib.hid (show rdT T2 F ss true = (0, b) by rw [eR.out, List.drop_eq_nil_of_le (by rw [HSL.out]; exact Nat.le_refl _), rdT])
            have K7 := Lib.hid (K6.out.trans (K2.out.more (fun k hk => List.mem_cons_of_mem _ (List.mem_append_right _ hk))))
            cases b
            · have HRF := Lib.hid (show appT J T s.data.toList = ⟨0, 25, J6, T2⟩ by
                rw [HR.out, HRR.out, HA1.out, HRW.out, HRD.out]
                rw [if_neg (fun h => h rfl), if_pos rfl])
              go_wp2_with fail
              go_ret2
              rw [HRF.out]
              exact ⟨vn, vt, rfl, J7.out, D2.out, K7.out, Aged.refl _ _, Aged.refl _ _⟩
            · have HRF := Lib.hid (show appT J T s.data.toList = ⟨J.next, 0, { J6 with nums := J.nums ++ [J.next], texts := J.texts ++ [s.data.toList] }, T2⟩ by
                rw [HR.out, HRR.out, HA1.out, HRW.out, HRD.out]
                rw [if_neg (fun h => h rfl), if_neg (fun h => by cases h)])
              have s1 := J7.out.cells.2.1
              have HNL := Lib.hid (show J6.nums = J.nums ∧ J6.texts = J.texts by rw [HJ6.out]; exact ⟨rfl, rfl⟩)
              have hnl : J6.nums.length ≤ 90000 := by rw [HNL.out.1]; exact hn
              have htl : J6.texts.length ≤ 90000 := by rw [HNL.out.2]; exact ht
              obtain ⟨An, cn, rfl, -⟩ := own_slice J7.out.nums
              obtain ⟨At, ct, rfl, -⟩ := own_slice J7.out.texts
              go_wp2_with (at_builtin; refine list_appI rfl _ _ rfl rfl _ J6.nums.length J6.nums rfl (J7.out.nums.alloc _) N w2.heap.size rfl ((Blk.new w2 3 #[.int .i64 N]).cell 0) (by omega) ?_)
              intro A8 c8 w8 o8 g8 h8
              have G8 := Lib.hid (grew (w := w2) (below_new w2 (.cells #[.int .i64 N] 3)) g8 (by rw [World.size_alloc]; exact h8))
              obtain ⟨m1, m2, m3⟩ := rj_nums J7.out D2.out N G8.out o8
              have J8 := Lib.hid m1
              have D8 := Lib.hid m2
              have K8 := Lib.hid m3
              have H8 : Blk w8 j 57 _ := (G8.out.keep.block j J7.out.head.lt (fun hm => row_neB J7.out.head J7.out.nums (by decide) j (mem_ob.1 hm) rfl)).trans J7.out.head
              have u1 := H8.cell 1
              have u2 := H8.cell 2
              have t1 := H8.frozen 1
              have t2 := H8.frozen 2
              simp only [List.getElem?_toArray, List.getElem?_cons_zero, List.getElem?_cons_succ] at u1 u2
              clear o8 g8 h8 m1 m2 m3 H8 s1
              have nS : ((w8.setCell ⟨j, 1, none⟩ (.slice A8 (J6.nums.length + 1) c8)).alloc (.cells #[.string s] 9)).cell? ⟨w8.heap.size, 0, none⟩ = some (str s.data.toList) := by
                have h := (Blk.new (w8.setCell ⟨j, 1, none⟩ (.slice A8 (J6.nums.length + 1) c8)) 9 #[.string s]).cell 0
                rw [show (w8.setCell ⟨j, 1, none⟩ (.slice A8 (J6.nums.length + 1) c8)).heap.size = w8.heap.size by simp [World.setCell]] at h
                rw [h, ← str_of (s := s) rfl]; rfl
              have NS := Lib.hid nS
              clear nS
              go_wp2_with (at_builtin; refine list_appS rfl _ _ rfl rfl _ J6.texts.length J6.texts rfl (J8.out.texts.alloc _) s.data.toList w8.heap.size rfl NS.out (by omega) ?_)
              intro A9 c9 w9 o9 g9 h9
              have G9 := Lib.hid (grew (w := w8.setCell ⟨j, 1, none⟩ (.slice A8 (J6.nums.length + 1) c8)) (below_new _ (.cells #[.string s] 9)) g9 (by rw [World.size_alloc, show (w8.setCell ⟨j, 1, none⟩ (.slice A8 (J6.nums.length + 1) c8)).heap.size = w8.heap.size by simp [World.setCell]]; exact h9))
              obtain ⟨m1, m2, m3⟩ := rj_texts J8.out D8.out s.data.toList G9.out o9
              have J9 := Lib.hid m1
              have D9 := Lib.hid m2
              have K9 := Lib.hid m3
              have H9 : Blk w9 j 57 _ := (G9.out.keep.block j J8.out.head.lt (fun hm => row_neB J8.out.head J8.out.texts (by decide) j (mem_ob.1 hm) rfl)).trans J8.out.head
              have v2 := H9.cell 2
              have t9 := H9.frozen 2
              simp only [List.getElem?_toArray, List.getElem?_cons_zero, List.getElem?_cons_succ] at v2
              clear o9 g9 h9 m1 m2 m3 H9
              go_wp2_with fail
              go_ret2
              rw [HRF.out]
              refine ⟨.slice A8 (J6.nums.length + 1) c8, .slice A9 (J6.texts.length + 1) c9, by rw [← HNF.out.1]; rfl, ?_, D9.out, ?_, ?_, ?_⟩
              · rw [← HNL.out.1, ← HNL.out.2, ← HNF.out.1]; exact J9.out
              · refine (K7.out.trans (K8.out.more (fun q hq => ?_))).trans (K9.out.more (fun q hq => ?_))
                · rcases List.mem_cons.1 hq with rfl | hq
                  · exact List.mem_cons_self ..
                  · exact List.mem_cons_of_mem _ (List.mem_append_left _ (List.mem_append_left _ hq))
                · rcases List.mem_cons.1 hq with rfl | hq
                  · exact List.mem_cons_self ..
                  · exact List.mem_cons_of_mem _ (List.mem_append_left _ (List.mem_append_right _ hq))
              · exact G8.out.aged.older K7.out.size
              · exact G9.out.aged.older (Nat.le_trans K7.out.size K8.out.size)
      · have hb : (E == 0) = false := beq_eq_false_iff_ne.2 h0
        have hb2 : (E != 0) = true := by rw [bne, hb]; rfl
        have HRF := Lib.hid (show appT J T s.data.toList = ⟨0, E, { J6 with closed := true }, rFlushS T'⟩ by
          have hwt : writeT T F ss = ⟨E, false, rFlushS T'⟩ := by rw [writeT, HW.out, if_neg (fun h => h rfl), if_pos (by rw [← HE.out]; exact h0), ← HE.out]
          rw [HR.out, HRR.out, HA1.out, hwt, if_pos (by exact h0)])
        have q6 := J7.out.cells.2.2.2.2.2.2
        have r6 := J7.out.head.frozen 6
        have J8 := Lib.hid (J7.out.set_ 6 (.bool true) (J' := { J6 with closed := true }) rfl rfl rfl rfl)
        have hk8 : Keep [j] w2 (w2.setCell ⟨j, 6, none⟩ (.bool true)) := (Keep.refl _ _).setCell (a := ⟨j, 6, none⟩) (by simp) _
        have D8 := Lib.hid (D2.out.keep hk8 (fun hm => blk_neB J7.out.head D2.out.head (by decide) (List.mem_singleton.1 hm).symm) (fun hm => blk_neB J7.out.head D2.out.rows (by decide) (List.mem_singleton.1 hm).symm))
        have K8 := Lib.hid ((K6.out.trans (K2.out.more (fun k hk => List.mem_cons_of_mem _ (List.mem_append_right _ hk)))).trans (hk8.more (fun k hk => by rw [List.mem_singleton] at hk; rw [hk]; exact List.mem_cons_self ..)))
        clear h0 hk8
        go_wp2_with fail
        go_ret2
        rw [HRF.out]
        exact ⟨vn, vt, rfl, J8.out, D8.out, K8.out, Aged.refl _ _, Aged.refl _ _⟩
theorem rapp_any (hJ : RJAt w j r vn vt vb J) (hd : RefAt w r gs T) (hk : RConsts w) (s : ByteArray) (hx1 : 1 ≤ J.next) (f0 : 0 ≤ J.fin) (f1 : J.fin ≤ 4096) (hn : J.nums.length ≤ 90000) (ht : J.texts.length ≤ 90000) :
    Calls Tryz.prog 24 #[.pointer (some ⟨j, 0, none⟩), .string s] w (RApPost (appT J T s.data.toList) w j r gs vn vt vb) := by
  cases hc : J.closed with
  | true => exact rapp_closed w j r gs vn vt vb J T hJ hd s hc
  | false =>
    by_cases hl : 8000 < s.size ∨ 4096 < J.next
    · exact rapp_limit w j r gs vn vt vb J T hJ hd s hc hl
    · by_cases hf : (T.s.length : Int) - J.fin < (countN s.size : Int)
      · exact rapp_full w j r gs vn vt vb J T hJ hd s hc (by omega) (by omega) f0 f1 hf
      · exact rapp_main w j r gs vn vt vb J T hJ hd hk s hc (by omega) hx1 (by omega) f0 f1 hf hn ht
end
end Go.Proofs.YtddpjahoeldleaaGreatDoor

/-! The reference's Open. -/
namespace Go.Proofs.YtddpjahoeldleaaGreatDoor
open Go.RowKit Go.Maps
open Dk (RefAt RSt rReadB rReadE)

def frR (w : World) (v : Value) : Prop := ∀ k, v.ownBlock = some k → w.heap.size ≤ k
theorem frR.aged {w wr : World} {v v' : Value} (h : frR w v) (ha : Aged wr v v') (hs : w.heap.size ≤ wr.heap.size) : frR w v' := fun k hk => by
  rcases ha k hk with e | e
  · exact h k e
  · omega
theorem frR.nil (w : World) : frR w (.slice none 0 0) := fun k hk => by simp [Value.ownBlock] at hk
def ROpenPost (w : World) (r : Nat) (T : RSt) : Ending → World → Prop := fun e w' => Below w.heap.size w w' ∧
  ((T.off = true ∧ e = .returned (.tuple #[.pointer none, .int .i64 24])) ∨
   (T.off = false ∧ ∃ j vn vt vb, e = .returned (.tuple #[.pointer (some ⟨j, 0, none⟩), .int .i64 0]) ∧ RJAt w' j r vn vt vb (openT T) ∧ w.heap.size ≤ j ∧ frR w vn ∧ frR w vt ∧ frR w vb))
theorem readE_on {T : RSt} (ho : T.off = false) {k : Nat} (hk : k < T.s.length) : rReadE T (k : Int) = 0 := by
  unfold rReadE Dk.rIs
  rw [ho, if_neg (by decide), if_pos (by simp; omega)]
theorem readE_off {T : RSt} (ho : T.off = true) (k : Int) : rReadE T k = 24 := by
  unfold rReadE
  rw [ho, if_pos rfl]
theorem rsecs_len (T : RSt) : (secsT T).length = T.s.length := by simp [secsT]
theorem rsecs_take (T : RSt) {k : Nat} (hk : k < T.s.length) : (secsT T).take (k + 1) = (secsT T).take k ++ [rReadB T (k : Int)] := by
  have hl : k < (secsT T).length := by rw [rsecs_len]; exact hk
  rw [take_snoc hl]
  simp [secsT]
theorem read64 {w : World} {r gs : Nat} {T : RSt} (h : RefAt w r gs T) (ho : T.off = false) {k : Nat} (hk : k < T.s.length) : (rReadB T (k : Int)).length = 64 := by
  have hg : T.s.getD k Dk.zs = T.s[k] := by rw [List.getD_eq_getElem?_getD, List.getElem?_eq_getElem hk]; rfl
  unfold rReadB
  rw [readE_on ho hk, Int.toNat_natCast, hg, if_neg (fun h => h rfl)]
  split
  · exact h.n64 _ (List.getElem_mem hk) (by assumption)
  · exact h.t64 _ (List.getElem_mem hk)
theorem ovbad_le (l : List Bs) (hl : l.length ≤ 4096) : (ovJ (oFold l)).bad.length ≤ 4096 := by
  have key : ∀ (l : List Bs) (o : OV), (l.foldl oStep o).bad.length ≤ o.bad.length + l.length := by
    intro l
    induction l with
    | nil => intro o; exact Nat.le_refl _
    | cons s l ih =>
      intro o
      have h := ih (oStep o s)
      rw [List.foldl_cons, List.length_cons]
      have h2 : (oStep o s).bad.length ≤ o.bad.length + 1 := by
        unfold oStep
        simp only []
        split
        · omega
        · rw [List.length_append, List.length_singleton]; exact Nat.le_refl _
      omega
  have h := key l ⟨0, 1, 0, []⟩
  rw [ovJ, List.length_map]
  rw [List.length_nil] at h
  exact Nat.le_trans h (by omega)
theorem scan_cons {ps : List PartV} {k : Nat} {p : PartV} (hp : ps[k]? = some p) : ps.drop k = p :: ps.drop (k + 1) := by
  obtain ⟨hk, rfl⟩ := List.getElem?_eq_some_iff.1 hp
  exact List.drop_eq_getElem_cons hk
theorem scan_skip {ps : List PartV} {k : Nat} {p : PartV} (hp : ps[k]? = some p) (hr : ¬ recOK (ps.drop k) = true) : recL (ps.drop k) = recL (ps.drop (k + 1)) := by
  rw [scan_cons hp] at hr ⊢
  rw [recL_no hr]
theorem scan_rec {ps : List PartV} {k : Nat} {p : PartV} (hp : ps[k]? = some p) (hr : recOK (ps.drop k) = true) : recL (ps.drop k) = (p.number, recT (ps.drop k) (countN p.left)) :: recL (ps.drop (k + countN p.left)) := by
  rw [scan_cons hp] at hr
  rw [show (ps.drop k) = p :: ps.drop (k + 1) from scan_cons hp, recL_yes hr, ← scan_cons hp, List.drop_drop]
theorem scan_le {ps : List PartV} {k : Nat} {p : PartV} (hp : ps[k]? = some p) (hr : recOK (ps.drop k) = true) : 1 ≤ countN p.left ∧ k + countN p.left ≤ ps.length := by
  have h := hr
  rw [scan_cons hp] at h
  have h2 := rec_one h
  have := (List.getElem?_eq_some_iff.1 hp).1
  rw [List.length_drop] at h2
  omega
theorem nums_mem {N : Nat} (O : JV) (acc : List (Nat × Bs)) : ((N : Int) ∈ (addJ O acc).nums) = (N ∈ acc.map Prod.fst) := by
  refine propext ⟨fun h => ?_, fun h => ?_⟩
  · obtain ⟨x, hx, e⟩ := List.mem_map.1 h
    have : x.1 = N := by omega
    exact List.mem_map.2 ⟨x, hx, this⟩
  · obtain ⟨x, hx, e⟩ := List.mem_map.1 h
    exact List.mem_map.2 ⟨x, hx, by rw [e]⟩
theorem part_okR (s : Bs) : PG (unpackB s) := by
  unfold PG unpackB
  split
  · rename_i h
    have := h.2
    unfold goodB at this
    simp only [Bool.and_eq_true, decide_eq_true_eq] at this
    exact ⟨this.2.2.2.1, this.2.2.1, by simp only [List.length_take]; omega⟩
  · exact ⟨by decide, by decide, by decide⟩
theorem infoRpartb : (Tryz.prog.info? 97).map (fun i => (i.zero, i.size, i.bytes)) = some (some (.agg #[.int .i64 0, .int .i64 0, .int .i64 0, .string ⟨#[]⟩, .bool false]), 5, 48) := by kernel_rfl
theorem cells_fiveR (w : World) (e : TypeId) (a b c d x : Value) : ∀ (j : Nat) (u : Value), [a, b, c, d, x][j]? = some u → (w.alloc (.cells #[a, b, c, d, x] e)).cell? ((⟨w.heap.size, 0, none⟩ : Addr).add j) = some u := by
  intro j u hj
  rw [add_at, Nat.zero_add, (Blk.new w e #[a, b, c, d, x]).cell j]
  simpa using hj
theorem own_weakR {w : World} {base : Nat} {e : TypeId} {s : Nat} {v : Value} {n : Nat} {xs : List Value} (h : w.ownsRow base e s v n xs) : w.ownsRow 0 e s v n xs := own_base h (Nat.zero_le _)
/-- Open's journal, no record in it yet, and the parts read so far -/
structure P1 (w : World) (r : Nat) (X : World) (A : Option Addr) (m c : Nat) (ps : List PartV) (vb : Value) (J : JV) : Prop where
  below : Below w.heap.size w X
  jat : RJAt X w.heap.size r (.slice none 0 0) (.slice none 0 0) vb J
  row : X.ownsRow w.heap.size 97 5 (.slice A m c) m (partCells ps)
  fb : frR w vb
section
variable {w X X' : World} {r m c : Nat} {A : Option Addr} {ps : List PartV} {vb : Value} {J : JV}
theorem P1.go (h : P1 w r X A m c ps vb J) (hb : Below X.heap.size X X') : P1 w r X' A m c ps vb J := ⟨h.below.trans (hb.mono h.below.size), h.jat.below hb, own_below h.row hb, h.fb⟩
theorem P1.nj (h : P1 w r X A m c ps vb J) {base e sz n : Nat} {v : Value} {xs : List Value} (ho : X.ownsRow base e sz v n xs) (he : e ≠ 57) : ∀ k, v.ownBlock = some k → k ∉ [w.heap.size] := fun k hk hm => row_neB h.jat.head ho he k hk (List.mem_singleton.1 hm)
theorem P1.set (h : P1 w r X A m c ps vb J) (i : Nat) (u : Value) {J' : JV} (hh : (#[.pointer (some ⟨r, 0, none⟩), .slice none 0 0, .slice none 0 0, vb, .int .i64 J.next, .int .i64 J.fin, .bool J.closed] : Array Value).setIfInBounds i u = #[.pointer (some ⟨r, 0, none⟩), .slice none 0 0, .slice none 0 0, vb, .int .i64 J'.next, .int .i64 J'.fin, .bool J'.closed])
    (e1 : J'.nums = J.nums) (e2 : J'.bad = J.bad) (e3 : J'.texts = J.texts) : P1 w r (X.setCell ⟨w.heap.size, i, none⟩ u) A m c ps vb J' := by
  have hk : Keep [w.heap.size] X (X.setCell ⟨w.heap.size, i, none⟩ u) := (Keep.refl _ _).setCell (a := ⟨w.heap.size, i, none⟩) (by simp) u
  exact ⟨h.below.trans (hk.below h.below.size (fun i hi => by rw [List.mem_singleton] at hi; omega)), h.jat.set_ i u hh e1 e2 e3, own_keepF h.row hk (h.nj h.row (by decide)), h.fb⟩
/-- one part more -/
theorem P1.part (h : P1 w r X A m c ps vb J) {w5 : World} (hX : Below X.heap.size X X') (hg : X'.grownBy w5 (Value.slice A m c).ownBlock) {A5 : Option Addr} {c5 : Nat} {p : PartV} (ho : w5.ownsRow w.heap.size 97 5 (.slice A5 (m + 1) c5) (m + 1) (partCells ps ++ (partRow p).toList)) :
    P1 w r w5 A5 (m + 1) c5 (ps ++ [p]) vb J ∧ Keep (obR (.slice A m c)) X w5 := by
  have hk : Keep (obR (.slice A m c)) X w5 := ⟨hg.os.trans hX.os, hg.tape.trans hX.tape, hg.output.trans hX.output, Nat.le_trans hX.size hg.size, fun i hi hF => (hg.block i (Nat.lt_of_lt_of_le hi hX.size) (fun e => hF (mem_obR.2 e.symm))).trans (hX.block i hi)⟩
  refine ⟨⟨h.below.trans (hk.below h.below.size fun i hi => (h.row.lt i (mem_obR.1 hi)).1), h.jat.keep hk (fun hm => row_neB h.jat.head h.row (by decide) _ (mem_obR.1 hm) rfl) (rows_neB h.jat.nums h.row (by decide)) (rows_neB h.jat.texts h.row (by decide)) (rows_neB h.jat.bad h.row (by decide)), ?_, h.fb⟩, hk⟩
  rw [partCells_snoc]
  exact ho
/-- one bad sector more -/
theorem P1.bad (h : P1 w r X A m c ps vb J) (hn : J.nums = []) (ht : J.texts = []) {w8 : World} {v8 : Value} {z : Int} (G : Grew X vb w8 v8) (o8 : w8.ownsRow 0 3 1 v8 (J.bad.length + 1) (intCells (J.bad ++ [z]))) :
    P1 w r (w8.setCell ⟨w.heap.size, 3, none⟩ v8) A m c ps v8 { J with bad := J.bad ++ [z] } := by
  have k8 : Keep (obR vb) X w8 := G.keep
  have hjn : w.heap.size ∉ obR vb := fun hm => row_neB h.jat.head h.jat.bad (by decide) _ (mem_obR.1 hm) rfl
  have H8 : Blk w8 w.heap.size 57 _ := (k8.block _ h.jat.head.lt hjn).trans h.jat.head
  have ks : Keep [w.heap.size] w8 (w8.setCell ⟨w.heap.size, 3, none⟩ v8) := (Keep.refl _ _).setCell (a := ⟨w.heap.size, 3, none⟩) (by simp) _
  have nj : ∀ (base e sz n : Nat) (v : Value) (xs : List Value), w8.ownsRow base e sz v n xs → e ≠ 57 → ∀ k, v.ownBlock = some k → k ∉ [w.heap.size] := fun base e sz n v xs ho he k hk hm => row_neB H8 ho he k hk (List.mem_singleton.1 hm)
  have r8 := own_keepF h.row k8 (rows_neB h.row h.jat.bad (by decide))
  have hb8 : Below w.heap.size w w8 := h.below.trans (k8.below h.below.size fun i hi => h.fb i (mem_obR.1 hi))
  refine ⟨hb8.trans (ks.below hb8.size (fun i hi => by rw [List.mem_singleton] at hi; omega)), ⟨H8.set_ 3 v8, ?_, ?_, ?_, fun k hk => by simp [Value.ownBlock] at hk⟩, own_keepF r8 ks (nj _ _ _ _ _ _ r8 (by decide)), h.fb.aged G.aged h.below.size⟩
  · rw [hn]; exact World.ownsRow_nil _ _ _ _
  · rw [ht]; exact World.ownsRow_nil _ _ _ _
  · rw [List.length_append, List.length_singleton]; exact own_keepF o8 ks (nj _ _ _ _ _ _ o8 (by decide))
end
/-- where the second loop stands -/
structure R2 (w : World) (r n : Nat) (O : JV) (ps : List PartV) (wr : World) (k : Nat) (A : Option Addr) (c : Nat) (acc : List (Nat × Bs)) (vn vt vb : Value) : Prop where
  below : Below w.heap.size w wr
  jat : RJAt wr w.heap.size r vn vt vb (addJ O acc)
  row : wr.ownsRow w.heap.size 97 5 (.slice A n c) n (partCells ps)
  found : foundL ps = (recL (ps.drop k)).foldl addR acc
  len : acc.length ≤ k
  fn : frR w vn
  ft : frR w vt
section
variable {w wr wr' : World} {r n : Nat} {O : JV} {ps : List PartV} {k : Nat} {A : Option Addr} {c : Nat} {acc : List (Nat × Bs)} {vn vt vb : Value}
theorem R2.go (h : R2 w r n O ps wr k A c acc vn vt vb) (hb : Below wr.heap.size wr wr') : R2 w r n O ps wr' k A c acc vn vt vb :=
  ⟨h.below.trans (hb.mono h.below.size), h.jat.below hb, own_below h.row hb, h.found, h.len, h.fn, h.ft⟩
theorem R2.skip (h : R2 w r n O ps wr k A c acc vn vt vb) {p : PartV} (hp : ps[k]? = some p) (hr : ¬ recOK (ps.drop k) = true) : R2 w r n O ps wr (k + 1) A c acc vn vt vb :=
  ⟨h.below, h.jat, h.row, by rw [h.found, scan_skip hp hr], by have := h.len; omega, h.fn, h.ft⟩
theorem R2.seen (h : R2 w r n O ps wr k A c acc vn vt vb) {p : PartV} (hp : ps[k]? = some p) (hr : recOK (ps.drop k) = true) (hm : p.number ∈ acc.map Prod.fst) : R2 w r n O ps wr (k + countN p.left) A c acc vn vt vb :=
  ⟨h.below, h.jat, h.row, by rw [h.found, scan_rec hp hr, List.foldl_cons, addR, if_pos hm], by have := h.len; omega, h.fn, h.ft⟩
theorem R2.add (h : R2 w r n O ps wr k A c acc vn vt vb) {p : PartV} (hp : ps[k]? = some p) (hr : recOK (ps.drop k) = true) (hm : p.number ∉ acc.map Prod.fst) {T : Bs} (hT : T = recT (ps.drop k) (countN p.left)) {vn' vt' : Value}
    (hb : Below w.heap.size w wr') (hj : RJAt wr' w.heap.size r vn' vt' vb { addJ O acc with nums := (addJ O acc).nums ++ [(p.number : Int)], texts := (addJ O acc).texts ++ [T] }) (ho : wr'.ownsRow w.heap.size 97 5 (.slice A n c) n (partCells ps)) (f1 : frR w vn') (f2 : frR w vt') :
    R2 w r n O ps wr' (k + countN p.left) A c (acc ++ [(p.number, T)]) vn' vt' vb := by
  refine ⟨hb, ?_, ho, ?_, ?_, f1, f2⟩
  · simpa [addJ] using hj
  · rw [h.found, scan_rec hp hr, List.foldl_cons, addR, if_neg hm, hT]
  · rw [List.length_append, List.length_singleton]; have := h.len; have := (scan_le hp hr).1; omega
end
theorem cell_goR {w w' : World} {a : Addr} {v : Value} (hb : Below w.heap.size w w') (hl : a.block < w.heap.size) (h : w.cell? a = some v) : w'.cell? a = some v := (hb.cell (p := a) hl).trans h
theorem far_goR {w0 w w' : World} (hb : Below w.heap.size w w') (h : Hid (Below w0.heap.size w0 w)) : Hid (Below w0.heap.size w0 w') := Lib.hid (below_go h.out hb)
section
variable {w wn w8 w9 : World} {r n gs : Nat} {O : JV} {ps : List PartV} {k : Nat} {A : Option Addr} {c : Nat} {acc : List (Nat × Bs)} {vn vt vb v8 v9 : Value} {Td : RSt}
theorem R2.done (h : R2 w r n O ps wn k A c acc vn vt vb) (hd : RefAt wn r gs Td) {p : PartV} (hp : ps[k]? = some p) (hr : recOK (ps.drop k) = true) (hm : p.number ∉ acc.map Prod.fst) {T : Bs} (hT : T = recT (ps.drop k) (countN p.left))
    (G8 : Grew wn vn w8 v8) (o8 : w8.ownsRow 0 3 1 v8 ((addJ O acc).nums.length + 1) (intCells ((addJ O acc).nums ++ [(p.number : Int)])))
    (G9 : Grew (w8.setCell ⟨w.heap.size, 1, none⟩ v8) vt w9 v9) (o9 : w9.ownsRow 0 9 1 v9 ((addJ O acc).texts.length + 1) (strCells ((addJ O acc).texts ++ [T]))) :
    R2 w r n O ps (w9.setCell ⟨w.heap.size, 2, none⟩ v9) (k + countN p.left) A c (acc ++ [(p.number, T)]) v8 v9 vb := by
  obtain ⟨m1, m2, m3⟩ := rj_nums h.jat hd (p.number : Int) G8 o8
  obtain ⟨n1, n2, n3⟩ := rj_texts m1 m2 T G9 o9
  have K : Keep (w.heap.size :: (obR vn ++ obR vt)) wn (w9.setCell ⟨w.heap.size, 2, none⟩ v9) := (m3.more (fun q hq => by
    rcases List.mem_cons.1 hq with rfl | hq
    · exact List.mem_cons_self ..
    · exact List.mem_cons_of_mem _ (List.mem_append_left _ hq))).trans (n3.more (fun q hq => by
    rcases List.mem_cons.1 hq with rfl | hq
    · exact List.mem_cons_self ..
    · exact List.mem_cons_of_mem _ (List.mem_append_right _ hq)))
  refine h.add hp hr hm hT (h.below.trans (K.below h.below.size fun i hi => ?_)) n1 (own_keepF h.row K fun i hi hm => ?_) (h.fn.aged G8.aged h.below.size) (h.ft.aged G9.aged (Nat.le_trans h.below.size m3.size))
  · rcases List.mem_cons.1 hi with rfl | hi
    · exact Nat.le_refl _
    · rcases List.mem_append.1 hi with hi | hi
      · exact h.fn i (mem_obR.1 hi)
      · exact h.ft i (mem_obR.1 hi)
  · rcases List.mem_cons.1 hm with rfl | hm
    · exact row_neB h.jat.head h.row (by decide) _ hi rfl
    · rcases List.mem_append.1 hm with hm | hm
      · exact rows_neB h.row h.jat.nums (by decide) i hi hm
      · exact rows_neB h.row h.jat.texts (by decide) i hi hm
end
theorem nextR_blank {o : OV} {b : Bs} {M : Nat} (hb : blankB b = true) (hM : (unpackB b).number = M) (z : Int) (hz : z = ((max o.next (M + 1) : Nat) : Int)) : { ovJ o with next := z } = ovJ (oStep o b) := by
  simp [ovJ, oStep, hb, hM, hz]
theorem nextR_good {o : OV} {b : Bs} {M k : Nat} (hk : o.k = k) (hb : blankB b = false) (ho : (unpackB b).ok = true) (hM : (unpackB b).number = M) (z : Int) (hz : z = ((max o.next (M + 1) : Nat) : Int)) : { ovJ o with fin := (k : Int) + 1, next := z } = ovJ (oStep o b) := by
  simp [ovJ, oStep, hb, hM, hz, ho, hk]
theorem nextR_bad {o : OV} {b : Bs} {M k : Nat} (hk : o.k = k) (hb : blankB b = false) (ho : (unpackB b).ok = false) (hM : (unpackB b).number = M) (z : Int) (hz : z = ((max o.next (M + 1) : Nat) : Int)) : { ovJ o with fin := (k : Int) + 1, bad := (ovJ o).bad ++ [(k : Int)], next := z } = ovJ (oStep o b) := by
  simp [ovJ, oStep, hb, hM, hz, ho, hk]

set_option maxHeartbeats 16000000 in
set_option maxRecDepth 100000 in
theorem ropen_any (w : World) (r gs : Nat) (T : RSt) (hd : RefAt w r gs T) (hk : RConsts w) :
    Calls Tryz.prog 22 #[.pointer (some ⟨r, 0, none⟩)] w (ROpenPost w r T) := by
  have HK := Lib.hid hk
  have HD := Lib.hid hd
  obtain ⟨n, hn⟩ : ∃ n, n = T.s.length := ⟨_, rfl⟩
  have HN := Lib.hid hn
  have n1 : 1 ≤ n := by rw [hn]; exact hd.n1
  have n2 : n ≤ 4096 := by rw [hn]; exact hd.n2
  have HL := Lib.hid (fun W hb => rlen_any W r gs T (ref_go hd (w' := W) hb))
  rw [← hn] at HL
  obtain ⟨hz, hsz⟩ := zero_of_info infoPart
  cases ho : T.off with
  | true =>
    have RD := Lib.hid (fun W hb => Dk.rread_any W r gs T (ref_go hd (w' := W) hb) 0)
    obtain ⟨tt, htt⟩ : ∃ tt : ByteArray, tt = ⟨(rReadB T (0 : Int)).toArray⟩ := ⟨_, rfl⟩
    rw [Dk.StrErr, readE_off ho, ← htt] at RD
    have HO := Lib.hid ho
    clear hk hd hn ho htt
    go_enter Tryz.func22, Tryz.ntmps22
    go_wp2_with fail
    obtain ⟨w0, hw0⟩ : ∃ w0, w0 = w.alloc (.cells #[.pointer (some ⟨r, 0, none⟩), .slice none 0 0, .slice none 0 0, .slice none 0 0, .int .i64 1, .int .i64 0, .bool false] 57) := ⟨_, rfl⟩
    have B0 := Lib.hid (show Below w.heap.size w w0 by rw [hw0]; exact below_new _ _)
    rw [← hw0]
    clear hw0
    go_loopw [5, 6] (fun l x wr => x = .int .i64 0 ∧ l = .slice none 0 0 ∧ Hid (Below w.heap.size w wr)) (fun _ _ _ => 0)
    case atStart => exact ⟨rfl, rfl, B0⟩
    case round =>
      obtain ⟨rfl, rfl, H⟩ := hrel
      have j1 : (0 : Int) < (n : Int) := by omega
      go_wp2_with fail
      refine (HL.out _ H.out).mono ?_
      rintro e w' ⟨rfl, rfl⟩
      go_wp2_with fail
      refine (RD.out _ H.out).mono ?_
      rintro e w' ⟨rfl, rfl⟩
      go_wp2_with fail
      go_ret2
      exact ⟨H.out, .inl ⟨HO.out, rfl⟩⟩
  | false =>
    have HO := Lib.hid ho
    clear hk hd hn ho
    obtain ⟨w0, hw0⟩ : ∃ w0, w0 = w.alloc (.cells #[.pointer (some ⟨r, 0, none⟩), .slice none 0 0, .slice none 0 0, .slice none 0 0, .int .i64 1, .int .i64 0, .bool false] 57) := ⟨_, rfl⟩
    have P0 := Lib.hid (show P1 w r w0 none 0 0 [] (.slice none 0 0) (ovJ (oFold [])) by
      refine ⟨by rw [hw0]; exact below_new _ _, ⟨by rw [hw0]; exact Blk.new w _ _, World.ownsRow_nil _ _ _ _, World.ownsRow_nil _ _ _ _, World.ownsRow_nil _ _ _ _, fun k hk => by simp [Value.ownBlock] at hk⟩, World.ownsRow_nil _ _ _ _, frR.nil w⟩)
    go_enter Tryz.func22, Tryz.ntmps22
    go_wp2_with fail
    rw [← hw0]
    clear hw0
    go_loopw [5, 6] (fun l x wr => ∃ (k : Nat) (A : Option Addr) (c : Nat) (vb : Value), k ≤ n ∧ x = .int .i64 k ∧ l = .slice A k c ∧ Hid (P1 w r wr A k c (((secsT T).take k).map unpackB) vb (ovJ (oFold ((secsT T).take k))))) (fun _ x _ => n - (intOf x).toNat)
    case atStart => exact ⟨0, none, 0, .slice none 0 0, by omega, rfl, rfl, P0⟩
    case round =>
      obtain ⟨k, A, c, vb, hk, rfl, rfl, H⟩ := hrel
      by_cases hlt : k < n
      · have j1 : (k : Int) < (n : Int) := by omega
        have j0 : (0 : Int) ≤ (k : Int) := by omega
        obtain ⟨b, hb⟩ : ∃ b, b = rReadB T (k : Int) := ⟨_, rfl⟩
        obtain ⟨s, hs⟩ : ∃ s : ByteArray, s = ⟨b.toArray⟩ := ⟨_, rfl⟩
        have RD := Lib.hid (fun W hw => Dk.rread_any W r gs T (ref_go HD.out (w' := W) hw) (k : Int))
        rw [readE_on HO.out (by have := HN.out; omega), ← hb, show Dk.StrErr b 0 = .tuple #[.string s, .int .i64 0] by rw [hs]; rfl] at RD
        have L64 := Lib.hid (show b.length = 64 by rw [hb]; exact read64 HD.out HO.out (by have := HN.out; omega))
        have HBS := Lib.hid (show s.data.toList = b by rw [hs])
        have HTK := Lib.hid (show (secsT T).take (k + 1) = (secsT T).take k ++ [b] by rw [hb]; exact rsecs_take T (by have := HN.out; omega))
        have HOK := Lib.hid (show (oFold ((secsT T).take k)).k = k from oFold_at (by rw [rsecs_len]; have := HN.out; omega))
        have HBLE := Lib.hid (ovbad_le ((secsT T).take k) (by rw [List.length_take, rsecs_len]; have := HN.out; omega))
        obtain ⟨o, hoo⟩ : ∃ o, o = oFold ((secsT T).take k) := ⟨_, rfl⟩
        have HOO := Lib.hid (show oFold ((secsT T).take (k + 1)) = oStep o b by rw [HTK.out, oFold_snoc, hoo])
        rw [← hoo] at H HOK HBLE
        clear hb hs hoo
        go_wp2_with fail
        refine (HL.out _ H.out.below).mono ?_
        rintro e w' ⟨rfl, rfl⟩
        go_wp2_with fail
        refine (RD.out _ H.out.below).mono ?_
        rintro e w' ⟨rfl, rfl⟩
        have HUN := Lib.hid (runpack_any s wr (HK.out.below H.out.below))
        obtain ⟨p, hp⟩ : ∃ p, p = unpackB s.data.toList := ⟨_, rfl⟩
        have HPU := Lib.hid (show unpackB b = p by rw [hp, HBS.out])
        rw [← hp, partRow] at HUN
        obtain ⟨M, hM⟩ : ∃ N, N = p.number := ⟨_, rfl⟩
        obtain ⟨P, hP⟩ : ∃ N, N = p.part := ⟨_, rfl⟩
        obtain ⟨l, hl⟩ : ∃ N, N = p.left := ⟨_, rfl⟩
        obtain ⟨y2, hy2⟩ : ∃ y : ByteArray, y = ⟨p.payload.toArray⟩ := ⟨_, rfl⟩
        obtain ⟨o2, ho2⟩ : ∃ N, N = p.ok := ⟨_, rfl⟩
        rw [← hM, ← hP, ← hl, show str p.payload = .string y2 by rw [hy2], ← ho2] at HUN
        have HROW := Lib.hid (show (partRow p).toList = [.int .i64 M, .int .i64 P, .int .i64 l, .string y2, .bool o2] by rw [partRow, hM, hP, hl, hy2, ho2])
        have HM := Lib.hid (show (unpackB b).number = M by rw [HPU.out, hM])
        have HO2 := Lib.hid (show (unpackB b).ok = o2 by rw [HPU.out, ho2])
        have hM2 : M ≤ 4096 := by rw [← HM.out]; exact (part_le b).2.1
        clear hp hM hP hl hy2 ho2
        go_wp2_with fail
        refine HUN.out.mono ?_
        rintro e w3 ⟨rfl, b3⟩
        have H3 := Lib.hid (H.out.go b3)
        have Q4 := Lib.hid (Blk.new w3 97 #[.int .i64 M, .int .i64 P, .int .i64 l, .string y2, .bool o2])
        obtain ⟨k0, k1, k2, k3, k4⟩ : (w3.alloc (.cells #[.int .i64 M, .int .i64 P, .int .i64 l, .string y2, .bool o2] 97)).cell? ⟨w3.heap.size, 0, none⟩ = some (.int .i64 M) ∧ (w3.alloc (.cells #[.int .i64 M, .int .i64 P, .int .i64 l, .string y2, .bool o2] 97)).cell? ⟨w3.heap.size, 1, none⟩ = some (.int .i64 P) ∧ (w3.alloc (.cells #[.int .i64 M, .int .i64 P, .int .i64 l, .string y2, .bool o2] 97)).cell? ⟨w3.heap.size, 2, none⟩ = some (.int .i64 l) ∧ (w3.alloc (.cells #[.int .i64 M, .int .i64 P, .int .i64 l, .string y2, .bool o2] 97)).cell? ⟨w3.heap.size, 3, none⟩ = some (.string y2) ∧ (w3.alloc (.cells #[.int .i64 M, .int .i64 P, .int .i64 l, .string y2, .bool o2] 97)).cell? ⟨w3.heap.size, 4, none⟩ = some (.bool o2) := ⟨Q4.out.cell 0, Q4.out.cell 1, Q4.out.cell 2, Q4.out.cell 3, Q4.out.cell 4⟩
        obtain ⟨i0, hi, hz0, hz1, hz2⟩ := info_parts infoRpartb
        have hbel2 : Below w3.heap.size w3 ((w3.alloc (.cells #[.int .i64 M, .int .i64 P, .int .i64 l, .string y2, .bool o2] 97)).alloc (.cells #[.int .i64 M, .int .i64 P, .int .i64 l, .string y2, .bool o2] 97)) := (below_new w3 _).alloc (by simp) _
        have HOW := Lib.hid (own_below H3.out.row hbel2)
        have HB2 := Lib.hid hbel2
        have HNE := Lib.hid (show ∀ (j : Nat) (u : Value), [Value.int .i64 M, .int .i64 P, .int .i64 l, .string y2, .bool o2][j]? = some u → ((w3.alloc (.cells #[.int .i64 M, .int .i64 P, .int .i64 l, .string y2, .bool o2] 97)).alloc (.cells #[.int .i64 M, .int .i64 P, .int .i64 l, .string y2, .bool o2] 97)).cell? ((⟨w3.heap.size + 1, 0, none⟩ : Addr).add j) = some u from (by
          have := cells_fiveR (w3.alloc (.cells #[.int .i64 M, .int .i64 P, .int .i64 l, .string y2, .bool o2] 97)) 97 (.int .i64 M) (.int .i64 P) (.int .i64 l) (.string y2) (.bool o2)
          rw [World.size_alloc] at this
          exact this))
        have HBA := Lib.hid (show w.heap.size ≤ ((w3.alloc (.cells #[.int .i64 M, .int .i64 P, .int .i64 l, .string y2, .bool o2] 97)).alloc (.cells #[.int .i64 M, .int .i64 P, .int .i64 l, .string y2, .bool o2] 97)).heap.size by rw [World.size_alloc, World.size_alloc]; have := H3.out.below.size; omega)
        clear b3 hbel2
        go_wp2_with (at_builtin; refine Classical.byContradiction fun hgoal => ?_)
        refine hgoal ?_
        refine (wpList_append_own _ rfl _ _ 105 rfl w.heap.size 97 i0 _ 5 48 Tryz.underlying105 hi hz0 hz1 hz2 rfl (by decide) _ k _ rfl HOW.out _ 1 1 [.int .i64 M, .int .i64 P, .int .i64 l, .string y2, .bool o2] rfl rfl HNE.out (by simp [Value.oneCell']) (by unfold maxLen; omega) (by omega) HBA.out ?_)
        intro v2 w5 hown2 hgrow _
        obtain ⟨A5, c5, rfl, -⟩ := own_slice hown2
        have HG5 := Lib.hid (H3.out.part HB2.out hgrow (p := p) (by rw [HROW.out]; exact hown2))
        have H5 := Lib.hid (show P1 w r w5 A5 (k + 1) c5 (((secsT T).take (k + 1)).map unpackB) vb (ovJ o) by rw [HTK.out, List.map_append, List.map_cons, List.map_nil, HPU.out]; exact HG5.out.1)
        have HQ5 := Lib.hid (show Blk w5 w3.heap.size 97 #[.int .i64 M, .int .i64 P, .int .i64 l, .string y2, .bool o2] from
          (hgrow.block w3.heap.size (by rw [World.size_alloc, World.size_alloc]; omega) (fun e => by
            have h1 := (H3.out.row.lt w3.heap.size e.symm).2
            omega)).trans (Q4.out.below (below_new _ _) Q4.out.lt))
        clear hown2 hgrow HOW HNE HBA k0 k1 k2 k3 k4 hgoal HUN
        go_wp2_with fail
        refine (blank_any s w5 (by rw [← list_size, HBS.out, L64.out])).mono ?_
        rintro e w6 ⟨rfl, b6⟩
        have H6 := Lib.hid (H5.out.go b6)
        have Q6 := Lib.hid (HQ5.out.below b6 HQ5.out.lt)
        rw [HBS.out]
        obtain ⟨bl, hbl⟩ : ∃ bl, bl = blankB b := ⟨_, rfl⟩
        rw [← hbl]
        have HBLK := Lib.hid hbl.symm
        clear b6 hbl HG5 HB2
        have m1 := H6.out.jat.cells
        obtain ⟨-, m1, m2, m3, m4, m5, m6⟩ := m1
        have r3 := H6.out.jat.head.frozen 3
        have r4 := H6.out.jat.head.frozen 4
        have r5 := H6.out.jat.head.frozen 5
        have q0 : w6.cell? ⟨w3.heap.size, 0, none⟩ = some (.int .i64 M) := Q6.out.cell 0
        have q4 : w6.cell? ⟨w3.heap.size, 4, none⟩ = some (.bool o2) := Q6.out.cell 4
        cases bl
        · have X0 := Lib.hid (H6.out.set 5 (.int .i64 ((k : Int) + 1)) (J' := { ovJ o with fin := (k : Int) + 1 }) rfl rfl rfl rfl)
          have Q8 := Lib.hid (show Blk (w6.setCell ⟨w.heap.size, 5, none⟩ (.int .i64 ((k : Int) + 1))) w3.heap.size 97 _ from (Below.heap_setCell _ _ _ _ (blk_neB Q6.out H6.out.jat.head (by decide))).trans Q6.out)
          have q4' : (w6.setCell ⟨w.heap.size, 5, none⟩ (.int .i64 ((k : Int) + 1))).cell? ⟨w3.heap.size, 4, none⟩ = some (.bool o2) := Q8.out.cell 4
          cases o2
          · have x3 := X0.out.jat.cells.2.2.2.1
            obtain ⟨nb, hnb⟩ : ∃ nb, nb = (ovJ o).bad.length := ⟨_, rfl⟩
            obtain ⟨Ab, cb, rfl, -⟩ := own_slice H6.out.jat.bad
            have nI : ((w6.setCell ⟨w.heap.size, 5, none⟩ (.int .i64 ((k : Int) + 1))).alloc (.cells #[.int .i64 (k : Int)] 3)).cell? ⟨w6.heap.size, 0, none⟩ = some (.int .i64 (k : Int)) := by
              have h := (Blk.new (w6.setCell ⟨w.heap.size, 5, none⟩ (.int .i64 ((k : Int) + 1))) 3 #[.int .i64 (k : Int)]).cell 0
              rw [show (w6.setCell ⟨w.heap.size, 5, none⟩ (.int .i64 ((k : Int) + 1))).heap.size = w6.heap.size by simp [World.setCell]] at h
              exact h
            have NI := Lib.hid nI
            clear nI
            go_wp2_with (at_builtin; refine list_appI rfl _ _ rfl rfl _ (ovJ o).bad.length (ovJ o).bad rfl (X0.out.jat.bad.alloc _) (k : Int) w6.heap.size rfl NI.out (by have := HBLE.out; omega) ?_)
            intro A8 c8 w8 o8 g8 h8
            have G8 := Lib.hid (grew (w := w6.setCell ⟨w.heap.size, 5, none⟩ (.int .i64 ((k : Int) + 1))) (below_new _ (.cells #[.int .i64 (k : Int)] 3)) g8 (by rw [World.size_alloc, show (w6.setCell ⟨w.heap.size, 5, none⟩ (.int .i64 ((k : Int) + 1))).heap.size = w6.heap.size by simp [World.setCell]]; exact h8))
            have X1 := Lib.hid (X0.out.bad rfl rfl G8.out o8)
            have E8 : Blk w8 w.heap.size 57 _ := (G8.out.keep.block _ X0.out.jat.head.lt (fun hm => row_neB X0.out.jat.head X0.out.jat.bad (by decide) _ (mem_ob.1 hm) rfl)).trans X0.out.jat.head
            have e3 := E8.cell 3
            have f3 := E8.frozen 3
            simp only [List.getElem?_toArray, List.getElem?_cons_zero, List.getElem?_cons_succ] at e3
            have Q9 := Lib.hid (show Blk w8 w3.heap.size 97 _ from (G8.out.keep.block _ Q8.out.lt (fun hm => row_neB Q8.out X0.out.jat.bad (by decide) _ (mem_ob.1 hm) rfl)).trans Q8.out)
            have Q10 := Lib.hid (show Blk (w8.setCell ⟨w.heap.size, 3, none⟩ (.slice A8 ((ovJ o).bad.length + 1) c8)) w3.heap.size 97 _ from (Below.heap_setCell _ _ _ _ (blk_neB Q9.out E8 (by decide))).trans Q9.out)
            have p4 := X1.out.jat.cells.2.2.2.2.1
            have p0 : (w8.setCell ⟨w.heap.size, 3, none⟩ (.slice A8 ((ovJ o).bad.length + 1) c8)).cell? ⟨w3.heap.size, 0, none⟩ = some (.int .i64 M) := Q10.out.cell 0
            clear o8 g8 h8 E8 hnb
            go_wp2_with fail
            go_quiet (fail)
            have H7 := Lib.hid (X1.out.go (below_drewN' (Below.refl _ (w8.setCell ⟨w.heap.size, 3, none⟩ (.slice A8 ((ovJ o).bad.length + 1) c8))) nq))
            have Q7 := Lib.hid (show Blk ((w8.setCell ⟨w.heap.size, 3, none⟩ (.slice A8 ((ovJ o).bad.length + 1) c8)).drewN nq) w3.heap.size 97 _ from Q10.out)
            generalize (w8.setCell ⟨w.heap.size, 3, none⟩ (.slice A8 ((ovJ o).bad.length + 1) c8)).drewN nq = w7 at *
            have n0 : w7.cell? ⟨w3.heap.size, 0, none⟩ = some (.int .i64 M) := Q7.out.cell 0
            have n4 := H7.out.jat.head.frozen 4
            have n5 := H7.out.jat.cells.2.2.2.2.1
            by_cases hMN : o.next ≤ M
            · have hz0 : ((max o.next (M + 1) : Nat) : Int) = (M : Int) + 1 := by omega
              have d1 : ((ovJ o).next : Int) ≤ (M : Int) := by show (o.next : Int) ≤ _; omega
              have H8 := Lib.hid (H7.out.set 4 (.int .i64 ((M : Int) + 1)) (J' := { { ovJ o with fin := (k : Int) + 1, bad := (ovJ o).bad ++ [(k : Int)] } with next := (M : Int) + 1 }) rfl rfl rfl rfl)
              have HJE := Lib.hid (show { { ovJ o with fin := (k : Int) + 1, bad := (ovJ o).bad ++ [(k : Int)] } with next := (M : Int) + 1 } = ovJ (oStep o b) from nextR_bad HOK.out HBLK.out HO2.out HM.out _ hz0.symm)
              clear hz0 hMN
              go_wp2_with fail
              go_roundw
              case rel => exact ⟨k + 1, A5, c5, .slice A8 ((ovJ o).bad.length + 1) c8, by omega, by go_num, rfl, Lib.hid (by rw [HOO.out, ← HJE.out]; exact H8.out)⟩
              case measure => simp [intOf]; omega
            · have hz0 : ((max o.next (M + 1) : Nat) : Int) = (ovJ o).next := by show _ = (o.next : Int); omega
              have d1 : ¬ ((ovJ o).next : Int) ≤ (M : Int) := by show ¬ (o.next : Int) ≤ _; omega
              have HJE := Lib.hid (show { { ovJ o with fin := (k : Int) + 1, bad := (ovJ o).bad ++ [(k : Int)] } with next := (ovJ o).next } = ovJ (oStep o b) from nextR_bad HOK.out HBLK.out HO2.out HM.out _ hz0.symm)
              clear hz0 hMN
              go_wp2_with fail
              go_roundw
              case rel => exact ⟨k + 1, A5, c5, .slice A8 ((ovJ o).bad.length + 1) c8, by omega, by go_num, rfl, Lib.hid (by rw [HOO.out, ← HJE.out]; exact H7.out)⟩
              case measure => simp [intOf]; omega
          · have p4 := X0.out.jat.cells.2.2.2.2.1
            have p0 : (w6.setCell ⟨w.heap.size, 5, none⟩ (.int .i64 ((k : Int) + 1))).cell? ⟨w3.heap.size, 0, none⟩ = some (.int .i64 M) := Q8.out.cell 0
            go_wp2_with fail
            go_quiet (fail)
            have H7 := Lib.hid (X0.out.go (below_drewN' (Below.refl _ (w6.setCell ⟨w.heap.size, 5, none⟩ (.int .i64 ((k : Int) + 1)))) nq))
            have Q7 := Lib.hid (show Blk ((w6.setCell ⟨w.heap.size, 5, none⟩ (.int .i64 ((k : Int) + 1))).drewN nq) w3.heap.size 97 _ from Q8.out)
            generalize (w6.setCell ⟨w.heap.size, 5, none⟩ (.int .i64 ((k : Int) + 1))).drewN nq = w7 at *
            have n0 : w7.cell? ⟨w3.heap.size, 0, none⟩ = some (.int .i64 M) := Q7.out.cell 0
            have n4 := H7.out.jat.head.frozen 4
            have n5 := H7.out.jat.cells.2.2.2.2.1
            by_cases hMN : o.next ≤ M
            · have hz0 : ((max o.next (M + 1) : Nat) : Int) = (M : Int) + 1 := by omega
              have d1 : ((ovJ o).next : Int) ≤ (M : Int) := by show (o.next : Int) ≤ _; omega
              have H8 := Lib.hid (H7.out.set 4 (.int .i64 ((M : Int) + 1)) (J' := { { ovJ o with fin := (k : Int) + 1 } with next := (M : Int) + 1 }) rfl rfl rfl rfl)
              have HJE := Lib.hid (show { { ovJ o with fin := (k : Int) + 1 } with next := (M : Int) + 1 } = ovJ (oStep o b) from nextR_good HOK.out HBLK.out HO2.out HM.out _ hz0.symm)
              clear hz0 hMN
              go_wp2_with fail
              go_roundw
              case rel => exact ⟨k + 1, A5, c5, vb, by omega, by go_num, rfl, Lib.hid (by rw [HOO.out, ← HJE.out]; exact H8.out)⟩
              case measure => simp [intOf]; omega
            · have hz0 : ((max o.next (M + 1) : Nat) : Int) = (ovJ o).next := by show _ = (o.next : Int); omega
              have d1 : ¬ ((ovJ o).next : Int) ≤ (M : Int) := by show ¬ (o.next : Int) ≤ _; omega
              have HJE := Lib.hid (show { { ovJ o with fin := (k : Int) + 1 } with next := (ovJ o).next } = ovJ (oStep o b) from nextR_good HOK.out HBLK.out HO2.out HM.out _ hz0.symm)
              clear hz0 hMN
              go_wp2_with fail
              go_roundw
              case rel => exact ⟨k + 1, A5, c5, vb, by omega, by go_num, rfl, Lib.hid (by rw [HOO.out, ← HJE.out]; exact H7.out)⟩
              case measure => simp [intOf]; omega
        · cases o2
          · skip
            go_wp2_with fail
            go_quiet (fail)
            have H7 := Lib.hid (H6.out.go (below_drewN' (Below.refl _ w6) nq))
            have Q7 := Lib.hid (show Blk (w6.drewN nq) w3.heap.size 97 _ from Q6.out)
            generalize w6.drewN nq = w7 at *
            have n0 : w7.cell? ⟨w3.heap.size, 0, none⟩ = some (.int .i64 M) := Q7.out.cell 0
            have n4 := H7.out.jat.head.frozen 4
            have n5 := H7.out.jat.cells.2.2.2.2.1
            by_cases hMN : o.next ≤ M
            · have hz0 : ((max o.next (M + 1) : Nat) : Int) = (M : Int) + 1 := by omega
              have d1 : ((ovJ o).next : Int) ≤ (M : Int) := by show (o.next : Int) ≤ _; omega
              have H8 := Lib.hid (H7.out.set 4 (.int .i64 ((M : Int) + 1)) (J' := { ovJ o with next := (M : Int) + 1 }) rfl rfl rfl rfl)
              have HJE := Lib.hid (show { ovJ o with next := (M : Int) + 1 } = ovJ (oStep o b) from nextR_blank HBLK.out HM.out _ hz0.symm)
              clear hz0 hMN
              go_wp2_with fail
              go_roundw
              case rel => exact ⟨k + 1, A5, c5, vb, by omega, by go_num, rfl, Lib.hid (by rw [HOO.out, ← HJE.out]; exact H8.out)⟩
              case measure => simp [intOf]; omega
            · have hz0 : ((max o.next (M + 1) : Nat) : Int) = (ovJ o).next := by show _ = (o.next : Int); omega
              have d1 : ¬ ((ovJ o).next : Int) ≤ (M : Int) := by show ¬ (o.next : Int) ≤ _; omega
              have HJE := Lib.hid (show { ovJ o with next := (ovJ o).next } = ovJ (oStep o b) from nextR_blank HBLK.out HM.out _ hz0.symm)
              clear hz0 hMN
              go_wp2_with fail
              go_roundw
              case rel => exact ⟨k + 1, A5, c5, vb, by omega, by go_num, rfl, Lib.hid (by rw [HOO.out, ← HJE.out]; exact H7.out)⟩
              case measure => simp [intOf]; omega
          · skip
            go_wp2_with fail
            go_quiet (fail)
            have H7 := Lib.hid (H6.out.go (below_drewN' (Below.refl _ w6) nq))
            have Q7 := Lib.hid (show Blk (w6.drewN nq) w3.heap.size 97 _ from Q6.out)
            generalize w6.drewN nq = w7 at *
            have n0 : w7.cell? ⟨w3.heap.size, 0, none⟩ = some (.int .i64 M) := Q7.out.cell 0
            have n4 := H7.out.jat.head.frozen 4
            have n5 := H7.out.jat.cells.2.2.2.2.1
            by_cases hMN : o.next ≤ M
            · have hz0 : ((max o.next (M + 1) : Nat) : Int) = (M : Int) + 1 := by omega
              have d1 : ((ovJ o).next : Int) ≤ (M : Int) := by show (o.next : Int) ≤ _; omega
              have H8 := Lib.hid (H7.out.set 4 (.int .i64 ((M : Int) + 1)) (J' := { ovJ o with next := (M : Int) + 1 }) rfl rfl rfl rfl)
              have HJE := Lib.hid (show { ovJ o with next := (M : Int) + 1 } = ovJ (oStep o b) from nextR_blank HBLK.out HM.out _ hz0.symm)
              clear hz0 hMN
              go_wp2_with fail
              go_roundw
              case rel => exact ⟨k + 1, A5, c5, vb, by omega, by go_num, rfl, Lib.hid (by rw [HOO.out, ← HJE.out]; exact H8.out)⟩
              case measure => simp [intOf]; omega
            · have hz0 : ((max o.next (M + 1) : Nat) : Int) = (ovJ o).next := by show _ = (o.next : Int); omega
              have d1 : ¬ ((ovJ o).next : Int) ≤ (M : Int) := by show ¬ (o.next : Int) ≤ _; omega
              have HJE := Lib.hid (show { ovJ o with next := (ovJ o).next } = ovJ (oStep o b) from nextR_blank HBLK.out HM.out _ hz0.symm)
              clear hz0 hMN
              go_wp2_with fail
              go_roundw
              case rel => exact ⟨k + 1, A5, c5, vb, by omega, by go_num, rfl, Lib.hid (by rw [HOO.out, ← HJE.out]; exact H7.out)⟩
              case measure => simp [intOf]; omega
      · obtain rfl : k = n := by omega
        have HALL := Lib.hid (show (secsT T).take k = secsT T from List.take_of_length_le (by rw [rsecs_len]; have := HN.out; omega))
        obtain ⟨O, hO⟩ : ∃ O, O = ovJ (oFold (secsT T)) := ⟨_, rfl⟩
        obtain ⟨ps, hps⟩ : ∃ ps, ps = (secsT T).map unpackB := ⟨_, rfl⟩
        have HOJ := Lib.hid hO
        have HPS := Lib.hid hps
        have HPL := Lib.hid (show ps.length = k by rw [hps, List.length_map, rsecs_len]; exact HN.out.symm)
        have HPG := Lib.hid (show ∀ p ∈ ps, PG p by
          rw [hps]
          intro p hp
          obtain ⟨s, _, rfl⟩ := List.mem_map.1 hp
          exact part_okR s)
        have HFB := Lib.hid H.out.fb
        have HR1 := Lib.hid (show wr.ownsRow w.heap.size 97 5 (.slice A k c) k (partCells ps) by rw [hps, ← HALL.out]; exact H.out.row)
        have H2 := Lib.hid (show R2 w r k O ps wr 0 A c [] (.slice none 0 0) (.slice none 0 0) vb from ⟨H.out.below, by rw [hO, ← HALL.out]; exact H.out.jat, HR1.out, by rw [List.drop_zero]; rfl, Nat.le_refl _, frR.nil w, frR.nil w⟩)
        obtain ⟨bA, oA, rfl, -⟩ := (Rd.of_own HR1.out).2 (by omega)
        clear H hO hps HALL HR1
        go_wp2_with fail
        refine (HL.out _ H2.out.below).mono ?_
        rintro e w' ⟨rfl, rfl⟩
        go_wp2_with fail
        go_loopw [11] (fun x wr => ∃ (i : Nat) (acc : List (Nat × Bs)) (vn vt : Value), i ≤ k ∧ x = .int .i64 i ∧ Hid (R2 w r k O ps wr i (some ⟨bA, oA, none⟩) c acc vn vt vb)) (fun x _ => k - (intOf x).toNat)
        case atStart => exact ⟨0, [], _, _, by omega, rfl, H2⟩
        case round =>
          obtain ⟨i, acc, vn, vt, hi, rfl, H⟩ := hrel
          by_cases hlt : i < k
          · obtain ⟨_, _, p, e1, hbA, hp, x0, x1, x2, x3, x4⟩ := rd_part (Rd.of_own H.out.row) hlt
            injection e1 with e1
            injection e1 with e1 e2
            subst e1 e2
            have HP := Lib.hid hp
            have HPp := Lib.hid (show (ps.drop i)[0]? = some p by rw [scan_cons hp]; rfl)
            have HPGp := Lib.hid (HPG.out p (List.mem_of_getElem? hp))
            obtain ⟨N, hN⟩ : ∃ N, N = p.number := ⟨_, rfl⟩
            obtain ⟨P, hP⟩ : ∃ N, N = p.part := ⟨_, rfl⟩
            obtain ⟨L, hL⟩ : ∃ N, N = p.left := ⟨_, rfl⟩
            obtain ⟨y, hy⟩ : ∃ y : ByteArray, y = ⟨p.payload.toArray⟩ := ⟨_, rfl⟩
            obtain ⟨o, ho⟩ : ∃ N, N = p.ok := ⟨_, rfl⟩
            rw [← hN] at x0
            rw [← hP] at x1
            rw [← hL] at x2
            rw [show str p.payload = .string y by rw [hy]] at x3
            rw [← ho] at x4
            have HNP := Lib.hid hN
            have HPP := Lib.hid hP
            have HLP := Lib.hid hL
            have HOP := Lib.hid ho
            have hL8 : L ≤ 8000 := by rw [hL]; have := HPGp.out.1; omega
            obtain ⟨C, hC⟩ : ∃ C, C = countI (L : Int) := ⟨_, rfl⟩
            have HCN := Lib.hid (fun W => rcount_any (L : Int) W)
            rw [← hC] at HCN
            have HC := Lib.hid (show C = countN p.left by rw [hC, ← HLP.out]; unfold countI; rw [if_neg (by omega)]; rfl)
            have HC1 := Lib.hid (show 1 ≤ C by rw [HC.out, ← HLP.out]; exact count_pos hL8)
            have HC2 := Lib.hid (show C ≤ 167 by rw [HC.out, ← HLP.out]; exact (count_fits hL8).1)
            have HC3 := Lib.hid (show 48 * C ≤ L + 48 by rw [HC.out, ← HLP.out]; exact (count_fits hL8).2)
            have j1 : (i : Int) < (k : Int) := by omega
            have j0 : (0 : Int) ≤ (i : Int) := by omega
            clear hN hP hL hy ho hC hp hbA
            go_wp2_with fail
            obtain ⟨w1, hw1⟩ : ∃ w1, w1 = wr.alloc (.cells #[.int .i64 N, .int .i64 P, .int .i64 L, .string y, .bool o] 97) := ⟨_, rfl⟩
            have B1 := Lib.hid (show Below wr.heap.size wr w1 by rw [hw1]; exact below_new _ _)
            have Q1 := Lib.hid (show Blk w1 wr.heap.size 97 #[.int .i64 N, .int .i64 P, .int .i64 L, .string y, .bool o] by rw [hw1]; exact Blk.new _ _ _)
            rw [← hw1]
            clear hw1 x0 x1 x2 x3 x4
            refine (HCN.out _).mono ?_
            rintro e w' ⟨rfl, rfl⟩
            have k1 : w1.cell? ⟨wr.heap.size, 1, none⟩ = some (.int .i64 P) := Q1.out.cell 1
            have k4 : w1.cell? ⟨wr.heap.size, 4, none⟩ = some (.bool o) := Q1.out.cell 4
            have hC1 := HC1.out
            have hC2 := HC2.out
            cases o
            · have HNR := Lib.hid (show ¬ recOK (ps.drop i) = true from fun h => by
                have := ((recOK_iff HPp.out).1 h).1
                rw [← HOP.out] at this
                cases this)
              go_wp2_with fail
              go_loopw [15, 16] (fun bv x wq => bv = .bool false ∧ x = .int .i64 0 ∧ Hid (Below wr.heap.size wr wq)) (fun _ _ _ => 0)
              case atStart => exact ⟨rfl, rfl, B1⟩
              case round =>
                obtain ⟨rfl, rfl, BQ⟩ := hrel
                have H3 := Lib.hid ((H.out.go BQ.out).skip HP.out HNR.out)
                go_wp2_with fail
                go_roundw
                case rel => exact ⟨i + 1, acc, vn, vt, by omega, by go_num, H3⟩
                case measure => simp [intOf]; omega
            · by_cases hP0 : P = 0
              · subst hP0
                by_cases hfit : i + C ≤ k
                · have j3 : (i : Int) + (C : Int) ≤ (k : Int) := by omega
                  have wA : IntKind.i64.wrap ((i : Int) + (C : Int)) = (i : Int) + (C : Int) := IntWalk.i64_in _ (by omega)
                  go_wp2_with fail
                  obtain ⟨wo, hwo⟩ : ∃ x, x = wr := ⟨_, rfl⟩
                  subst hwo
                  go_loopw [14, 15, 16] (fun t bv x wq => ∃ (i2 : Nat) (b : Bool) (z : ByteArray), i2 ≤ C ∧ t = .string z ∧ bv = .bool b ∧ x = .int .i64 i2 ∧ Hid (b = true → Good (ps.drop i) p i2 ∧ z.data.toList = recT (ps.drop i) i2) ∧ Hid (b = false → ¬ recOK (ps.drop i) = true) ∧ Hid (Below wo.heap.size wo wq) ∧ Hid (Blk wq wo.heap.size 97 #[.int .i64 N, .int .i64 0, .int .i64 L, .string y, .bool true]) ∧ Hid (z.size ≤ 48 * i2)) (fun _ _ x _ => C - (intOf x).toNat)
                  case atStart => exact ⟨0, true, _, by omega, rfl, rfl, rfl, Lib.hid (fun _ => ⟨fun i hi => by omega, rfl⟩), Lib.hid (fun h => by cases h), B1, Q1, Lib.hid (Nat.zero_le _)⟩
                  case round =>
                    obtain ⟨i2, b, z, hi2, rfl, rfl, rfl, HGOOD, HBAD, BQ, QQ, HZS⟩ := hrel
                    cases b
                    · have H3 := Lib.hid ((H.out.go BQ.out).skip HP.out (HBAD.out rfl))
                      go_wp2_with fail
                      go_roundw
                      case rel => exact ⟨i + 1, acc, vn, vt, by omega, by go_num, H3⟩
                      case measure => simp [intOf]; omega
                    · by_cases hlt2 : i2 < C
                      · obtain ⟨m, hm⟩ : ∃ m, m = i + i2 := ⟨_, rfl⟩
                        obtain ⟨b1, o1, q, e1, _, hq, x0, x1, x2, x3, x4⟩ := rd_part (Rd.of_own (own_below H.out.row BQ.out)) (k := m) (by omega)
                        injection e1 with e1
                        injection e1 with e1 e2
                        subst e1 e2
                        have HQ := Lib.hid (show (ps.drop i)[i2]? = some q by rw [List.getElem?_drop, ← hm]; exact hq)
                        have HQG := Lib.hid (HPG.out q (List.mem_of_getElem? hq))
                        obtain ⟨M, hM⟩ : ∃ N, N = q.number := ⟨_, rfl⟩
                        obtain ⟨P, hP⟩ : ∃ N, N = q.part := ⟨_, rfl⟩
                        obtain ⟨l, hl⟩ : ∃ N, N = q.left := ⟨_, rfl⟩
                        obtain ⟨y2, hy2⟩ : ∃ y : ByteArray, y = ⟨q.payload.toArray⟩ := ⟨_, rfl⟩
                        obtain ⟨o2, ho2⟩ : ∃ N, N = q.ok := ⟨_, rfl⟩
                        rw [← hM] at x0
                        rw [← hP] at x1
                        rw [← hl] at x2
                        rw [show str q.payload = .string y2 by rw [hy2]] at x3
                        rw [← ho2] at x4
                        have HM := Lib.hid hM
                        have HP2 := Lib.hid hP
                        have HL2 := Lib.hid hl
                        have HO2 := Lib.hid ho2
                        have HYP := Lib.hid (show y2.data.toList = q.payload by rw [hy2])
                        have hys : y2.size ≤ 48 := by have := HQG.out.2.2; rw [hy2]; exact this
                        have hzs := HZS.out
                        have wM : IntKind.i64.wrap ((i : Int) + (i2 : Int)) = (m : Int) := by rw [IntWalk.i64_in _ (by omega)]; omega
                        have m1 : (m : Int) < (k : Int) := by omega
                        have m0 : (0 : Int) ≤ (m : Int) := by omega
                        have j1 : (i2 : Int) < (C : Int) := by omega
                        have j5 : ¬ 9223372036854775807 < z.size + y2.size := by omega
                        have HZ := Lib.hid (show (z ++ y2).size ≤ 48 * (i2 + 1) by rw [ByteArray.size_append]; omega)
                        have HNOT := Lib.hid (show ¬ (q.ok = true ∧ q.number = p.number ∧ q.part = i2 ∧ q.left + 48 * i2 = p.left) → ¬ recOK (ps.drop i) = true from fun hn h => Good.not hlt2 HQ.out hn (by have := ((recOK_iff HPp.out).1 h).2.2.2.2; rw [← HC.out] at this; exact this))
                        clear hM hP hl hy2 ho2 hq hm
                        have hQB := Blk.new wr 97 #[.int .i64 M, .int .i64 P, .int .i64 l, .string y2, .bool o2]
                        have hFB := QQ.out.below (below_new wr (.cells #[.int .i64 M, .int .i64 P, .int .i64 l, .string y2, .bool o2] 97)) QQ.out.lt
                        have HQB := Lib.hid hQB
                        have HFB := Lib.hid hFB
                        clear hQB hFB
                        have HB2 := Lib.hid (below_alloc' BQ.out (.cells #[.int .i64 M, .int .i64 P, .int .i64 l, .string y2, .bool o2] 97))
                        obtain ⟨⟨k0, k1, k2, k3, k4⟩, -⟩ := blk5 HQB.out
                        obtain ⟨⟨z0, z1, z2, z3, z4⟩, -⟩ := blk5 HFB.out
                        cases o2
                        · skip
                          go_wp2_with fail
                          all_goals first | (exfalso; omega) | skip
                          go_roundw
                          case rel => exact ⟨i2 + 1, false, z ++ y2, by omega, rfl, rfl, by go_num, Lib.hid (fun h => by cases h), Lib.hid (fun _ => HNOT.out (fun e => by have := HO2.out; rw [e.1] at this; cases this)), HB2, HFB, HZ⟩
                          case measure => simp [intOf]; omega
                        · by_cases hMN : M = N
                          · subst hMN
                            by_cases hPk : P = i2
                            · subst hPk
                              by_cases hlL : l + 48 * P = L
                              · have q3 : ((l : Int) == (L : Int) - 48 * (P : Int)) = true := by simp; omega
                                have q4 : (48 : Int) * (P : Int) ≤ 8016 := by omega
                                have HG2 := Lib.hid (show Good (ps.drop i) p (P + 1) ∧ (z ++ y2).data.toList = recT (ps.drop i) (P + 1) from ⟨(HGOOD.out rfl).1.succ HQ.out HO2.out.symm (by rw [← HM.out, HNP.out]) HP2.out.symm (by have := HL2.out; have := HLP.out; omega), by rw [ByteArray.data_append, Array.toList_append, rectext_succ HQ.out, (HGOOD.out rfl).2, HYP.out]⟩)
                                go_wp2_with fail
                                go_roundw
                                case rel => exact ⟨P + 1, true, z ++ y2, by omega, rfl, rfl, by go_num, Lib.hid (fun _ => HG2.out), Lib.hid (fun h => by cases h), HB2, HFB, HZ⟩
                                case measure => simp [intOf]; omega
                              · have q3 : ((l : Int) == (L : Int) - 48 * (P : Int)) = false := by simp; omega
                                have q4 : (48 : Int) * (P : Int) ≤ 8016 := by omega
                                go_wp2_with fail
                                all_goals first | (exfalso; omega) | skip
                                go_roundw
                                case rel => exact ⟨P + 1, false, z ++ y2, by omega, rfl, rfl, by go_num, Lib.hid (fun h => by cases h), Lib.hid (fun _ => HNOT.out (fun e => by have := HL2.out; have := HLP.out; have := e.2.2.2; omega)), HB2, HFB, HZ⟩
                                case measure => simp [intOf]; omega
                            · have q3 : ((P : Int) == (i2 : Int)) = false := by simp; omega
                              have q3' : (P == i2) = false := by simpa using hPk
                              have q3'' : decide (P = i2) = false := by simpa using hPk
                              go_wp2_with fail
                              all_goals first | (exfalso; omega) | skip
                              go_roundw
                              case rel => exact ⟨i2 + 1, false, z ++ y2, by omega, rfl, rfl, by go_num, Lib.hid (fun h => by cases h), Lib.hid (fun _ => HNOT.out (fun e => by have := HP2.out; have := e.2.2.1; omega)), HB2, HFB, HZ⟩
                              case measure => simp [intOf]; omega
                          · have q3 : ((M : Int) == (N : Int)) = false := by simp; omega
                            have q3' : (M == N) = false := by simpa using hMN
                            have q3'' : decide (M = N) = false := by simpa using hMN
                            go_wp2_with fail
                            all_goals first | (exfalso; omega) | skip
                            go_roundw
                            case rel => exact ⟨i2 + 1, false, z ++ y2, by omega, rfl, rfl, by go_num, Lib.hid (fun h => by cases h), Lib.hid (fun _ => HNOT.out (fun e => by have := HM.out; have := HNP.out; have := e.2.1; omega)), HB2, HFB, HZ⟩
                            case measure => simp [intOf]; omega
                      · obtain rfl : C = i2 := by omega
                        have HR := Lib.hid (show recOK (ps.drop i) = true from (recOK_iff HPp.out).2 ⟨HOP.out.symm, HPP.out.symm, by rw [← HC.out]; exact HC1.out, by rw [← HC.out, List.length_drop, HPL.out]; omega, by rw [← HC.out]; exact (HGOOD.out rfl).1⟩)
                        have HT := Lib.hid (show z.data.toList = recT (ps.drop i) (countN p.left) by rw [← HC.out]; exact (HGOOD.out rfl).2)
                        have H3 := Lib.hid (H.out.go BQ.out)
                        obtain ⟨G, hG⟩ : ∃ G, G = addJ O acc := ⟨_, rfl⟩
                        have HG := Lib.hid hG
                        have J3 := Lib.hid (show RJAt wr w.heap.size r vn vt vb G by rw [hG]; exact H3.out.jat)
                        have HLE := Lib.hid H.out.len
                        have hgl : G.nums.length ≤ 4096 := by rw [hG]; show (acc.map _).length ≤ _; rw [List.length_map]; have := HLE.out; omega
                        have hgt : G.texts.length ≤ 4096 := by rw [hG]; show (acc.map _).length ≤ _; rw [List.length_map]; have := HLE.out; omega
                        obtain ⟨An, cn, rfl, -⟩ := own_slice J3.out.nums
                        obtain ⟨b, hb⟩ : ∃ b, b = decide ((N : Int) ∈ G.nums) := ⟨_, rfl⟩
                        have HRR := Lib.hid (show b = decide (p.number ∈ acc.map Prod.fst) by rw [hb, hG, HNP.out]; exact congrArg (fun q : Prop => @decide q (Classical.propDecidable q)) (nums_mem O acc) |> fun e => by simpa using e)
                        have CON := Lib.hid (show ∀ W, Hid (Below wr.heap.size wr W) → Calls Tryz.prog 58 #[.slice An G.nums.length cn, .int .i64 (N : Int)] W (RetB (.bool b) W) from fun W h => has_any An G.nums.length cn G.nums (N : Int) W (Rd.of_own (own_below J3.out.nums h.out)) (by omega) b (Lib.hid hb.symm))
                        have x0 := QQ.out.cell 0
                        simp only [List.getElem?_toArray, List.getElem?_cons_zero] at x0
                        have m1 := J3.out.cells.2.1
                        have y0 : Hid (Below wr.heap.size wr wr.drew) := Lib.hid (Below.refl _ _).drew
                        have HBA := Lib.hid QQ.out.lt
                        have HJL := Lib.hid J3.out.head.lt
                        clear hG hb
                        go_wp2_with fail
                        go_region_held3 (fun W => W.cell? ⟨w.heap.size, 1, none⟩ = some (.slice An G.nums.length cn) ∧ W.cell? ⟨wo.heap.size, 0, none⟩ = some (.int .i64 (N : Int)) ∧ Hid (Below wr.heap.size wr W))
                          (first | (go_split_ands; exact ⟨cell_goR bn HJL.out (by assumption), cell_goR bn HBA.out (by assumption), far_goR bn (by assumption)⟩) | exact ⟨m1, x0, y0⟩ | (go_split_ands; refine ⟨?_, ?_, ?_⟩ <;> assumption) | go_keep)
                          (first | (go_at_call 58; go_split_ands; (with_reducible refine (CON.out _ (by assumption)).mono ?_); rintro e wn ⟨rfl, bn⟩))
                        go_split_ands
                        have HB5 : Hid (Below wr.heap.size wr wn) := by assumption
                        have H5 := Lib.hid (H3.out.go HB5.out)
                        have HBF := Lib.hid (below_go (w2 := wn) H3.out.below HB5.out)
                        have Q5 := Lib.hid (QQ.out.below HB5.out HBA.out)
                        have hCk : i + C ≤ k := hfit
                        clear CON y0 m1 x0
                        cases b
                        · have HM := Lib.hid (show p.number ∉ acc.map Prod.fst from of_decide_eq_false HRR.out.symm)
                          have J7 := Lib.hid (show RJAt wn w.heap.size r (.slice An G.nums.length cn) vt vb G by have := H5.out.jat; rw [← HG.out] at this; exact this)
                          have D7 := Lib.hid (ref_go HD.out HBF.out)
                          obtain ⟨At, ct, rfl, -⟩ := own_slice J7.out.texts
                          have JD := Lib.hid (J7.out.below (below_drewN' (Below.refl _ _) 1))
                          have s1 := JD.out.cells.2.1
                          have x0 : wn.drew.cell? ⟨wo.heap.size, 0, none⟩ = some (.int .i64 N) := Q5.out.cell 0
                          have DI : Below wn.heap.size wn (wn.alloc (.cells #[.int .i64 N] 3)).drew := below_drewN' (below_new wn _) 1
                          have a1 := (DI.cell (p := ⟨w.heap.size, 1, none⟩) J7.out.head.lt).trans J7.out.cells.2.1
                          have mI : (wn.alloc (.cells #[.int .i64 N] 3)).drew.cell? ⟨wn.heap.size, 0, none⟩ = some (.int .i64 N) := (Blk.new wn 3 #[.int .i64 N]).cell 0
                          have HMI := Lib.hid mI
                          have HDI := Lib.hid DI
                          have HJN := Lib.hid (show w.heap.size ∉ ob (.slice An G.nums.length cn) from fun hm => row_neB J7.out.head J7.out.nums (by decide) _ (mem_ob.1 hm) rfl)
                          have HJL7 := Lib.hid J7.out.head.lt
                          clear mI DI
                          go_wp2_with fail
                          go_region_law (refine step_appI (by rfl) _ _ (by rfl) (by rfl) (.slice An G.nums.length cn) G.nums.length G.nums (by rfl) (J7.out.nums.alloc _) (N : Int) _ (by rfl) HMI.out (by omega) ?_; intro A8 c8 w8 o8 g8 h8; have G8 := Lib.hid (grew (w := wn) HDI.out g8 h8); have O8 := Lib.hid o8; have H8 : Blk w8 w.heap.size 57 _ := (G8.out.keep.block _ HJL7.out HJN.out).trans J7.out.head; have u1 := H8.cell 1; have u2 := H8.cell 2; have t1 := H8.frozen 1; have t2 := H8.frozen 2; simp only [List.getElem?_toArray, List.getElem?_cons_zero, List.getElem?_cons_succ] at u1 u2; clear g8 h8 o8 H8 a1)
                          all_goals
                            obtain ⟨m1, m2, m3⟩ := rj_nums J7.out D7.out (N : Int) G8.out O8.out
                            have J8 := Lib.hid m1
                            have NS := Lib.hid (show ((w8.setCell ⟨w.heap.size, 1, none⟩ (.slice A8 (G.nums.length + 1) c8)).alloc (.cells #[.string z] 9)).cell? ⟨w8.heap.size, 0, none⟩ = some (str z.data.toList) by
                              have h := (Blk.new (w8.setCell ⟨w.heap.size, 1, none⟩ (.slice A8 (G.nums.length + 1) c8)) 9 #[.string z]).cell 0
                              rw [show (w8.setCell ⟨w.heap.size, 1, none⟩ (.slice A8 (G.nums.length + 1) c8)).heap.size = w8.heap.size by simp [World.setCell]] at h
                              rw [h, ← str_of (s := z) rfl]; rfl)
                            clear m1 m2 m3
                            go_wp2_with (at_builtin; refine list_appS rfl _ _ rfl rfl _ G.texts.length G.texts rfl (J8.out.texts.alloc _) z.data.toList w8.heap.size rfl NS.out (by omega) ?_)
                            intro A9 c9 w9 o9 g9 h9
                            have G9 := Lib.hid (grew (w := w8.setCell ⟨w.heap.size, 1, none⟩ (.slice A8 (G.nums.length + 1) c8)) (below_new _ (.cells #[.string z] 9)) g9 (by rw [World.size_alloc, show (w8.setCell ⟨w.heap.size, 1, none⟩ (.slice A8 (G.nums.length + 1) c8)).heap.size = w8.heap.size by simp [World.setCell]]; exact h9))
                            have H9 : Blk w9 w.heap.size 57 _ := (G9.out.keep.block _ J8.out.head.lt (fun hm => row_neB J8.out.head J8.out.texts (by decide) _ (mem_ob.1 hm) rfl)).trans J8.out.head
                            have v2 := H9.cell 2
                            have t9 := H9.frozen 2
                            simp only [List.getElem?_toArray, List.getElem?_cons_zero, List.getElem?_cons_succ] at v2
                            have HDN := Lib.hid (H5.out.done D7.out HP.out HR.out HM.out HT.out G8.out (by rw [← HG.out, ← HNP.out]; exact O8.out) G9.out (by rw [← HG.out]; exact o9))
                            rw [← HC.out] at HDN
                            clear o9 g9 h9 H9
                            go_wp2_with fail
                            go_roundw
                            case rel => exact ⟨i + C, _, _, _, by omega, by go_num, HDN⟩
                            case measure => simp [intOf]; omega
                        · have HM := Lib.hid (show p.number ∈ acc.map Prod.fst from of_decide_eq_true HRR.out.symm)
                          have HS5 := Lib.hid (H5.out.seen HP.out HR.out HM.out)
                          rw [← HC.out] at HS5
                          go_wp2_with fail
                          go_roundw
                          case rel => exact ⟨i + C, acc, _, vt, by omega, by go_num, HS5⟩
                          case measure => simp [intOf]; omega
                · have HNR := Lib.hid (show ¬ recOK (ps.drop i) = true from fun h => by
                    have := ((recOK_iff HPp.out).1 h).2.2.2.1
                    rw [← HC.out, List.length_drop, HPL.out] at this
                    omega)
                  have j3 : decide ((i : Int) + (C : Int) ≤ (k : Int)) = false := decide_eq_false (by omega)
                  have wA : IntKind.i64.wrap ((i : Int) + (C : Int)) = (i : Int) + (C : Int) := IntWalk.i64_in _ (by omega)
                  go_wp2_with fail
                  go_loopw [15, 16] (fun bv x wq => bv = .bool false ∧ x = .int .i64 0 ∧ Hid (Below wr.heap.size wr wq)) (fun _ _ _ => 0)
                  case atStart => exact ⟨rfl, rfl, B1⟩
                  case round =>
                    obtain ⟨rfl, rfl, BQ⟩ := hrel
                    have H3 := Lib.hid ((H.out.go BQ.out).skip HP.out HNR.out)
                    go_wp2_with fail
                    go_roundw
                    case rel => exact ⟨i + 1, acc, vn, vt, by omega, by go_num, H3⟩
                    case measure => simp [intOf]; omega
              · have HNR := Lib.hid (show ¬ recOK (ps.drop i) = true from fun h => by
                  have := ((recOK_iff HPp.out).1 h).2.1
                  rw [← HPP.out] at this
                  exact hP0 this)
                have j2 : ((P : Int) == 0) = false := by simpa using hP0
                have j2' : (P == 0) = false := by simpa using hP0
                go_wp2_with fail
                go_loopw [15, 16] (fun bv x wq => bv = .bool false ∧ x = .int .i64 0 ∧ Hid (Below wr.heap.size wr wq)) (fun _ _ _ => 0)
                case atStart => exact ⟨rfl, rfl, B1⟩
                case round =>
                  obtain ⟨rfl, rfl, BQ⟩ := hrel
                  have H3 := Lib.hid ((H.out.go BQ.out).skip HP.out HNR.out)
                  go_wp2_with fail
                  go_roundw
                  case rel => exact ⟨i + 1, acc, vn, vt, by omega, by go_num, H3⟩
                  case measure => simp [intOf]; omega
          · obtain rfl : i = k := by omega
            have HFIN := Lib.hid (show RJAt wr w.heap.size r vn vt vb (openT T) by
              have h := H.out.found
              rw [List.drop_of_length_le (by rw [HPL.out]; exact Nat.le_refl _), recL_nil, List.foldl_nil] at h
              rw [openT, ← HPS.out, ← HOJ.out, h]
              exact H.out.jat)
            go_wp2_with fail
            go_ret2
            exact ⟨H.out.below, .inr ⟨HO.out, w.heap.size, vn, vt, vb, rfl, HFIN.out, Nat.le_refl _, H.out.fn, H.out.ft, HFB.out⟩⟩
end Go.Proofs.YtddpjahoeldleaaGreatDoor
