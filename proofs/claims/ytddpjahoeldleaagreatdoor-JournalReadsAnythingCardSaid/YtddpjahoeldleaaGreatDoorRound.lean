/- One round of the hash; the round constants in memory. -/
import Derived.Test.YtddpjahoeldleaaGreatDoorRefSched
namespace Go.Proofs.YtddpjahoeldleaaGreatDoor
open Go.RowKit

/-- the round constants as a row -/
def kRow : Array Value := rowW ((List.range 64).map kW)
theorem kRow_get {t : Nat} (h : t < 64) : kRow[t]? = some (wordV (kW t)) := by
  rw [kRow, rowW_get (by simp; exact h), List.getD_eq_getElem?_getD, List.getElem?_map, List.getElem?_range h]
  rfl
/-- the constants lie as they were laid: the program's, the reference's -/
structure Consts (w : World) : Prop where
  go : ∃ ty fr, w.heap[2]? = some (.cells kRow ty fr)
structure RConsts (w : World) : Prop where
  ref : ∃ ty fr, w.heap[0]? = some (.cells kRow ty fr)
theorem Consts.keep {F : List Nat} {w w' : World} (h : Consts w) (hk : Keep F w w') (h2 : 2 ∉ F) : Consts w' := by
  obtain ⟨t', fr', hr'⟩ := h.go
  exact ⟨t', fr', (hk.block _ (Array.getElem?_eq_some_iff.1 hr').1 h2).trans hr'⟩
theorem Consts.below {w w' : World} (h : Consts w) (hb : Below w.heap.size w w') : Consts w' := h.keep (Keep.of_below hb []) (by simp)
theorem Consts.lt {w : World} (h : Consts w) : 2 < w.heap.size := by
  obtain ⟨t', fr', hr'⟩ := h.go
  exact (Array.getElem?_eq_some_iff.1 hr').1
theorem RConsts.keep {F : List Nat} {w w' : World} (h : RConsts w) (hk : Keep F w w') (h0 : 0 ∉ F) : RConsts w' := by
  obtain ⟨t, fr, hr⟩ := h.ref
  exact ⟨t, fr, (hk.block _ (Array.getElem?_eq_some_iff.1 hr).1 h0).trans hr⟩
theorem RConsts.below {w w' : World} (h : RConsts w) (hb : Below w.heap.size w w') : RConsts w' := h.keep (Keep.of_below hb []) (by simp)
theorem RConsts.refCell {w : World} (h : RConsts w) {t : Nat} (ht : t < 64) : w.cell? ⟨0, t, none⟩ = some (wordV (kW t)) := by
  obtain ⟨ty, fr, hr⟩ := h.ref
  exact (cell_of_row w 0 t kRow ty fr hr).trans (kRow_get ht)
theorem RConsts.lt {w : World} (h : RConsts w) : 0 < w.heap.size := by
  obtain ⟨t', fr', hr'⟩ := h.ref
  exact (Array.getElem?_eq_some_iff.1 hr').1

/-- what one round reckons, word by word -/
structure RF (a b c d e f g h k w r6 r11 r25 p1 p2 q1 n1 n2 n3 n4 q2 q3 q4 r2 r13 r22 s1 s2 m1 m2 m3 m4 m5 y ea aa : W32) : Prop where
  c6 : rotr e 6 = r6
  c11 : rotr e 11 = r11
  c25 : rotr e 25 = r25
  x1 : bits .xor .u32 (r6.toNat : Int) (r11.toNat : Int) = (p1.toNat : Int)
  x2 : bits .xor .u32 (p1.toNat : Int) (r25.toNat : Int) = (p2.toNat : Int)
  mixE : rotr e 6 ^^^ rotr e 11 ^^^ rotr e 25 = p2
  a1 : IntKind.u32.wrap ((h.toNat : Int) + (p2.toNat : Int)) = (q1.toNat : Int)
  a1' : ((h.toNat : Int) + (p2.toNat : Int)) % 4294967296 = (q1.toNat : Int)
  b1 : bits .and .u32 (e.toNat : Int) (f.toNat : Int) = (n1.toNat : Int)
  b2 : bits .xor .u32 (e.toNat : Int) 4294967295 = (n2.toNat : Int)
  b2' : 4294967295 - (e.toNat : Int) = (n2.toNat : Int)
  b3 : bits .and .u32 (n2.toNat : Int) (g.toNat : Int) = (n3.toNat : Int)
  b4 : bits .xor .u32 (n1.toNat : Int) (n3.toNat : Int) = (n4.toNat : Int)
  a2 : IntKind.u32.wrap ((q1.toNat : Int) + (n4.toNat : Int)) = (q2.toNat : Int)
  a2' : ((q1.toNat : Int) + (n4.toNat : Int)) % 4294967296 = (q2.toNat : Int)
  a3 : IntKind.u32.wrap ((q2.toNat : Int) + (k.toNat : Int)) = (q3.toNat : Int)
  a3' : ((q2.toNat : Int) + (k.toNat : Int)) % 4294967296 = (q3.toNat : Int)
  a4 : IntKind.u32.wrap ((q3.toNat : Int) + (w.toNat : Int)) = (q4.toNat : Int)
  a4' : ((q3.toNat : Int) + (w.toNat : Int)) % 4294967296 = (q4.toNat : Int)
  c2 : rotr a 2 = r2
  c13 : rotr a 13 = r13
  c22 : rotr a 22 = r22
  y1 : bits .xor .u32 (r2.toNat : Int) (r13.toNat : Int) = (s1.toNat : Int)
  y2 : bits .xor .u32 (s1.toNat : Int) (r22.toNat : Int) = (s2.toNat : Int)
  mixA : rotr a 2 ^^^ rotr a 13 ^^^ rotr a 22 = s2
  d1 : bits .and .u32 (a.toNat : Int) (b.toNat : Int) = (m1.toNat : Int)
  d2 : bits .and .u32 (a.toNat : Int) (c.toNat : Int) = (m2.toNat : Int)
  d3 : bits .xor .u32 (m1.toNat : Int) (m2.toNat : Int) = (m3.toNat : Int)
  d4 : bits .and .u32 (b.toNat : Int) (c.toNat : Int) = (m4.toNat : Int)
  d5 : bits .xor .u32 (m3.toNat : Int) (m4.toNat : Int) = (m5.toNat : Int)
  d6 : IntKind.u32.wrap ((s2.toNat : Int) + (m5.toNat : Int)) = (y.toNat : Int)
  d6' : ((s2.toNat : Int) + (m5.toNat : Int)) % 4294967296 = (y.toNat : Int)
  f1 : IntKind.u32.wrap ((d.toNat : Int) + (q4.toNat : Int)) = (ea.toNat : Int)
  f1' : ((d.toNat : Int) + (q4.toNat : Int)) % 4294967296 = (ea.toNat : Int)
  f2 : IntKind.u32.wrap ((q4.toNat : Int) + (y.toNat : Int)) = (aa.toNat : Int)
  f2' : ((q4.toNat : Int) + (y.toNat : Int)) % 4294967296 = (aa.toNat : Int)
  all : (⟨a, b, c, d, e, f, g, h⟩ : Reg).round k w = ⟨aa, a, b, c, ea, e, f, g⟩
theorem not32 (e : W32) : 4294967295 - (e.toNat : Int) = ((e ^^^ 0xffffffff).toNat : Int) := by
  have h : e ^^^ 0xffffffff = ~~~ e := by rw [show (0xffffffff : W32) = BitVec.allOnes 32 from by decide, BitVec.xor_allOnes]
  have := e.isLt
  rw [h, BitVec.toNat_not]
  omega
theorem round_facts (a b c d e f g h k w : W32) : ∃ r6 r11 r25 p1 p2 q1 n1 n2 n3 n4 q2 q3 q4 r2 r13 r22 s1 s2 m1 m2 m3 m4 m5 y ea aa, RF a b c d e f g h k w r6 r11 r25 p1 p2 q1 n1 n2 n3 n4 q2 q3 q4 r2 r13 r22 s1 s2 m1 m2 m3 m4 m5 y ea aa :=
  ⟨_, _, _, _, _, _, _, _, _, _, _, _, _, _, _, _, _, _, _, _, _, _, _, _, _, _,
    rfl, rfl, rfl, xor32 _ _, xor32 _ _, rfl, add32 _ _, add32m _ _, and32 _ _, xor32 e 0xffffffff, not32 e, and32 _ _, xor32 _ _, add32 _ _, add32m _ _, add32 _ _, add32m _ _, add32 _ _, add32m _ _,
    rfl, rfl, rfl, xor32 _ _, xor32 _ _, rfl, and32 _ _, and32 _ _, xor32 _ _, and32 _ _, xor32 _ _, add32 _ _, add32m _ _, add32 _ _, add32m _ _, add32 _ _, add32m _ _, rfl⟩
theorem rotr_as {x y : W32} {n : Nat} (h : rotr x n = y) (h1 : 0 < n) (h2 : n < 32) (w : World) : Calls Tryz.prog 109 #[wordV x, .int .i64 (n : Int)] w fun e w' => e = .returned (wordV y) ∧ ∃ k, w' = w.drewN k := by
  rw [← h]; exact rotr_any x n w h1 h2
/-- a state as a row -/
def rowS (R : Reg) : Array Value := #[wordV R.a, wordV R.b, wordV R.c, wordV R.d, wordV R.e, wordV R.f, wordV R.g, wordV R.h]
theorem rowS_one (R : Reg) : (rowS R).all (·.oneCell') = true := by simp [rowS, Value.oneCell']
/-- the row of some bytes, zeros behind them -/
def rowB (n : Nat) (l : Bs) : Array Value := (byteCells l ++ List.replicate (n - l.length) (Value.int .u8 0)).toArray
theorem rowB_size {n : Nat} {l : Bs} (h : l.length ≤ n) : (rowB n l).size = n := by simp [rowB, byteCells]; omega
theorem rowB_get {n : Nat} {l : Bs} {j : Nat} (h : j < l.length) : (rowB n l)[j]? = some (.int .u8 (byteN l j : Int)) := by
  rw [rowB, List.getElem?_toArray, List.getElem?_append_left (by rw [byteCells_len]; exact h), byteCells, List.getElem?_map, List.getElem?_eq_getElem h, byteN, List.getD_eq_getElem?_getD, List.getElem?_eq_getElem h]
  rfl
theorem rowB_zero {n : Nat} {l : Bs} {j : Nat} (h : l.length ≤ j) (h2 : j < n) : (rowB n l)[j]? = some (.int .u8 0) := by
  rw [rowB, List.getElem?_toArray, List.getElem?_append_right (by rw [byteCells_len]; exact h), byteCells_len, List.getElem?_replicate, if_pos (by omega)]
theorem rowB_push {n : Nat} {l : Bs} {x : UInt8} (h : l.length < n) : (rowB n l).setIfInBounds l.length (.int .u8 (x.toNat : Int)) = rowB n (l ++ [x]) := by
  apply Array.ext_getElem?
  intro j
  have hs := rowB_size (Nat.le_of_lt h)
  by_cases h1 : j = l.length
  · subst h1
    rw [Array.getElem?_setIfInBounds_self_of_lt (by omega), rowB_get (by simp), byteN, List.getD_eq_getElem?_getD, List.getElem?_append_right (Nat.le_refl _), Nat.sub_self]
    rfl
  · rw [Array.getElem?_setIfInBounds_ne (fun e => h1 e.symm)]
    by_cases h2 : j < l.length
    · rw [rowB_get h2, rowB_get (by simp; omega), byteN, byteN, List.getD_eq_getElem?_getD, List.getD_eq_getElem?_getD, List.getElem?_append_left h2]
    · by_cases h3 : j < n
      · rw [rowB_zero (by omega) h3, rowB_zero (by simp; omega) h3]
      · rw [Array.getElem?_eq_none (by omega), Array.getElem?_eq_none (by rw [rowB_size (by simp; omega)]; omega)]
theorem rowB_one (n : Nat) (l : Bs) : (rowB n l).all (·.oneCell') = true := by
  rw [Array.all_eq_true_iff_forall_mem]
  intro v hv
  rw [rowB] at hv
  simp only [byteCells, List.mem_toArray, List.mem_append, List.mem_map, List.mem_replicate] at hv
  rcases hv with ⟨x, _, rfl⟩ | ⟨_, rfl⟩ <;> rfl
/-- byte i of a state -/
theorem bytes_at (R : Reg) {i : Nat} (h : i < 32) : R.bytes.getD i 0 = byteW (R.words.getD (i / 4) 0) (24 - 8 * (i % 4)) := by
  have hi : i = 0 ∨ i = 1 ∨ i = 2 ∨ i = 3 ∨ i = 4 ∨ i = 5 ∨ i = 6 ∨ i = 7 ∨ i = 8 ∨ i = 9 ∨ i = 10 ∨ i = 11 ∨ i = 12 ∨ i = 13 ∨ i = 14 ∨ i = 15 ∨ i = 16 ∨ i = 17 ∨ i = 18 ∨ i = 19 ∨ i = 20 ∨ i = 21 ∨ i = 22 ∨ i = 23 ∨ i = 24 ∨ i = 25 ∨ i = 26 ∨ i = 27 ∨ i = 28 ∨ i = 29 ∨ i = 30 ∨ i = 31 := by omega
  rcases hi with rfl | rfl | rfl | rfl | rfl | rfl | rfl | rfl | rfl | rfl | rfl | rfl | rfl | rfl | rfl | rfl | rfl | rfl | rfl | rfl | rfl | rfl | rfl | rfl | rfl | rfl | rfl | rfl | rfl | rfl | rfl | rfl <;> exact rfl
theorem info8w : (Tryz.prog.info? 146).map (fun i => (i.zero, i.size)) = some (some (.agg (rowS ⟨0, 0, 0, 0, 0, 0, 0, 0⟩)), 8) := by kernel_rfl
theorem info32b : (Tryz.prog.info? 125).map (fun i => (i.zero, i.size)) = some (some (.agg (rowB 32 [])), 32) := by kernel_rfl
theorem info5b : (Tryz.prog.info? 5).map (fun i => (i.zero, i.size, i.bytes)) = some (some (.int .u8 0), 1, 1) := by kernel_rfl
end Go.Proofs.YtddpjahoeldleaaGreatDoor
