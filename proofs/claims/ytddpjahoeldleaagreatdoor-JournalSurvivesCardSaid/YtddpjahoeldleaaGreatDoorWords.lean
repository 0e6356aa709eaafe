/- Words of 32 bits as values; rotations. -/
import Derived.Test.YtddpjahoeldleaaGreatDoorBase
import Derived.Laws.BitsLemmas
import Derived.IntWalk
namespace Go.Proofs.YtddpjahoeldleaaGreatDoor
open Go.RowKit Go.Lib

theorem nat32 (x : W32) : 0 ≤ (x.toNat : Int) ∧ (x.toNat : Int) < 4294967296 := ⟨Int.natCast_nonneg _, by have := x.isLt; omega⟩
theorem wrap32 (n : Nat) : IntKind.u32.wrap (n : Int) = ((BitVec.ofNat 32 n).toNat : Int) := by
  rw [IntKind.wrap_u32, BitVec.toNat_ofNat]; omega
theorem ofInt32 (x : W32) : BitVec.ofInt 32 (x.toNat : Int) = x := by
  rw [BitVec.ofInt_natCast, BitVec.ofNat_toNat, BitVec.setWidth_eq]
theorem bits32 (op : BinOp) (x y z : W32) (h : (match op with
    | .and => x &&& y
    | .or => x ||| y
    | .xor => x ^^^ y
    | _ => x &&& ~~~y) = z) : bits op .u32 (x.toNat : Int) (y.toNat : Int) = (z.toNat : Int) := by
  unfold bits
  show IntKind.u32.wrap (((match op with
    | .and => BitVec.ofInt 32 (x.toNat : Int) &&& BitVec.ofInt 32 (y.toNat : Int)
    | .or => BitVec.ofInt 32 (x.toNat : Int) ||| BitVec.ofInt 32 (y.toNat : Int)
    | .xor => BitVec.ofInt 32 (x.toNat : Int) ^^^ BitVec.ofInt 32 (y.toNat : Int)
    | _ => BitVec.ofInt 32 (x.toNat : Int) &&& ~~~ BitVec.ofInt 32 (y.toNat : Int)).toNat : Nat) : Int) = _
  rw [ofInt32, ofInt32, wrap32]
  rw [h, BitVec.ofNat_toNat, BitVec.setWidth_eq]
theorem and32 (x y : W32) : bits .and .u32 (x.toNat : Int) (y.toNat : Int) = ((x &&& y).toNat : Int) := bits32 .and x y _ rfl
theorem or32 (x y : W32) : bits .or .u32 (x.toNat : Int) (y.toNat : Int) = ((x ||| y).toNat : Int) := bits32 .or x y _ rfl
theorem xor32 (x y : W32) : bits .xor .u32 (x.toNat : Int) (y.toNat : Int) = ((x ^^^ y).toNat : Int) := bits32 .xor x y _ rfl
theorem add32 (x y : W32) : IntKind.u32.wrap ((x.toNat : Int) + (y.toNat : Int)) = ((x + y).toNat : Int) := by
  rw [← Int.natCast_add, wrap32, BitVec.ofNat_add, BitVec.ofNat_toNat, BitVec.ofNat_toNat, BitVec.setWidth_eq, BitVec.setWidth_eq]
theorem shr32 (x : W32) (n : Nat) : (x.toNat : Int) / 2 ^ n = ((x >>> n).toNat : Int) := by
  rw [BitVec.toNat_ushiftRight, Nat.shiftRight_eq_div_pow, Int.natCast_ediv, Int.natCast_pow]; rfl
theorem shl32 (x : W32) (n : Nat) : IntKind.u32.wrap ((x.toNat : Int) * 2 ^ n) = ((x <<< n).toNat : Int) := by
  rw [show (x.toNat : Int) * 2 ^ n = ((x.toNat * 2 ^ n : Nat) : Int) by rw [Int.natCast_mul, Int.natCast_pow]; rfl, wrap32, BitVec.toNat_ofNat, BitVec.toNat_shiftLeft, Nat.shiftLeft_eq]
theorem shl32m (x : W32) (n : Nat) : (x.toNat : Int) * 2 ^ n % 4294967296 = ((x <<< n).toNat : Int) := by
  rw [← shl32, IntKind.wrap_u32]
theorem add32m (x y : W32) : ((x.toNat : Int) + (y.toNat : Int)) % 4294967296 = ((x + y).toNat : Int) := by
  rw [← add32, IntKind.wrap_u32]
/-- a word -/
abbrev wordV (x : W32) : Value := .int .u32 (x.toNat : Int)

set_option maxHeartbeats 1000000 in
theorem rotr_any (x : W32) (n : Nat) (w : World) (h1 : 0 < n) (h2 : n < 32) : Calls Tryz.prog 109 #[wordV x, .int .i64 (n : Int)] w fun e w' => e = .returned (wordV (rotr x n)) ∧ ∃ k, w' = w.drewN k := by
  have hx := nat32 x
  have h3 : (0 : Int) ≤ (n : Int) := by omega
  have h4 : (n : Int) < 32 := by omega
  go_enter Tryz.func109, Tryz.ntmps109
  go_wp2_with fail
  go_quiet (fail)
  go_wp2_with fail
  go_ret
  exact ⟨by rw [shr32, shl32m, or32]; rfl, nq, rfl⟩
theorem neg_and : ∀ k : Fin 32, 0 < k.val → bits .and .u64 (IntKind.u64.wrap (-(k.val : Int))) 31 = ((32 - k.val : Nat) : Int) := by decide +kernel
set_option maxHeartbeats 1000000 in
theorem rotl_any (x : W32) (n : Nat) (w : World) (h1 : 0 < n) (h2 : n < 32) : Calls Tryz.prog 123 #[wordV x, .int .i64 (-(n : Int))] w fun e w' => e = .returned (wordV (rotr x n)) ∧ w = w' := by
  have hx := nat32 x
  have hn := neg_and ⟨n, h2⟩ h1
  obtain ⟨m, hm⟩ : ∃ m, m = 32 - n := ⟨_, rfl⟩
  have h5 : 32 - m = n := by omega
  rw [show (32 - (⟨n, h2⟩ : Fin 32).val) = m from hm.symm] at hn
  dsimp only at hn
  have h3 : (0 : Int) ≤ (n : Int) := by omega
  have h4 : (n : Int) < 32 := by omega
  have h6 : (0 : Int) ≤ (m : Int) := by omega
  have h7 : (m : Int) < 32 := by omega
  have HM := Lib.hid hm
  have H5 := Lib.hid h5
  clear hm h5
  go_enter Tryz.func123, Tryz.ntmps123
  go_wp2_with fail
  go_ret
  exact ⟨by rw [shr32, shl32m, or32, BitVec.or_comm]; rw [H5.out, HM.out]; rfl, rfl⟩
set_option maxHeartbeats 1000000 in
theorem mix_any (x : W32) (i j k : Nat) (w : World) (i1 : 0 < i) (i2 : i < 32) (j1 : 0 < j) (j2 : j < 32) (k1 : 0 < k) (k2 : k < 32) :
    Calls Tryz.prog 111 #[wordV x, .int .i64 (i : Int), .int .i64 (j : Int), .int .i64 (k : Int)] w fun e w' => e = .returned (wordV (rotr x i ^^^ rotr x j ^^^ rotr x k)) ∧ w = w' := by
  go_enter Tryz.func111, Tryz.ntmps111
  go_wp2_with fail
  refine (rotl_any x i w i1 i2).mono ?_
  rintro e w1 ⟨rfl, rfl⟩
  go_wp2_with fail
  refine (rotl_any x j w j1 j2).mono ?_
  rintro e w1 ⟨rfl, rfl⟩
  go_wp2_with fail
  refine (rotl_any x k w k1 k2).mono ?_
  rintro e w1 ⟨rfl, rfl⟩
  obtain ⟨z, hz⟩ : ∃ z, z = rotr x i ^^^ rotr x j := ⟨_, rfl⟩
  obtain ⟨y, hy⟩ : ∃ y, y = z ^^^ rotr x k := ⟨_, rfl⟩
  have hx := xor32 (rotr x i) (rotr x j)
  have hx2 := xor32 z (rotr x k)
  rw [← hz] at hx
  rw [← hy] at hx2
  have HY := Lib.hid (show y = rotr x i ^^^ rotr x j ^^^ rotr x k by rw [hy, hz])
  clear hz hy
  go_wp2_with fail
  go_ret
  exact ⟨by rw [← HY.out]; rfl, rfl⟩

/-! bytes and rows of words -/
def byteCells (b : Bs) : List Value := b.map fun x => .int .u8 (x.toNat : Int)
theorem byteCells_len (b : Bs) : (byteCells b).length = b.length := by simp [byteCells]
/-- byte k of a slice of bytes -/
theorem Rd.byte {w : World} {B : Nat} {A : Option Addr} {n : Nat} {b : Bs} (h : Rd w B 1 A n (byteCells b)) {k : Nat} (hk : k < n) : ∃ g off, A = some ⟨g, off, none⟩ ∧ g < B ∧ w.cell? ⟨g, off + k, none⟩ = some (.int .u8 (byteN b k : Int)) := by
  obtain ⟨g, off, u, e, hb, hu, hc⟩ := h.at1 hk
  have hl : b.length = n := by have := h.1; rw [byteCells_len] at this; omega
  refine ⟨g, off, e, hb, ?_⟩
  rw [hc, byteN, List.getD_eq_getElem?_getD, List.getElem?_eq_getElem (by omega)]
  rw [byteCells, List.getElem?_map, List.getElem?_eq_getElem (by omega)] at hu
  exact hu.symm
theorem byteN_lt (b : Bs) (i : Nat) : byteN b i < 256 := UInt8.toNat_lt _
/-- the row of a schedule's first words -/
def rowW (l : List W32) : Array Value := (l.map wordV ++ List.replicate (64 - l.length) (wordV 0)).toArray
theorem rowW_size {l : List W32} (h : l.length ≤ 64) : (rowW l).size = 64 := by simp [rowW]; omega
theorem rowW_get {l : List W32} {j : Nat} (h : j < l.length) : (rowW l)[j]? = some (wordV (l.getD j 0)) := by
  rw [rowW, List.getElem?_toArray, List.getElem?_append_left (by rw [List.length_map]; exact h), List.getElem?_map, List.getElem?_eq_getElem h, List.getD_eq_getElem?_getD, List.getElem?_eq_getElem h]
  rfl
theorem rowW_zero {l : List W32} {j : Nat} (h : l.length ≤ j) (h2 : j < 64) : (rowW l)[j]? = some (wordV 0) := by
  rw [rowW, List.getElem?_toArray, List.getElem?_append_right (by rw [List.length_map]; exact h), List.length_map, List.getElem?_replicate, if_pos (by omega)]
theorem rowW_push {l : List W32} {x : W32} (h : l.length < 64) : (rowW l).setIfInBounds l.length (wordV x) = rowW (l ++ [x]) := by
  apply Array.ext_getElem?
  intro j
  have hs := rowW_size (Nat.le_of_lt h)
  by_cases h1 : j = l.length
  · subst h1
    rw [Array.getElem?_setIfInBounds_self_of_lt (by omega), rowW_get (by simp), List.getD_eq_getElem?_getD, List.getElem?_append_right (Nat.le_refl _), Nat.sub_self]
    rfl
  · rw [Array.getElem?_setIfInBounds_ne (fun e => h1 e.symm)]
    by_cases h2 : j < l.length
    · rw [rowW_get h2, rowW_get (by simp; omega), List.getD_eq_getElem?_getD, List.getD_eq_getElem?_getD, List.getElem?_append_left h2]
    · by_cases h3 : j < 64
      · rw [rowW_zero (by omega) h3, rowW_zero (by simp; omega) h3]
      · rw [Array.getElem?_eq_none (by omega), Array.getElem?_eq_none (by rw [rowW_size (by simp; omega)]; omega)]
theorem shl8 (x : W32) {y : Nat} (hy : y < 256) : (x <<< 8) ||| BitVec.ofNat 32 y = BitVec.ofNat 32 (x.toNat * 256 + y) := by
  apply BitVec.eq_of_toNat_eq
  rw [BitVec.toNat_or, BitVec.toNat_shiftLeft, Nat.shiftLeft_eq, BitVec.toNat_ofNat, BitVec.toNat_ofNat, Nat.mod_eq_of_lt (show y < 2 ^ 32 by omega)]
  have e : x.toNat * 2 ^ 8 % 2 ^ 32 = 2 ^ 8 * (x.toNat % 2 ^ 24) := by omega
  rw [e, ← Nat.two_pow_add_eq_or_of_lt (show y < 2 ^ 8 by omega)]
  omega
/-- the first j bytes of word t -/
def partW (b : Bs) (t : Nat) : Nat → Nat
  | 0 => 0
  | j + 1 => partW b t j * 256 + byteN b (4 * t + j)
theorem part_word (b : Bs) (t : Nat) : BitVec.ofNat 32 (partW b t 4) = wordAt b t := by
  unfold wordAt partW partW partW partW partW
  rw [Nat.zero_mul, Nat.zero_add, Nat.add_zero]
theorem part_step (b : Bs) (t j : Nat) : (BitVec.ofNat 32 (partW b t j) <<< 8) ||| BitVec.ofNat 32 (byteN b (4 * t + j)) = BitVec.ofNat 32 (partW b t (j + 1)) := by
  rw [shl8 _ (byteN_lt _ _), partW, BitVec.toNat_ofNat]
  apply BitVec.eq_of_toNat_eq
  rw [BitVec.toNat_ofNat, BitVec.toNat_ofNat]
  omega
theorem byte32 {n : Nat} (h : n < 256) : (n : Int) = ((BitVec.ofNat 32 n).toNat : Int) := by rw [BitVec.toNat_ofNat]; omega
theorem info64w : (Tryz.prog.info? 164).map (fun i => (i.zero, i.size)) = some (some (.agg (rowW [])), 64) := by kernel_rfl
end Go.Proofs.YtddpjahoeldleaaGreatDoor
