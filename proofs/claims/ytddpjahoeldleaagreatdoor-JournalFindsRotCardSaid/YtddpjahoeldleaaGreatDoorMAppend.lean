/- The hash's words and schedule, in both packages. -/
import Derived.Test.YtddpjahoeldleaaGreatDoorMBase
import Derived.Laws.BitsLemmas
import Derived.IntWalk
import Derived.Deep.WholeRow
import Derived.StillTailTactics
import Derived.Deep.RegionLaw
import Derived.Deep.RegionHeld3

namespace Go.Proofs.YtddpjahoeldleaaGreatDoor
open Go.RowKit Go.Lib

theorem nat32 (x : W32) : 0 ≤ (x.toNat : Int) ∧ (x.toNat : Int) < 4294967296 := ⟨Int.natCast_nonneg _, by have := x.isLt; omega⟩
theorem wrap32 (n : Nat) : IntKind.u32.wrap (n : Int) = ((BitVec.ofNat 32 n).toNat : Int) := by
  rw [IntKind.wrap_u32, BitVec.toNat_ofNat]; omega
theorem ofInt32 (x : W32) : BitVec.ofInt 32 (x.toNat : Int) = x := by
  rw [BitVec.ofInt_natCast, BitVec.ofNat_toNat, BitVec.setWidth_eq]
theorem bits32 (op : BinOp) (x y z : W32) (h : (match op with
    | .and => x &&& y
    | .or => x ||| y
    | .xor => x ^^^ y
    | _ => x &&& ~~~y) = z) : bits op .u32 (x.toNat : Int) (y.toNat : Int) = (z.toNat : Int) := by
  unfold bits
  show IntKind.u32.wrap (((match op with
    | .and => BitVec.ofInt 32 (x.toNat : Int) &&& BitVec.ofInt 32 (y.toNat : Int)
    | .or => BitVec.ofInt 32 (x.toNat : Int) ||| BitVec.ofInt 32 (y.toNat : Int)
    | .xor => BitVec.ofInt 32 (x.toNat : Int) ^^^ BitVec.ofInt 32 (y.toNat : Int)
    | _ => BitVec.ofInt 32 (x.toNat : Int) &&& ~~~ BitVec.ofInt 32 (y.toNat : Int)).toNat : Nat) : Int) = _
  rw [ofInt32, ofInt32, wrap32]
  rw [h, BitVec.ofNat_toNat, BitVec.setWidth_eq]
theorem and32 (x y : W32) : bits .and .u32 (x.toNat : Int) (y.toNat : Int) = ((x &&& y).toNat : Int) := bits32 .and x y _ rfl
theorem or32 (x y : W32) : bits .or .u32 (x.toNat : Int) (y.toNat : Int) = ((x ||| y).toNat : Int) := bits32 .or x y _ rfl
theorem xor32 (x y : W32) : bits .xor .u32 (x.toNat : Int) (y.toNat : Int) = ((x ^^^ y).toNat : Int) := bits32 .xor x y _ rfl
theorem add32 (x y : W32) : IntKind.u32.wrap ((x.toNat : Int) + (y.toNat : Int)) = ((x + y).toNat : Int) := by
  rw [← Int.natCast_add, wrap32, BitVec.ofNat_add, BitVec.ofNat_toNat, BitVec.ofNat_toNat, BitVec.setWidth_eq, BitVec.setWidth_eq]
theorem shr32 (x : W32) (n : Nat) : (x.toNat : Int) / 2 ^ n = ((x >>> n).toNat : Int) := by
  rw [BitVec.toNat_ushiftRight, Nat.shiftRight_eq_div_pow, Int.natCast_ediv, Int.natCast_pow]; rfl
theorem shl32 (x : W32) (n : Nat) : IntKind.u32.wrap ((x.toNat : Int) * 2 ^ n) = ((x <<< n).toNat : Int) := by
  rw [show (x.toNat : Int) * 2 ^ n = ((x.toNat * 2 ^ n : Nat) : Int) by rw [Int.natCast_mul, Int.natCast_pow]; rfl, wrap32, BitVec.toNat_ofNat, BitVec.toNat_shiftLeft, Nat.shiftLeft_eq]
theorem shl32m (x : W32) (n : Nat) : (x.toNat : Int) * 2 ^ n % 4294967296 = ((x <<< n).toNat : Int) := by
  rw [← shl32, IntKind.wrap_u32]
theorem add32m (x y : W32) : ((x.toNat : Int) + (y.toNat : Int)) % 4294967296 = ((x + y).toNat : Int) := by
  rw [← add32, IntKind.wrap_u32]
/-- a word -/
abbrev wordV (x : W32) : Value := .int .u32 (x.toNat : Int)

set_option maxHeartbeats 1000000 in
theorem rotr_any (x : W32) (n : Nat) (w : World) (h1 : 0 < n) (h2 : n < 32) : Calls Tryz.prog 109 #[wordV x, .int .i64 (n : Int)] w fun e w' => e = .returned (wordV (rotr x n)) ∧ ∃ k, w' = w.drewN k := by
  have hx := nat32 x
  have h3 : (0 : Int) ≤ (n : Int) := by omega
  have h4 : (n : Int) < 32 := by omega
  go_enter Tryz.func109, Tryz.ntmps109
  go_wp2_with fail
  go_quiet (fail)
  go_wp2_with fail
  go_ret
  exact ⟨by rw [shr32, shl32m, or32]; rfl, nq, rfl⟩
theorem neg_and : ∀ k : Fin 32, 0 < k.val → bits .and .u64 (IntKind.u64.wrap (-(k.val : Int))) 31 = ((32 - k.val : Nat) : Int) := by decide +kernel
set_option maxHeartbeats 1000000 in
theorem rotl_any (x : W32) (n : Nat) (w : World) (h1 : 0 < n) (h2 : n < 32) : Calls Tryz.prog 123 #[wordV x, .int .i64 (-(n : Int))] w fun e w' => e = .returned (wordV (rotr x n)) ∧ w = w' := by
  have hx := nat32 x
  have hn := neg_and ⟨n, h2⟩ h1
  obtain ⟨m, hm⟩ : ∃ m, m = 32 - n := ⟨_, rfl⟩
  have h5 : 32 - m = n := by omega
  rw [show (32 - (⟨n, h2⟩ : Fin 32).val) = m from hm.symm] at hn
  dsimp only at hn
  have h3 : (0 : Int) ≤ (n : Int) := by omega
  have h4 : (n : Int) < 32 := by omega
  have h6 : (0 : Int) ≤ (m : Int) := by omega
  have h7 : (m : Int) < 32 := by omega
  have HM := Lib.hid hm
  have H5 := Lib.hid h5
  clear hm h5
  go_enter Tryz.func123, Tryz.ntmps123
  go_wp2_with fail
  go_ret
  exact ⟨by rw [shr32, shl32m, or32, BitVec.or_comm]; rw [H5.out, HM.out]; rfl, rfl⟩
set_option maxHeartbeats 1000000 in
theorem mix_any (x : W32) (i j k : Nat) (w : World) (i1 : 0 < i) (i2 : i < 32) (j1 : 0 < j) (j2 : j < 32) (k1 : 0 < k) (k2 : k < 32) :
    Calls Tryz.prog 111 #[wordV x, .int .i64 (i : Int), .int .i64 (j : Int), .int .i64 (k : Int)] w fun e w' => e = .returned (wordV (rotr x i ^^^ rotr x j ^^^ rotr x k)) ∧ w = w' := by
  go_enter Tryz.func111, Tryz.ntmps111
  go_wp2_with fail
  refine (rotl_any x i w i1 i2).mono ?_
  rintro e w1 ⟨rfl, rfl⟩
  go_wp2_with fail
  refine (rotl_any x j w j1 j2).mono ?_
  rintro e w1 ⟨rfl, rfl⟩
  go_wp2_with fail
  refine (rotl_any x k w k1 k2).mono ?_
  rintro e w1 ⟨rfl, rfl⟩
  obtain ⟨z, hz⟩ : ∃ z, z = rotr x i ^^^ rotr x j := ⟨_, rfl⟩
  obtain ⟨y, hy⟩ : ∃ y, y = z ^^^ rotr x k := ⟨_, rfl⟩
  have hx := xor32 (rotr x i) (rotr x j)
  have hx2 := xor32 z (rotr x k)
  rw [← hz] at hx
  rw [← hy] at hx2
  have HY := Lib.hid (show y = rotr x i ^^^ rotr x j ^^^ rotr x k by rw [hy, hz])
  clear hz hy
  go_wp2_with fail
  go_ret
  exact ⟨by rw [← HY.out]; rfl, rfl⟩

/-! bytes and rows of words -/
def byteCells (b : Bs) : List Value := b.map fun x => .int .u8 (x.toNat : Int)
theorem byteCells_len (b : Bs) : (byteCells b).length = b.length := by simp [byteCells]
/-- byte k of a slice of bytes -/
theorem Rd.byte {w : World} {B : Nat} {A : Option Addr} {n : Nat} {b : Bs} (h : Rd w B 1 A n (byteCells b)) {k : Nat} (hk : k < n) : ∃ g off, A = some ⟨g, off, none⟩ ∧ g < B ∧ w.cell? ⟨g, off + k, none⟩ = some (.int .u8 (byteN b k : Int)) := by
  obtain ⟨g, off, u, e, hb, hu, hc⟩ := h.at1 hk
  have hl : b.length = n := by have := h.1; rw [byteCells_len] at this; omega
  refine ⟨g, off, e, hb, ?_⟩
  rw [hc, byteN, List.getD_eq_getElem?_getD, List.getElem?_eq_getElem (by omega)]
  rw [byteCells, List.getElem?_map, List.getElem?_eq_getElem (by omega)] at hu
  exact hu.symm
theorem byteN_lt (b : Bs) (i : Nat) : byteN b i < 256 := UInt8.toNat_lt _
/-- the row of a schedule's first words -/
def rowW (l : List W32) : Array Value := (l.map wordV ++ List.replicate (64 - l.length) (wordV 0)).toArray
theorem rowW_size {l : List W32} (h : l.length ≤ 64) : (rowW l).size = 64 := by simp [rowW]; omega
theorem rowW_get {l : List W32} {j : Nat} (h : j < l.length) : (rowW l)[j]? = some (wordV (l.getD j 0)) := by
  rw [rowW, List.getElem?_toArray, List.getElem?_append_left (by rw [List.length_map]; exact h), List.getElem?_map, List.getElem?_eq_getElem h, List.getD_eq_getElem?_getD, List.getElem?_eq_getElem h]
  rfl
theorem rowW_zero {l : List W32} {j : Nat} (h : l.length ≤ j) (h2 : j < 64) : (rowW l)[j]? = some (wordV 0) := by
  rw [rowW, List.getElem?_toArray, List.getElem?_append_right (by rw [List.length_map]; exact h), List.length_map, List.getElem?_replicate, if_pos (by omega)]
theorem rowW_push {l : List W32} {x : W32} (h : l.length < 64) : (rowW l).setIfInBounds l.length (wordV x) = rowW (l ++ [x]) := by
  apply Array.ext_getElem?
  intro j
  have hs := rowW_size (Nat.le_of_lt h)
  by_cases h1 : j = l.length
  · subst h1
    rw [Array.getElem?_setIfInBounds_self_of_lt (by omega), rowW_get (by simp), List.getD_eq_getElem?_getD, List.getElem?_append_right (Nat.le_refl _), Nat.sub_self]
    rfl
  · rw [Array.getElem?_setIfInBounds_ne (fun e => h1 e.symm)]
    by_cases h2 : j < l.length
    · rw [rowW_get h2, rowW_get (by simp; omega), List.getD_eq_getElem?_getD, List.getD_eq_getElem?_getD, List.getElem?_append_left h2]
    · by_cases h3 : j < 64
      · rw [rowW_zero (by omega) h3, rowW_zero (by simp; omega) h3]
      · rw [Array.getElem?_eq_none (by omega), Array.getElem?_eq_none (by rw [rowW_size (by simp; omega)]; omega)]
theorem shl8 (x : W32) {y : Nat} (hy : y < 256) : (x <<< 8) ||| BitVec.ofNat 32 y = BitVec.ofNat 32 (x.toNat * 256 + y) := by
  apply BitVec.eq_of_toNat_eq
  rw [BitVec.toNat_or, BitVec.toNat_shiftLeft, Nat.shiftLeft_eq, BitVec.toNat_ofNat, BitVec.toNat_ofNat, Nat.mod_eq_of_lt (show y < 2 ^ 32 by omega)]
  have e : x.toNat * 2 ^ 8 % 2 ^ 32 = 2 ^ 8 * (x.toNat % 2 ^ 24) := by omega
  rw [e, ← Nat.two_pow_add_eq_or_of_lt (show y < 2 ^ 8 by omega)]
  omega
/-- the first j bytes of word t -/
def partW (b : Bs) (t : Nat) : Nat → Nat
  | 0 => 0
  | j + 1 => partW b t j * 256 + byteN b (4 * t + j)
theorem part_word (b : Bs) (t : Nat) : BitVec.ofNat 32 (partW b t 4) = wordAt b t := by
  unfold wordAt partW partW partW partW partW
  rw [Nat.zero_mul, Nat.zero_add, Nat.add_zero]
theorem part_step (b : Bs) (t j : Nat) : (BitVec.ofNat 32 (partW b t j) <<< 8) ||| BitVec.ofNat 32 (byteN b (4 * t + j)) = BitVec.ofNat 32 (partW b t (j + 1)) := by
  rw [shl8 _ (byteN_lt _ _), partW, BitVec.toNat_ofNat]
  apply BitVec.eq_of_toNat_eq
  rw [BitVec.toNat_ofNat, BitVec.toNat_ofNat]
  omega
theorem byte32 {n : Nat} (h : n < 256) : (n : Int) = ((BitVec.ofNat 32 n).toNat : Int) := by rw [BitVec.toNat_ofNat]; omega
theorem info64w : (Tryz.prog.info? 164).map (fun i => (i.zero, i.size)) = some (some (.agg (rowW [])), 64) := by kernel_rfl
end Go.Proofs.YtddpjahoeldleaaGreatDoor

namespace Go.Proofs.YtddpjahoeldleaaGreatDoor
open Go.RowKit

theorem Blk.load {w : World} {g : Nat} {t : TypeId} {cs : Array Value} (h : Blk w g t cs) {n : Nat} (hn : cs.size = n) : (loadCellsFrom ⟨g, 0, none⟩ 0 n #[]).run Tryz.prog w = .ok cs w := by
  subst hn
  have := run_loadCells_list (P := Tryz.prog) w ⟨g, 0, none⟩ cs.toList (fun j v hv => by
    rw [Addr.add_lit, Nat.zero_add, h.cell]
    simpa using hv)
  simpa [loadCells] using this
theorem Blk.store {w : World} {g : Nat} {t : TypeId} {cs c' : Array Value} (h : Blk w g t cs) (hi : (Tryz.prog.info? t).map (·.size) = some c'.size) (ho : cs.size = c'.size) (h1 : c'.all (·.oneCell') = true) :
    (storeCells ⟨g, 0, none⟩ c'.toList 0).run Tryz.prog w = .ok () (w.setRow g c') := by
  have := run_storeVar_row (P := Tryz.prog) w g t t cs c' h hi ho h1
  cases hq : Tryz.prog.info? t with
  | none => simp [hq] at hi
  | some i =>
    have hs : c'.size = i.size := by simp [hq] at hi; omega
    simpa [storeVar, sizeOf, typeInfo, hq, Value.cells, hs] using this
theorem Blk.put {w : World} {g : Nat} {t : TypeId} {cs : Array Value} (h : Blk w g t cs) (c' : Array Value) : Blk (w.setRow g c') g t c' := setRow_heap w g cs c' t _ h
theorem below_row {B : Nat} {a w : World} (h : Below B a w) {g : Nat} (hg : B ≤ g) (c' : Array Value) : Below B a (w.setRow g c') :=
  h.trans ⟨rfl, rfl, rfl, by simp, fun k hk => setRow_other w g k c' (by omega)⟩
theorem Blk.other_row {w : World} {g g' : Nat} {t : TypeId} {cs : Array Value} (h : Blk w g t cs) (hg : g ≠ g') (c' : Array Value) : Blk (w.setRow g' c') g t cs := (setRow_other w g' g c' hg).trans h
theorem Blk.other {w : World} {g : Nat} {t : TypeId} {cs : Array Value} (h : Blk w g t cs) {p : Addr} (hp : p.block ≠ g) (u : Value) : Blk (w.setCell p u) g t cs := (Below.heap_setCell _ _ _ _ (fun e => hp e.symm)).trans h
theorem set_same {cs : Array Value} {i : Nat} {u : Value} (h : cs[i]? = some u) : cs.setIfInBounds i u = cs := by
  apply Array.ext_getElem?
  intro j
  have hi := (Array.getElem?_eq_some_iff.1 h).1
  by_cases e : j = i
  · subst e; rw [Array.getElem?_setIfInBounds_self_of_lt hi, h]
  · rw [Array.getElem?_setIfInBounds_ne (fun e' => e e'.symm)]
theorem set_set {cs : Array Value} {i : Nat} {u v : Value} : (cs.setIfInBounds i u).setIfInBounds i v = cs.setIfInBounds i v := by
  apply Array.ext_getElem?
  intro j
  by_cases e : j = i
  · subst e
    by_cases hi : j < cs.size
    · rw [Array.getElem?_setIfInBounds_self_of_lt (by simpa using hi), Array.getElem?_setIfInBounds_self_of_lt hi]
    · rw [Array.getElem?_eq_none (by simp; omega), Array.getElem?_eq_none (by simp; omega)]
  · rw [Array.getElem?_setIfInBounds_ne (fun e' => e e'.symm), Array.getElem?_setIfInBounds_ne (fun e' => e e'.symm), Array.getElem?_setIfInBounds_ne (fun e' => e e'.symm)]
theorem row_one (l : List W32) : (rowW l).all (·.oneCell') = true := by
  rw [Array.all_eq_true_iff_forall_mem]
  intro v hv
  rw [rowW] at hv
  simp only [List.mem_toArray, List.mem_append, List.mem_map, List.mem_replicate] at hv
  rcases hv with ⟨x, _, rfl⟩ | ⟨_, rfl⟩ <;> rfl
/-- the row while word t is being made -/
def rowP (b : Bs) (t j : Nat) : Array Value := (rowW (schedL b t)).setIfInBounds t (wordV (BitVec.ofNat 32 (partW b t j)))
theorem rowP_zero (b : Bs) {t : Nat} (ht : t < 64) : rowP b t 0 = rowW (schedL b t) := set_same (rowW_zero (by rw [sched_len]; exact Nat.le_refl _) ht)
theorem rowP_get (b : Bs) {t : Nat} (ht : t < 64) (j : Nat) : (rowP b t j)[t]? = some (wordV (BitVec.ofNat 32 (partW b t j))) := by
  rw [rowP, Array.getElem?_setIfInBounds_self_of_lt (by rw [rowW_size (by rw [sched_len]; omega)]; exact ht)]
theorem rowP_done (b : Bs) {t : Nat} (ht : t < 16) : rowP b t 4 = rowW (schedL b (t + 1)) := by
  rw [rowP, part_word, schedL, schedS, nextW, if_pos ht]
  have := rowW_push (l := schedL b t) (x := wordAt b t) (by rw [sched_len]; omega)
  rw [sched_len] at this
  exact this

set_option maxHeartbeats 4000000 in
set_option maxRecDepth 100000 in
theorem schedule_any (A : Option Addr) (c : Nat) (b : Bs) (w : World) (h : Rd w w.heap.size 1 A 64 (byteCells b)) (hc : 64 ≤ c) (hc2 : c ≤ 1000000) :
    Calls Tryz.prog 110 #[.slice A 64 c] w (RetB (.agg (rowW (schedL b 64))) w) := by
  obtain ⟨hz, hsz⟩ := zero_of_info info64w
  have H := Lib.hid h
  obtain ⟨Z, hZ⟩ : ∃ Z, Z = rowW [] := ⟨_, rfl⟩
  have HZ := Lib.hid hZ
  have hzw := hz w
  rw [← hZ] at hz hzw
  obtain ⟨ga, oa, rfl, _, _⟩ := h.byte (k := 0) (by omega)
  clear h hZ
  go_enter Tryz.func110, Tryz.ntmps110
  go_wp2_with fail
  obtain ⟨g, hg⟩ : ∃ g, g = w.heap.size := ⟨_, rfl⟩
  have B0 := Blk.new w 164 Z
  have B1 := Blk.new (w.alloc (.cells Z 164)) 164 Z
  rw [show (w.alloc (.cells Z 164)).heap.size = g + 1 by rw [hg]; simp] at B1
  have B0' := B0.below (below_new (w.alloc (.cells Z 164)) (.cells Z 164)) B0.lt
  rw [← hg] at B0'
  have BB := Lib.hid ((below_new w (.cells Z 164)).alloc (by simp) (.cells Z 164))
  have HB0 := Lib.hid B0'
  have HB1 := Lib.hid (show Blk ((w.alloc (.cells Z 164)).alloc (.cells Z 164)) (g + 1) 164 (rowW (schedL b 0)) by rw [show rowW (schedL b 0) = Z from HZ.out.symm]; exact B1)
  rw [← hg]
  have HG := Lib.hid hg
  clear B0 B1 B0' hg
  go_loopw [11] (fun x wr => ∃ t : Nat, t ≤ 64 ∧ x = .int .i64 t ∧ Hid (Blk wr g 164 Z) ∧ Hid (Blk wr (g + 1) 164 (rowW (schedL b t))) ∧ Hid (Below w.heap.size w wr)) (fun x _ => 64 - (intOf x).toNat)
  case atStart => exact ⟨0, by omega, rfl, HB0, HB1, BB⟩
  case round =>
    obtain ⟨t, ht, rfl, M0, M1, B⟩ := hrel
    by_cases hlt : t < 64
    · have j0 : (0 : Int) ≤ (t : Int) := by omega
      have j1 : (t : Int) < 64 := by omega
      by_cases h16 : t < 16
      · have j2 : (t : Int) < 16 := by omega
        have M1 := Lib.hid (show Blk wr (g + 1) 164 (rowP b t 0) by rw [rowP_zero b hlt]; exact M1.out)
        obtain ⟨wo, rfl⟩ : ∃ wo, wo = wr := ⟨_, rfl⟩
        go_wp2_with fail
        rw [show 4 * t + 4 - 4 * t = 4 by omega]
        go_loopw [24] (fun x wq => ∃ j : Nat, j ≤ 4 ∧ x = .int .i64 j ∧ Hid (Blk wq g 164 Z) ∧ Hid (Blk wq (g + 1) 164 (rowP b t j)) ∧ Hid (Below w.heap.size w wq)) (fun x _ => 4 - (intOf x).toNat)
        case atStart => exact ⟨0, by omega, rfl, M0, M1, B⟩
        case round =>
          obtain ⟨j, hj, rfl, N0, N1, B1⟩ := hrel
          by_cases hjl : j < 4
          · have i0 : (0 : Int) ≤ (j : Int) := by omega
            have i1 : (j : Int) < 4 := by omega
            obtain ⟨ga', oa', he, hga, x1⟩ := (H.out.go B1.out).byte (k := 4 * t + j) (by omega)
            injection he with he
            injection he with he1 he2
            subst he1 he2
            rw [← Nat.add_assoc] at x1
            have c1 : wr.cell? ⟨g + 1, t, none⟩ = some (wordV (BitVec.ofNat 32 (partW b t j))) := (N1.out.cell t).trans (rowP_get b hlt j)
            have f1 := N1.out.frozen t
            obtain ⟨y, hy⟩ : ∃ y, y = byteN b (4 * t + j) := ⟨_, rfl⟩
            have hy2 : y < 256 := by rw [hy]; exact byteN_lt _ _
            obtain ⟨p, hp⟩ : ∃ p, p = BitVec.ofNat 32 (partW b t j) := ⟨_, rfl⟩
            obtain ⟨q, hq⟩ : ∃ q, q = BitVec.ofNat 32 (partW b t (j + 1)) := ⟨_, rfl⟩
            obtain ⟨s, hs⟩ : ∃ s : W32, s = p <<< 8 := ⟨_, rfl⟩
            obtain ⟨v, hv⟩ : ∃ v : W32, v = BitVec.ofNat 32 y := ⟨_, rfl⟩
            have e1 : (p.toNat : Int) * 256 % 4294967296 = (s.toNat : Int) := by rw [hs, ← shl32m, show (2 : Int) ^ 8 = 256 from rfl]
            have e2 : bits .or .u32 (s.toNat : Int) (v.toNat : Int) = (q.toNat : Int) := by
              rw [or32, hs, hv, hp, hq, hy, part_step]
            rw [show (v.toNat : Int) = (y : Int) by rw [hv]; exact (byte32 hy2).symm] at e2
            rw [← hy] at x1
            rw [← hp] at c1
            have y0 : (0 : Int) ≤ (y : Int) := by omega
            have y1 : (y : Int) < 256 := by omega
            have HQ := Lib.hid hq
            have N2 := Lib.hid (show Blk (wr.setCell ⟨g + 1, t, none⟩ (wordV q)) (g + 1) 164 (rowP b t (j + 1)) by
              have := N1.out.set_ t (wordV q)
              rw [rowP, set_set] at this
              rw [rowP, ← hq]
              exact this)
            have N3 := Lib.hid (N0.out.other (p := ⟨g + 1, t, none⟩) (Nat.succ_ne_self g) (wordV q))
            have B2 := Lib.hid (B1.out.setCell (p := ⟨g + 1, t, none⟩) (by rw [← HG.out]; exact Nat.le_succ g) (wordV q))
            clear hp hq hs hv hy
            go_wp2_with fail
            go_roundw
            case rel => exact ⟨j + 1, by omega, by go_num, N3, N2, B2⟩
            case measure => simp [intOf]; omega
          · obtain rfl : j = 4 := by omega
            have N2 := Lib.hid (show Blk wr (g + 1) 164 (rowW (schedL b (t + 1))) by rw [← rowP_done b h16]; exact N1.out)
            go_wp2_with fail
            go_roundw
            case rel => exact ⟨t + 1, by omega, by go_num, N0, N2, B1⟩
            case measure => simp [intOf]; omega
      · have j2 : ¬ (t : Int) < 16 := by omega
        obtain ⟨l, hl⟩ : ∃ l, l = schedL b t := ⟨_, rfl⟩
        have hll : l.length = t := by rw [hl, sched_len]
        have HST := Lib.hid (show schedL b (t + 1) = l ++ [l.getD (t - 16) 0 + smS0 (l.getD (t - 15) 0) + l.getD (t - 7) 0 + smS1 (l.getD (t - 2) 0)] by rw [hl, schedL, schedS, nextW, if_neg h16])
        rw [← hl] at M1
        have r15 := (M1.out.cell (t - 15)).trans (rowW_get (l := l) (j := t - 15) (by omega))
        have r2 := (M1.out.cell (t - 2)).trans (rowW_get (l := l) (j := t - 2) (by omega))
        have r16 := (M1.out.cell (t - 16)).trans (rowW_get (l := l) (j := t - 16) (by omega))
        have r7 := (M1.out.cell (t - 7)).trans (rowW_get (l := l) (j := t - 7) (by omega))
        generalize l.getD (t - 15) 0 = p at *
        generalize l.getD (t - 2) 0 = q at *
        generalize l.getD (t - 16) 0 = r at *
        generalize l.getD (t - 7) 0 = u at *
        have HLL := Lib.hid hll
        have HL := Lib.hid hl
        clear hl hll
        have k15 : (0 : Int) ≤ (t : Int) - 15 := by omega
        have k2 : (0 : Int) ≤ (t : Int) - 2 := by omega
        have k16 : (0 : Int) ≤ (t : Int) - 16 := by omega
        have k7 : (0 : Int) ≤ (t : Int) - 7 := by omega
        have t7 : (7 : Int) ≤ (t : Int) := by omega
        have t16 : (16 : Int) ≤ (t : Int) := by omega
        obtain ⟨pa, hpa⟩ : ∃ z, z = rotr p 7 ^^^ rotr p 18 := ⟨_, rfl⟩
        obtain ⟨pb, hpb⟩ : ∃ z, z = p >>> 3 := ⟨_, rfl⟩
        obtain ⟨pc, hpc⟩ : ∃ z, z = pa ^^^ pb := ⟨_, rfl⟩
        obtain ⟨qa, hqa⟩ : ∃ z, z = rotr q 17 ^^^ rotr q 19 := ⟨_, rfl⟩
        obtain ⟨qb, hqb⟩ : ∃ z, z = q >>> 10 := ⟨_, rfl⟩
        obtain ⟨qc, hqc⟩ : ∃ z, z = qa ^^^ qb := ⟨_, rfl⟩
        obtain ⟨sa, hsa⟩ : ∃ z, z = r + pc := ⟨_, rfl⟩
        obtain ⟨sb, hsb⟩ : ∃ z, z = sa + u := ⟨_, rfl⟩
        obtain ⟨sc, hsc⟩ : ∃ z, z = sb + qc := ⟨_, rfl⟩
        have e1 := xor32 (rotr p 7) (rotr p 18)
        rw [← hpa] at e1
        have e2 : (p.toNat : Int) / 8 = (pb.toNat : Int) := by rw [hpb, ← shr32]; rfl
        have e3 := xor32 pa pb
        rw [← hpc] at e3
        have e4 := xor32 (rotr q 17) (rotr q 19)
        rw [← hqa] at e4
        have e5 : (q.toNat : Int) / 1024 = (qb.toNat : Int) := by rw [hqb, ← shr32]; rfl
        have e6 := xor32 qa qb
        rw [← hqc] at e6
        have e7 := add32 r pc
        rw [← hsa] at e7
        have e8 := add32 sa u
        rw [← hsb] at e8
        have e9 := add32 sb qc
        rw [← hsc] at e9
        have e7' := add32m r pc
        rw [← hsa] at e7'
        have e8' := add32m sa u
        rw [← hsb] at e8'
        have e9' := add32m sb qc
        rw [← hsc] at e9'
        have HST2 := Lib.hid (show schedL b (t + 1) = l ++ [sc] by rw [HST.out, hsc, hsb, hsa, hpc, hpa, hpb, hqc, hqa, hqb]; rfl)
        have N2 := Lib.hid (show Blk (wr.setCell ⟨g + 1, t, none⟩ (wordV sc)) (g + 1) 164 (rowW (schedL b (t + 1))) by
          have := M1.out.set_ t (wordV sc)
          rw [HST2.out, ← rowW_push (by rw [HLL.out]; exact hlt), HLL.out]
          exact this)
        have N3 := Lib.hid (M0.out.other (p := ⟨g + 1, t, none⟩) (Nat.succ_ne_self g) (wordV sc))
        have B2 := Lib.hid (B.out.setCell (p := ⟨g + 1, t, none⟩) (by rw [← HG.out]; exact Nat.le_succ g) (wordV sc))
        have c1 : wr.cell? ⟨g + 1, t, none⟩ = some (wordV 0) := (M1.out.cell t).trans (rowW_zero (by rw [HLL.out]; exact Nat.le_refl _) hlt)
        have f1 := M1.out.frozen t
        clear hpa hpb hpc hqa hqb hqc hsa hsb hsc
        go_wp2_with fail
        go_quiet (fail)
        go_wp2_with fail
        refine (rotl_any p 7 _ (by omega) (by omega)).mono ?_
        rintro e w1 ⟨rfl, rfl⟩
        go_wp2_with fail
        refine (rotl_any p 18 _ (by omega) (by omega)).mono ?_
        rintro e w1 ⟨rfl, rfl⟩
        go_wp2_with fail
        refine (rotl_any q 17 _ (by omega) (by omega)).mono ?_
        rintro e w1 ⟨rfl, rfl⟩
        go_wp2_with fail
        refine (rotl_any q 19 _ (by omega) (by omega)).mono ?_
        rintro e w1 ⟨rfl, rfl⟩
        go_wp2_with fail
        obtain ⟨w2, hw2⟩ : ∃ w2, w2 = wr.drewN nq := ⟨_, rfl⟩
        rw [← hw2]
        have r16 : w2.cell? ⟨g + 1, t - 16, none⟩ = some (wordV r) := by rw [hw2]; exact r16
        have r7 : w2.cell? ⟨g + 1, t - 7, none⟩ = some (wordV u) := by rw [hw2]; exact r7
        have c1 : w2.cell? ⟨g + 1, t, none⟩ = some (wordV 0) := by rw [hw2]; exact c1
        have f1 : w2.frozen? ⟨g + 1, t, none⟩ = false := by rw [hw2]; exact f1
        have N2 := Lib.hid (show Blk (w2.setCell ⟨g + 1, t, none⟩ (wordV sc)) (g + 1) 164 (rowW (schedL b (t + 1))) by rw [hw2]; exact N2.out)
        have N3 := Lib.hid (show Blk (w2.setCell ⟨g + 1, t, none⟩ (wordV sc)) g 164 Z by rw [hw2]; exact N3.out)
        have B2 := Lib.hid (show Below w.heap.size w (w2.setCell ⟨g + 1, t, none⟩ (wordV sc)) by rw [hw2]; exact ⟨B2.out.os, B2.out.tape, B2.out.output, B2.out.size, B2.out.block⟩)
        clear hw2
        have m16 : IntKind.i64.wrap ((t : Int) - 16) = (t : Int) - 16 := IntWalk.i64_in _ (by omega)
        have m7 : IntKind.i64.wrap ((t : Int) - 7) = (t : Int) - 7 := IntWalk.i64_in _ (by omega)
        have n16 : ((t : Int) - 16).toNat = t - 16 := by omega
        have n7 : ((t : Int) - 7).toNat = t - 7 := by omega
        have q16 : (t : Int) - 16 < 64 := by omega
        have q7 : (t : Int) - 7 < 64 := by omega
        go_region_law (fail)
        all_goals
          go_wp2_with fail
          go_roundw
          case rel => exact ⟨t + 1, by omega, by go_num, Lib.hid (N3.out.drewN 1), Lib.hid (N2.out.drewN 1), Lib.hid B2.out.drew⟩
          case measure => simp [intOf]; omega
    · obtain rfl : t = 64 := by omega
      obtain ⟨R, hR⟩ : ∃ R, R = rowW (schedL b 64) := ⟨_, rfl⟩
      have hRs : R.size = 64 := by rw [hR]; exact rowW_size (by rw [sched_len]; exact Nat.le_refl _)
      rw [← hR] at M1
      have hi : (Tryz.prog.info? 164).map (·.size) = some R.size := by rw [hRs]; exact hsz
      have hZs : Z.size = R.size := by rw [hRs, HZ.out]; rfl
      have hone : R.all (·.oneCell') = true := by rw [hR]; exact row_one _
      have HR := Lib.hid hR
      have HB := Lib.hid (below_row B.out (g := g) (by rw [← HG.out]; exact Nat.le_refl _) R)
      have HI := Lib.hid hi
      have HZs := Lib.hid hZs
      have HO := Lib.hid hone
      clear hR hRs hsz hi hZs hone hz hzw
      have HM1 := Lib.hid (show wr.heap[g + 1]? = some (.cells R 164 (0, 0)) from M1.out)
      have HM0 := Lib.hid (show wr.heap[g]? = some (.cells Z 164 (0, 0)) from M0.out)
      go_wp2_with (first | (refine wpList_load_row rfl 164 _ rfl (g + 1) rfl 164 R (0, 0) _ HM1.out Tryz.underlying164 rfl HI.out ?_) | (refine wpList_store_row rfl 164 _ _ rfl g R rfl rfl 164 Z HM0.out HI.out HZs.out HO.out ?_))
      rw [← HR.out]
      refine bodyPost_ret (v := .agg R) ?_ rfl ⟨rfl, HB.out⟩
      exact results_cell_row rfl _ _ g _ _ _ _ rfl (M0.out.put R) Tryz.underlying164 rfl HI.out
end Go.Proofs.YtddpjahoeldleaaGreatDoor

namespace Go.Proofs.YtddpjahoeldleaaGreatDoor
open Go.RowKit

theorem rotr_2 (x : W32) (w : World) : Calls Tryz.prog 109 #[wordV x, .int .i64 2] w fun e w' => e = .returned (wordV (rotr x 2)) ∧ ∃ k, w' = w.drewN k := rotr_any x 2 w (by omega) (by omega)
theorem rotr_6 (x : W32) (w : World) : Calls Tryz.prog 109 #[wordV x, .int .i64 6] w fun e w' => e = .returned (wordV (rotr x 6)) ∧ ∃ k, w' = w.drewN k := rotr_any x 6 w (by omega) (by omega)
theorem rotr_7 (x : W32) (w : World) : Calls Tryz.prog 109 #[wordV x, .int .i64 7] w fun e w' => e = .returned (wordV (rotr x 7)) ∧ ∃ k, w' = w.drewN k := rotr_any x 7 w (by omega) (by omega)
theorem rotr_11 (x : W32) (w : World) : Calls Tryz.prog 109 #[wordV x, .int .i64 11] w fun e w' => e = .returned (wordV (rotr x 11)) ∧ ∃ k, w' = w.drewN k := rotr_any x 11 w (by omega) (by omega)
theorem rotr_13 (x : W32) (w : World) : Calls Tryz.prog 109 #[wordV x, .int .i64 13] w fun e w' => e = .returned (wordV (rotr x 13)) ∧ ∃ k, w' = w.drewN k := rotr_any x 13 w (by omega) (by omega)
theorem rotr_17 (x : W32) (w : World) : Calls Tryz.prog 109 #[wordV x, .int .i64 17] w fun e w' => e = .returned (wordV (rotr x 17)) ∧ ∃ k, w' = w.drewN k := rotr_any x 17 w (by omega) (by omega)
theorem rotr_18 (x : W32) (w : World) : Calls Tryz.prog 109 #[wordV x, .int .i64 18] w fun e w' => e = .returned (wordV (rotr x 18)) ∧ ∃ k, w' = w.drewN k := rotr_any x 18 w (by omega) (by omega)
theorem rotr_19 (x : W32) (w : World) : Calls Tryz.prog 109 #[wordV x, .int .i64 19] w fun e w' => e = .returned (wordV (rotr x 19)) ∧ ∃ k, w' = w.drewN k := rotr_any x 19 w (by omega) (by omega)
theorem rotr_22 (x : W32) (w : World) : Calls Tryz.prog 109 #[wordV x, .int .i64 22] w fun e w' => e = .returned (wordV (rotr x 22)) ∧ ∃ k, w' = w.drewN k := rotr_any x 22 w (by omega) (by omega)
theorem rotr_25 (x : W32) (w : World) : Calls Tryz.prog 109 #[wordV x, .int .i64 25] w fun e w' => e = .returned (wordV (rotr x 25)) ∧ ∃ k, w' = w.drewN k := rotr_any x 25 w (by omega) (by omega)
theorem or_add {a b k : Nat} (h : a % 2 ^ k = 0) (hb : b < 2 ^ k) (hk : k ≤ 32) (ha : a < 2 ^ 32) : BitVec.ofNat 32 a ||| BitVec.ofNat 32 b = BitVec.ofNat 32 (a + b) := by
  have hb2 : b < 2 ^ 32 := Nat.lt_of_lt_of_le hb (Nat.pow_le_pow_right (by decide) hk)
  apply BitVec.eq_of_toNat_eq
  rw [BitVec.toNat_or, BitVec.toNat_ofNat, BitVec.toNat_ofNat, BitVec.toNat_ofNat, Nat.mod_eq_of_lt ha, Nat.mod_eq_of_lt hb2]
  have e : a = 2 ^ k * (a / 2 ^ k) := by have := Nat.div_add_mod a (2 ^ k); omega
  have hle : a + b < 2 ^ 32 := by
    have h1 : a / 2 ^ k < 2 ^ (32 - k) := by
      rw [Nat.div_lt_iff_lt_mul (Nat.two_pow_pos k), ← Nat.pow_add, show 32 - k + k = 32 by omega]; exact ha
    have h2 : 2 ^ k * (a / 2 ^ k) + 2 ^ k ≤ 2 ^ k * 2 ^ (32 - k) := by
      have := Nat.mul_le_mul_left (2 ^ k) (show a / 2 ^ k + 1 ≤ 2 ^ (32 - k) from h1)
      rwa [Nat.mul_add, Nat.mul_one] at this
    rw [← Nat.pow_add, show k + (32 - k) = 32 by omega] at h2
    omega
  rw [Nat.mod_eq_of_lt hle]
  rw [e, Nat.two_pow_add_eq_or_of_lt hb (a / 2 ^ k)]
theorem ofN {m : Nat} (h : m < 4294967296) : ((BitVec.ofNat 32 m).toNat : Int) = (m : Int) := by rw [BitVec.toNat_ofNat, Nat.mod_eq_of_lt h]
theorem wrapN {m : Nat} (h : m < 4294967296) : IntKind.u32.wrap (m : Int) = (m : Int) := by rw [wrap32, ofN h]
theorem shlN {y : Nat} (c : Nat) (C : Int) (hC : C = (c : Int)) : (y : Int) * C % 4294967296 = ((BitVec.ofNat 32 (y * c)).toNat : Int) := by
  rw [hC, ← Int.natCast_mul, BitVec.toNat_ofNat]; omega

set_option maxHeartbeats 4000000 in
set_option maxRecDepth 100000 in
theorem words_any (A : Option Addr) (c : Nat) (b : Bs) (w : World) (h : Rd w w.heap.size 1 A 64 (byteCells b)) :
    Calls Tryz.prog 108 #[.slice A 64 c] w (RetB (.agg (rowW (schedL b 64))) w) := by
  obtain ⟨hz, hsz⟩ := zero_of_info info64w
  have H := Lib.hid h
  obtain ⟨Z, hZ⟩ : ∃ Z, Z = rowW [] := ⟨_, rfl⟩
  have HZ := Lib.hid hZ
  have hzw := hz w
  rw [← hZ] at hz hzw
  obtain ⟨ga, oa, rfl, hga, _⟩ := h.byte (k := 0) (by omega)
  clear h hZ
  go_enter Tryz.func108, Tryz.ntmps108
  go_wp2_with fail
  obtain ⟨g, hg⟩ : ∃ g, g = w.heap.size := ⟨_, rfl⟩
  have B0 := Blk.new w 164 Z
  have B1 := Blk.new (w.alloc (.cells Z 164)) 164 Z
  rw [show (w.alloc (.cells Z 164)).heap.size = g + 1 by rw [hg]; simp] at B1
  have B0' := B0.below (below_new (w.alloc (.cells Z 164)) (.cells Z 164)) B0.lt
  rw [← hg] at B0'
  have BB := Lib.hid ((below_new w (.cells Z 164)).alloc (by simp) (.cells Z 164))
  have HB0 := Lib.hid B0'
  have HB1 := Lib.hid (show Blk ((w.alloc (.cells Z 164)).alloc (.cells Z 164)) (g + 1) 164 (rowW (schedL b 0)) by rw [show rowW (schedL b 0) = Z from HZ.out.symm]; exact B1)
  rw [← hg]
  have HG := Lib.hid hg
  clear B0 B1 B0' hg
  go_loopw [4] (fun x wr => ∃ t : Nat, t ≤ 16 ∧ x = .int .i64 t ∧ Hid (Blk wr g 164 Z) ∧ Hid (Blk wr (g + 1) 164 (rowW (schedL b t))) ∧ Hid (Below w.heap.size w wr)) (fun x _ => 16 - (intOf x).toNat)
  case atStart => exact ⟨0, by omega, rfl, HB0, HB1, BB⟩
  case round =>
    obtain ⟨t, ht, rfl, M0, M1, B⟩ := hrel
    by_cases hlt : t < 16
    · have j0 : (0 : Int) ≤ (t : Int) := by omega
      have j1 : (t : Int) < 16 := by omega
      have j2 : (t : Int) < 64 := by omega
      have byte := fun (k : Nat) (hk : k < 4) => (H.out.go B.out).byte (k := 4 * t + k) (by omega)
      have fact : ∀ k, k < 4 → wr.cell? ⟨ga, oa + (4 * t + k), none⟩ = some (.int .u8 (byteN b (4 * t + k) : Int)) := fun k hk => by
        obtain ⟨ga', oa', he, _, x⟩ := byte k hk
        injection he with he
        injection he with he1 he2
        rw [he1, he2]; exact x
      have x0 := fact 0 (by omega)
      have x1 := fact 1 (by omega)
      have x2 := fact 2 (by omega)
      have x3 := fact 3 (by omega)
      rw [Nat.add_zero] at x0
      have y0 := byteN_lt b (4 * t)
      have y1 := byteN_lt b (4 * t + 1)
      have y2 := byteN_lt b (4 * t + 2)
      have y3 := byteN_lt b (4 * t + 3)
      obtain ⟨q, hq⟩ : ∃ q, q = wordAt b t := ⟨_, rfl⟩
      have hq2 := hq
      rw [wordAt] at hq2
      clear fact byte
      generalize byteN b (4 * t) = n0 at x0 y0 hq2
      generalize byteN b (4 * t + 1) = n1 at x1 y1 hq2
      generalize byteN b (4 * t + 2) = n2 at x2 y2 hq2
      generalize byteN b (4 * t + 3) = n3 at x3 y3 hq2
      have e0 := (ofN (m := n0 * 16777216) (by omega)).symm
      have e1 := (ofN (m := n1 * 65536) (by omega)).symm
      have e2 := (ofN (m := n2 * 256) (by omega)).symm
      have e3 := byte32 y3
      have o1 := or32 (BitVec.ofNat 32 (n0 * 16777216)) (BitVec.ofNat 32 (n1 * 65536))
      rw [or_add (k := 24) (by omega) (by omega) (by omega) (by omega), ← e0, ← e1] at o1
      have o2 := or32 (BitVec.ofNat 32 (n0 * 16777216 + n1 * 65536)) (BitVec.ofNat 32 (n2 * 256))
      rw [or_add (k := 16) (by omega) (by omega) (by omega) (by omega), ← e2] at o2
      have o3 := or32 (BitVec.ofNat 32 (n0 * 16777216 + n1 * 65536 + n2 * 256)) (BitVec.ofNat 32 n3)
      rw [or_add (k := 8) (by omega) (by omega) (by omega) (by omega), show n0 * 16777216 + n1 * 65536 + n2 * 256 + n3 = ((n0 * 256 + n1) * 256 + n2) * 256 + n3 by omega, ← hq2, ← e3] at o3
      obtain ⟨w3, hw3⟩ : ∃ z, z = BitVec.ofNat 32 (n0 * 16777216 + n1 * 65536) := ⟨_, rfl⟩
      rw [← hw3] at o1 o2
      clear hw3
      obtain ⟨w4, hw4⟩ : ∃ z, z = BitVec.ofNat 32 (n0 * 16777216 + n1 * 65536 + n2 * 256) := ⟨_, rfl⟩
      rw [← hw4] at o2 o3
      clear hw4 e0 e1 e2
      have HV := Lib.hid (show bits .or .u32 (bits .or .u32 (bits .or .u32 (IntKind.u32.wrap (IntKind.u32.wrap (n0 : Int) * 16777216)) (IntKind.u32.wrap (IntKind.u32.wrap (n1 : Int) * 65536))) (IntKind.u32.wrap (IntKind.u32.wrap (n2 : Int) * 256))) (IntKind.u32.wrap (n3 : Int)) = (q.toNat : Int) by
        rw [wrapN (m := n0) (by omega), wrapN (m := n1) (by omega), wrapN (m := n2) (by omega), wrapN (m := n3) (by omega)]
        rw [show (n0 : Int) * 16777216 = ((n0 * 16777216 : Nat) : Int) from (Int.natCast_mul n0 16777216).symm, show (n1 : Int) * 65536 = ((n1 * 65536 : Nat) : Int) from (Int.natCast_mul n1 65536).symm, show (n2 : Int) * 256 = ((n2 * 256 : Nat) : Int) from (Int.natCast_mul n2 256).symm]
        rw [wrapN (m := n0 * 16777216) (by omega), wrapN (m := n1 * 65536) (by omega), wrapN (m := n2 * 256) (by omega), o1, o2, o3])
      clear o1 o2 o3
      have ne : ga ≠ g + 1 := by have := HG.out; omega
      have kp : ∀ (k : Nat) (v : Value), (wr.setCell ⟨g + 1, t, none⟩ v).cell? ⟨ga, k, none⟩ = wr.cell? ⟨ga, k, none⟩ := fun k v => World.cell?_setCell_other _ _ _ _ (fun h => ne (by injection h with h; exact h.symm))
      have k0 := fun v => (kp _ v).trans x0
      have k1 := fun v => (kp _ v).trans x1
      have k2 := fun v => (kp _ v).trans x2
      have k3 := fun v => (kp _ v).trans x3
      clear kp
      have z0 : (0 : Int) ≤ (n0 : Int) ∧ (n0 : Int) < 256 := by omega
      have z1 : (0 : Int) ≤ (n1 : Int) ∧ (n1 : Int) < 256 := by omega
      have z2 : (0 : Int) ≤ (n2 : Int) ∧ (n2 : Int) < 256 := by omega
      have z3 : (0 : Int) ≤ (n3 : Int) ∧ (n3 : Int) < 256 := by omega
      have c1 : wr.cell? ⟨g + 1, t, none⟩ = some (wordV 0) := (M1.out.cell t).trans (rowW_zero (by rw [sched_len]; exact Nat.le_refl _) (by omega))
      have f1 := M1.out.frozen t
      have N2 := Lib.hid (show Blk (wr.setCell ⟨g + 1, t, none⟩ (wordV q)) (g + 1) 164 (rowW (schedL b (t + 1))) by
        have := M1.out.set_ t (wordV q)
        rw [schedL, schedS, nextW, if_pos hlt, ← hq, ← rowW_push (by rw [sched_len]; omega), sched_len]
        exact this)
      have N3 := Lib.hid (M0.out.other (p := ⟨g + 1, t, none⟩) (Nat.succ_ne_self g) (wordV q))
      have B2 := Lib.hid (B.out.setCell (p := ⟨g + 1, t, none⟩) (by rw [← HG.out]; exact Nat.le_succ g) (wordV q))
      clear hq hq2 y0 y1 y2 y3 e3
      go_wp2_with fail
      have m0 : IntKind.i64.wrap (4 * (t : Int)) = 4 * (t : Int) := IntWalk.i64_in _ (by omega)
      have m1 : IntKind.i64.wrap (4 * (t : Int) + 1) = 4 * (t : Int) + 1 := IntWalk.i64_in _ (by omega)
      have m2 : IntKind.i64.wrap (4 * (t : Int) + 2) = 4 * (t : Int) + 2 := IntWalk.i64_in _ (by omega)
      have m3 : IntKind.i64.wrap (4 * (t : Int) + 3) = 4 * (t : Int) + 3 := IntWalk.i64_in _ (by omega)
      have t0 : (4 * (t : Int)).toNat = 4 * t := by omega
      have t1 : (4 * (t : Int) + 1).toNat = 4 * t + 1 := by omega
      have t2 : (4 * (t : Int) + 2).toNat = 4 * t + 2 := by omega
      have t3 : (4 * (t : Int) + 3).toNat = 4 * t + 3 := by omega
      have p0 : (0 : Int) ≤ 4 * (t : Int) ∧ 4 * (t : Int) < 64 := by omega
      have p1 : (0 : Int) ≤ 4 * (t : Int) + 1 ∧ 4 * (t : Int) + 1 < 64 := by omega
      have p2 : (0 : Int) ≤ 4 * (t : Int) + 2 ∧ 4 * (t : Int) + 2 < 64 := by omega
      have p3 : (0 : Int) ≤ 4 * (t : Int) + 3 ∧ 4 * (t : Int) + 3 < 64 := by omega
      go_region_held3 (fun w' => w'.cell? ⟨ga, oa + 4 * t, none⟩ = some (.int .u8 (n0 : Int)) ∧ w'.cell? ⟨ga, oa + (4 * t + 1), none⟩ = some (.int .u8 (n1 : Int)) ∧ w'.cell? ⟨ga, oa + (4 * t + 2), none⟩ = some (.int .u8 (n2 : Int)) ∧ w'.cell? ⟨ga, oa + (4 * t + 3), none⟩ = some (.int .u8 (n3 : Int))) (go_keep) (fail)
      all_goals
        rw [HV.out]
        go_wp2_with fail
        go_roundw
        case rel => exact ⟨t + 1, by omega, by go_num, Lib.hid (N3.out.drewN 1), Lib.hid (N2.out.drewN 1), Lib.hid B2.out.drew⟩
        case measure => simp [intOf]; omega
    · obtain rfl : t = 16 := by omega
      rw [show ((16 : Nat) : Int) = 16 by omega]
      go_wp2_with fail
      go_loopw [5] (fun x wr => ∃ t : Nat, 16 ≤ t ∧ t ≤ 64 ∧ x = .int .i64 t ∧ Hid (Blk wr g 164 Z) ∧ Hid (Blk wr (g + 1) 164 (rowW (schedL b t))) ∧ Hid (Below w.heap.size w wr)) (fun x _ => 64 - (intOf x).toNat)
      case atStart => exact ⟨16, Nat.le_refl _, by omega, rfl, M0, M1, B⟩
      case round =>
        obtain ⟨t, ht1, ht, rfl, M0, M1, B⟩ := hrel
        by_cases hlt : t < 64
        · have j0 : (0 : Int) ≤ (t : Int) := by omega
          have j1 : (t : Int) < 64 := by omega
          obtain ⟨l, hl⟩ : ∃ l, l = schedL b t := ⟨_, rfl⟩
          have hll : l.length = t := by rw [hl, sched_len]
          have HST := Lib.hid (show schedL b (t + 1) = l ++ [l.getD (t - 16) 0 + smS0 (l.getD (t - 15) 0) + l.getD (t - 7) 0 + smS1 (l.getD (t - 2) 0)] by rw [hl, schedL, schedS, nextW, if_neg (by omega)])
          rw [← hl] at M1
          have r15 := (M1.out.cell (t - 15)).trans (rowW_get (l := l) (j := t - 15) (by omega))
          have r2 := (M1.out.cell (t - 2)).trans (rowW_get (l := l) (j := t - 2) (by omega))
          have r16 := (M1.out.cell (t - 16)).trans (rowW_get (l := l) (j := t - 16) (by omega))
          have r7 := (M1.out.cell (t - 7)).trans (rowW_get (l := l) (j := t - 7) (by omega))
          generalize l.getD (t - 15) 0 = p at *
          generalize l.getD (t - 2) 0 = q at *
          generalize l.getD (t - 16) 0 = r at *
          generalize l.getD (t - 7) 0 = u at *
          have HLL := Lib.hid hll
          have HL := Lib.hid hl
          clear hl hll
          have k15 : (0 : Int) ≤ (t : Int) - 15 := by omega
          have k2 : (0 : Int) ≤ (t : Int) - 2 := by omega
          have k16 : (0 : Int) ≤ (t : Int) - 16 := by omega
          have k7 : (0 : Int) ≤ (t : Int) - 7 := by omega
          have t7 : (7 : Int) ≤ (t : Int) := by omega
          have t16 : (16 : Int) ≤ (t : Int) := by omega
          obtain ⟨pa, hpa⟩ : ∃ z, z = rotr p 7 ^^^ rotr p 18 := ⟨_, rfl⟩
          obtain ⟨pb, hpb⟩ : ∃ z, z = p >>> 3 := ⟨_, rfl⟩
          obtain ⟨pc, hpc⟩ : ∃ z, z = pa ^^^ pb := ⟨_, rfl⟩
          obtain ⟨qa, hqa⟩ : ∃ z, z = rotr q 17 ^^^ rotr q 19 := ⟨_, rfl⟩
          obtain ⟨qb, hqb⟩ : ∃ z, z = q >>> 10 := ⟨_, rfl⟩
          obtain ⟨qc, hqc⟩ : ∃ z, z = qa ^^^ qb := ⟨_, rfl⟩
          obtain ⟨sa, hsa⟩ : ∃ z, z = r + pc := ⟨_, rfl⟩
          obtain ⟨sb, hsb⟩ : ∃ z, z = sa + u := ⟨_, rfl⟩
          obtain ⟨sc, hsc⟩ : ∃ z, z = sb + qc := ⟨_, rfl⟩
          have e1 := xor32 (rotr p 7) (rotr p 18)
          rw [← hpa] at e1
          have e2 : (p.toNat : Int) / 8 = (pb.toNat : Int) := by rw [hpb, ← shr32]; rfl
          have e3 := xor32 pa pb
          rw [← hpc] at e3
          have e4 := xor32 (rotr q 17) (rotr q 19)
          rw [← hqa] at e4
          have e5 : (q.toNat : Int) / 1024 = (qb.toNat : Int) := by rw [hqb, ← shr32]; rfl
          have e6 := xor32 qa qb
          rw [← hqc] at e6
          have e7 := add32 r pc
          rw [← hsa] at e7
          have e8 := add32 sa u
          rw [← hsb] at e8
          have e9 := add32 sb qc
          rw [← hsc] at e9
          have e7' := add32m r pc
          rw [← hsa] at e7'
          have e8' := add32m sa u
          rw [← hsb] at e8'
          have e9' := add32m sb qc
          rw [← hsc] at e9'
          have HST2 := Lib.hid (show schedL b (t + 1) = l ++ [sc] by rw [HST.out, hsc, hsb, hsa, hpc, hpa, hpb, hqc, hqa, hqb]; rfl)
          have N2 := Lib.hid (show Blk (wr.setCell ⟨g + 1, t, none⟩ (wordV sc)) (g + 1) 164 (rowW (schedL b (t + 1))) by
            have := M1.out.set_ t (wordV sc)
            rw [HST2.out, ← rowW_push (by rw [HLL.out]; exact hlt), HLL.out]
            exact this)
          have N3 := Lib.hid (M0.out.other (p := ⟨g + 1, t, none⟩) (Nat.succ_ne_self g) (wordV sc))
          have B2 := Lib.hid (B.out.setCell (p := ⟨g + 1, t, none⟩) (by rw [← HG.out]; exact Nat.le_succ g) (wordV sc))
          have c1 : wr.cell? ⟨g + 1, t, none⟩ = some (wordV 0) := (M1.out.cell t).trans (rowW_zero (by rw [HLL.out]; exact Nat.le_refl _) hlt)
          have f1 := M1.out.frozen t
          clear hpa hpb hpc hqa hqb hqc hsa hsb hsc
          go_wp2_with fail
          have HF := Lib.hid (And.intro (And.intro (And.intro e4 e5) (And.intro e6 (And.intro e7 e8))) (And.intro (And.intro e9 (And.intro e7' e8')) (And.intro e9' (And.intro r2 (And.intro r16 (And.intro r7 (And.intro c1 f1)))))))
          clear e4 e5 e6 e7 e8 e9 e7' e8' e9' r2 r16 r7 c1 f1
          refine wp_region_quiet_lit (by kernel_rfl) (by kernel_rfl) ?_
          iterate 4 (go_big_quiet_step (fail))
          go_big_quiet_step ((go_at_call 109; with_reducible exact Calls.quiet_of (rotr_7 _ _)))
          iterate 4 (go_big_quiet_step (fail))
          go_big_quiet_step ((go_at_call 109; with_reducible exact Calls.quiet_of (rotr_18 _ _)))
          iterate 8 (go_big_quiet_step (fail))
          refine wpQuiet_nil ?_
          intro _ hw'
          obtain ⟨nq, hw''⟩ := hw'
          subst hw''
          obtain ⟨w2, hw2⟩ : ∃ w2, w2 = wr.drewN nq := ⟨_, rfl⟩
          rw [← hw2]
          obtain ⟨⟨⟨e4, e5⟩, e6, e7, e8⟩, ⟨e9, e7', e8'⟩, e9', r2, r16, r7, c1, f1⟩ := HF.out
          clear HF r15 e1 e2 e3
          have r2 : w2.cell? ⟨g + 1, t - 2, none⟩ = some (wordV q) := by rw [hw2]; exact r2
          have HF := Lib.hid (And.intro (And.intro e7 e8) (And.intro (And.intro e9 (And.intro e7' e8')) (And.intro e9' (And.intro r16 (And.intro r7 (And.intro c1 f1))))))
          have HW2 := Lib.hid hw2
          clear e7 e8 e9 e7' e8' e9' r16 r7 c1 f1 hw2
          go_wp2_with fail
          refine wp_region_quiet_lit (by kernel_rfl) (by kernel_rfl) ?_
          iterate 4 (go_big_quiet_step (fail))
          go_big_quiet_step ((go_at_call 109; with_reducible exact Calls.quiet_of (rotr_17 _ _)))
          iterate 4 (go_big_quiet_step (fail))
          go_big_quiet_step ((go_at_call 109; with_reducible exact Calls.quiet_of (rotr_19 _ _)))
          iterate 8 (go_big_quiet_step (fail))
          refine wpQuiet_nil ?_
          intro _ hw'
          obtain ⟨nq', hw''⟩ := hw'
          subst hw''
          obtain ⟨w3, hw3⟩ : ∃ w3, w3 = w2.drewN nq' := ⟨_, rfl⟩
          rw [← hw3]
          obtain ⟨⟨e7, e8⟩, ⟨e9, e7', e8'⟩, e9', r16, r7, c1, f1⟩ := HF.out
          clear HF e4 e5 e6 r2
          have hw4 : w3 = wr.drewN (nq + nq') := by rw [hw3, HW2.out, World.drewN_drewN]
          have r16 : w3.cell? ⟨g + 1, t - 16, none⟩ = some (wordV r) := by rw [hw4]; exact r16
          have r7 : w3.cell? ⟨g + 1, t - 7, none⟩ = some (wordV u) := by rw [hw4]; exact r7
          have c1 : w3.cell? ⟨g + 1, t, none⟩ = some (wordV 0) := by rw [hw4]; exact c1
          have f1 : w3.frozen? ⟨g + 1, t, none⟩ = false := by rw [hw4]; exact f1
          have N2 := Lib.hid (show Blk (w3.setCell ⟨g + 1, t, none⟩ (wordV sc)) (g + 1) 164 (rowW (schedL b (t + 1))) by rw [hw4]; exact N2.out)
          have N3 := Lib.hid (show Blk (w3.setCell ⟨g + 1, t, none⟩ (wordV sc)) g 164 Z by rw [hw4]; exact N3.out)
          have B2 := Lib.hid (show Below w.heap.size w (w3.setCell ⟨g + 1, t, none⟩ (wordV sc)) by rw [hw4]; exact ⟨B2.out.os, B2.out.tape, B2.out.output, B2.out.size, B2.out.block⟩)
          clear hw3 hw4 HW2
          have m16 : IntKind.i64.wrap ((t : Int) - 16) = (t : Int) - 16 := IntWalk.i64_in _ (by omega)
          have m7 : IntKind.i64.wrap ((t : Int) - 7) = (t : Int) - 7 := IntWalk.i64_in _ (by omega)
          have n16 : ((t : Int) - 16).toNat = t - 16 := by omega
          have n7 : ((t : Int) - 7).toNat = t - 7 := by omega
          have q16 : (t : Int) - 16 < 64 := by omega
          have q7 : (t : Int) - 7 < 64 := by omega
          go_wp2_with fail
          go_region_law (fail)
          all_goals
            go_wp2_with fail
            go_roundw
            case rel => exact ⟨t + 1, by omega, by omega, by go_num, Lib.hid (N3.out.drewN 1), Lib.hid (N2.out.drewN 1), Lib.hid B2.out.drew⟩
            case measure => simp [intOf]; omega
        · obtain rfl : t = 64 := by omega
          obtain ⟨R, hR⟩ : ∃ R, R = rowW (schedL b 64) := ⟨_, rfl⟩
          have hRs : R.size = 64 := by rw [hR]; exact rowW_size (by rw [sched_len]; exact Nat.le_refl _)
          rw [← hR] at M1
          have hi : (Tryz.prog.info? 164).map (·.size) = some R.size := by rw [hRs]; exact hsz
          have hZs : Z.size = R.size := by rw [hRs, HZ.out]; rfl
          have hone : R.all (·.oneCell') = true := by rw [hR]; exact row_one _
          have HR := Lib.hid hR
          have HB := Lib.hid (below_row B.out (g := g) (by rw [← HG.out]; exact Nat.le_refl _) R)
          have HI := Lib.hid hi
          have HZs := Lib.hid hZs
          have HO := Lib.hid hone
          clear hR hRs hsz hi hZs hone hz hzw
          have HM1 := Lib.hid (show wr.heap[g + 1]? = some (.cells R 164 (0, 0)) from M1.out)
          have HM0 := Lib.hid (show wr.heap[g]? = some (.cells Z 164 (0, 0)) from M0.out)
          go_wp2_with (first | (refine wpList_load_row rfl 164 _ rfl (g + 1) rfl 164 R (0, 0) _ HM1.out Tryz.underlying164 rfl HI.out ?_) | (refine wpList_store_row rfl 164 _ _ rfl g R rfl rfl 164 Z HM0.out HI.out HZs.out HO.out ?_))
          rw [← HR.out]
          refine bodyPost_ret (v := .agg R) ?_ rfl ⟨rfl, HB.out⟩
          exact results_cell_row rfl _ _ g _ _ _ _ rfl (M0.out.put R) Tryz.underlying164 rfl HI.out
end Go.Proofs.YtddpjahoeldleaaGreatDoor

namespace Go.Proofs.YtddpjahoeldleaaGreatDoor
open Go.RowKit

/-- the round constants as a row -/
def kRow : Array Value := rowW ((List.range 64).map kW)
theorem kRow_get {t : Nat} (h : t < 64) : kRow[t]? = some (wordV (kW t)) := by
  rw [kRow, rowW_get (by simp; exact h), List.getD_eq_getElem?_getD, List.getElem?_map, List.getElem?_range h]
  rfl
/-- the constants lie as they were laid: the program's, the reference's -/
structure Consts (w : World) : Prop where
  go : ∃ ty fr, w.heap[2]? = some (.cells kRow ty fr)
structure RConsts (w : World) : Prop where
  ref : ∃ ty fr, w.heap[0]? = some (.cells kRow ty fr)
theorem Consts.keep {F : List Nat} {w w' : World} (h : Consts w) (hk : Keep F w w') (h2 : 2 ∉ F) : Consts w' := by
  obtain ⟨t', fr', hr'⟩ := h.go
  exact ⟨t', fr', (hk.block _ (Array.getElem?_eq_some_iff.1 hr').1 h2).trans hr'⟩
theorem Consts.below {w w' : World} (h : Consts w) (hb : Below w.heap.size w w') : Consts w' := h.keep (Keep.of_below hb []) (by simp)
theorem Consts.lt {w : World} (h : Consts w) : 2 < w.heap.size := by
  obtain ⟨t', fr', hr'⟩ := h.go
  exact (Array.getElem?_eq_some_iff.1 hr').1
theorem RConsts.keep {F : List Nat} {w w' : World} (h : RConsts w) (hk : Keep F w w') (h0 : 0 ∉ F) : RConsts w' := by
  obtain ⟨t, fr, hr⟩ := h.ref
  exact ⟨t, fr, (hk.block _ (Array.getElem?_eq_some_iff.1 hr).1 h0).trans hr⟩
theorem RConsts.below {w w' : World} (h : RConsts w) (hb : Below w.heap.size w w') : RConsts w' := h.keep (Keep.of_below hb []) (by simp)
theorem RConsts.refCell {w : World} (h : RConsts w) {t : Nat} (ht : t < 64) : w.cell? ⟨0, t, none⟩ = some (wordV (kW t)) := by
  obtain ⟨ty, fr, hr⟩ := h.ref
  exact (cell_of_row w 0 t kRow ty fr hr).trans (kRow_get ht)
theorem RConsts.lt {w : World} (h : RConsts w) : 0 < w.heap.size := by
  obtain ⟨t', fr', hr'⟩ := h.ref
  exact (Array.getElem?_eq_some_iff.1 hr').1

/-- what one round reckons, word by word -/
structure RF (a b c d e f g h k w r6 r11 r25 p1 p2 q1 n1 n2 n3 n4 q2 q3 q4 r2 r13 r22 s1 s2 m1 m2 m3 m4 m5 y ea aa : W32) : Prop where
  c6 : rotr e 6 = r6
  c11 : rotr e 11 = r11
  c25 : rotr e 25 = r25
  x1 : bits .xor .u32 (r6.toNat : Int) (r11.toNat : Int) = (p1.toNat : Int)
  x2 : bits .xor .u32 (p1.toNat : Int) (r25.toNat : Int) = (p2.toNat : Int)
  mixE : rotr e 6 ^^^ rotr e 11 ^^^ rotr e 25 = p2
  a1 : IntKind.u32.wrap ((h.toNat : Int) + (p2.toNat : Int)) = (q1.toNat : Int)
  a1' : ((h.toNat : Int) + (p2.toNat : Int)) % 4294967296 = (q1.toNat : Int)
  b1 : bits .and .u32 (e.toNat : Int) (f.toNat : Int) = (n1.toNat : Int)
  b2 : bits .xor .u32 (e.toNat : Int) 4294967295 = (n2.toNat : Int)
  b2' : 4294967295 - (e.toNat : Int) = (n2.toNat : Int)
  b3 : bits .and .u32 (n2.toNat : Int) (g.toNat : Int) = (n3.toNat : Int)
  b4 : bits .xor .u32 (n1.toNat : Int) (n3.toNat : Int) = (n4.toNat : Int)
  a2 : IntKind.u32.wrap ((q1.toNat : Int) + (n4.toNat : Int)) = (q2.toNat : Int)
  a2' : ((q1.toNat : Int) + (n4.toNat : Int)) % 4294967296 = (q2.toNat : Int)
  a3 : IntKind.u32.wrap ((q2.toNat : Int) + (k.toNat : Int)) = (q3.toNat : Int)
  a3' : ((q2.toNat : Int) + (k.toNat : Int)) % 4294967296 = (q3.toNat : Int)
  a4 : IntKind.u32.wrap ((q3.toNat : Int) + (w.toNat : Int)) = (q4.toNat : Int)
  a4' : ((q3.toNat : Int) + (w.toNat : Int)) % 4294967296 = (q4.toNat : Int)
  c2 : rotr a 2 = r2
  c13 : rotr a 13 = r13
  c22 : rotr a 22 = r22
  y1 : bits .xor .u32 (r2.toNat : Int) (r13.toNat : Int) = (s1.toNat : Int)
  y2 : bits .xor .u32 (s1.toNat : Int) (r22.toNat : Int) = (s2.toNat : Int)
  mixA : rotr a 2 ^^^ rotr a 13 ^^^ rotr a 22 = s2
  d1 : bits .and .u32 (a.toNat : Int) (b.toNat : Int) = (m1.toNat : Int)
  d2 : bits .and .u32 (a.toNat : Int) (c.toNat : Int) = (m2.toNat : Int)
  d3 : bits .xor .u32 (m1.toNat : Int) (m2.toNat : Int) = (m3.toNat : Int)
  d4 : bits .and .u32 (b.toNat : Int) (c.toNat : Int) = (m4.toNat : Int)
  d5 : bits .xor .u32 (m3.toNat : Int) (m4.toNat : Int) = (m5.toNat : Int)
  d6 : IntKind.u32.wrap ((s2.toNat : Int) + (m5.toNat : Int)) = (y.toNat : Int)
  d6' : ((s2.toNat : Int) + (m5.toNat : Int)) % 4294967296 = (y.toNat : Int)
  f1 : IntKind.u32.wrap ((d.toNat : Int) + (q4.toNat : Int)) = (ea.toNat : Int)
  f1' : ((d.toNat : Int) + (q4.toNat : Int)) % 4294967296 = (ea.toNat : Int)
  f2 : IntKind.u32.wrap ((q4.toNat : Int) + (y.toNat : Int)) = (aa.toNat : Int)
  f2' : ((q4.toNat : Int) + (y.toNat : Int)) % 4294967296 = (aa.toNat : Int)
  all : (⟨a, b, c, d, e, f, g, h⟩ : Reg).round k w = ⟨aa, a, b, c, ea, e, f, g⟩
theorem not32 (e : W32) : 4294967295 - (e.toNat : Int) = ((e ^^^ 0xffffffff).toNat : Int) := by
  have h : e ^^^ 0xffffffff = ~~~ e := by rw [show (0xffffffff : W32) = BitVec.allOnes 32 from by decide, BitVec.xor_allOnes]
  have := e.isLt
  rw [h, BitVec.toNat_not]
  omega
theorem round_facts (a b c d e f g h k w : W32) : ∃ r6 r11 r25 p1 p2 q1 n1 n2 n3 n4 q2 q3 q4 r2 r13 r22 s1 s2 m1 m2 m3 m4 m5 y ea aa, RF a b c d e f g h k w r6 r11 r25 p1 p2 q1 n1 n2 n3 n4 q2 q3 q4 r2 r13 r22 s1 s2 m1 m2 m3 m4 m5 y ea aa :=
  ⟨_, _, _, _, _, _, _, _, _, _, _, _, _, _, _, _, _, _, _, _, _, _, _, _, _, _,
    rfl, rfl, rfl, xor32 _ _, xor32 _ _, rfl, add32 _ _, add32m _ _, and32 _ _, xor32 e 0xffffffff, not32 e, and32 _ _, xor32 _ _, add32 _ _, add32m _ _, add32 _ _, add32m _ _, add32 _ _, add32m _ _,
    rfl, rfl, rfl, xor32 _ _, xor32 _ _, rfl, and32 _ _, and32 _ _, xor32 _ _, and32 _ _, xor32 _ _, add32 _ _, add32m _ _, add32 _ _, add32m _ _, add32 _ _, add32m _ _, rfl⟩
theorem rotr_as {x y : W32} {n : Nat} (h : rotr x n = y) (h1 : 0 < n) (h2 : n < 32) (w : World) : Calls Tryz.prog 109 #[wordV x, .int .i64 (n : Int)] w fun e w' => e = .returned (wordV y) ∧ ∃ k, w' = w.drewN k := by
  rw [← h]; exact rotr_any x n w h1 h2
/-- a state as a row -/
def rowS (R : Reg) : Array Value := #[wordV R.a, wordV R.b, wordV R.c, wordV R.d, wordV R.e, wordV R.f, wordV R.g, wordV R.h]
theorem rowS_one (R : Reg) : (rowS R).all (·.oneCell') = true := by simp [rowS, Value.oneCell']
/-- the row of some bytes, zeros behind them -/
def rowB (n : Nat) (l : Bs) : Array Value := (byteCells l ++ List.replicate (n - l.length) (Value.int .u8 0)).toArray
theorem rowB_size {n : Nat} {l : Bs} (h : l.length ≤ n) : (rowB n l).size = n := by simp [rowB, byteCells]; omega
theorem rowB_get {n : Nat} {l : Bs} {j : Nat} (h : j < l.length) : (rowB n l)[j]? = some (.int .u8 (byteN l j : Int)) := by
  rw [rowB, List.getElem?_toArray, List.getElem?_append_left (by rw [byteCells_len]; exact h), byteCells, List.getElem?_map, List.getElem?_eq_getElem h, byteN, List.getD_eq_getElem?_getD, List.getElem?_eq_getElem h]
  rfl
theorem rowB_zero {n : Nat} {l : Bs} {j : Nat} (h : l.length ≤ j) (h2 : j < n) : (rowB n l)[j]? = some (.int .u8 0) := by
  rw [rowB, List.getElem?_toArray, List.getElem?_append_right (by rw [byteCells_len]; exact h), byteCells_len, List.getElem?_replicate, if_pos (by omega)]
theorem rowB_push {n : Nat} {l : Bs} {x : UInt8} (h : l.length < n) : (rowB n l).setIfInBounds l.length (.int .u8 (x.toNat : Int)) = rowB n (l ++ [x]) := by
  apply Array.ext_getElem?
  intro j
  have hs := rowB_size (Nat.le_of_lt h)
  by_cases h1 : j = l.length
  · subst h1
    rw [Array.getElem?_setIfInBounds_self_of_lt (by omega), rowB_get (by simp), byteN, List.getD_eq_getElem?_getD, List.getElem?_append_right (Nat.le_refl _), Nat.sub_self]
    rfl
  · rw [Array.getElem?_setIfInBounds_ne (fun e => h1 e.symm)]
    by_cases h2 : j < l.length
    · rw [rowB_get h2, rowB_get (by simp; omega), byteN, byteN, List.getD_eq_getElem?_getD, List.getD_eq_getElem?_getD, List.getElem?_append_left h2]
    · by_cases h3 : j < n
      · rw [rowB_zero (by omega) h3, rowB_zero (by simp; omega) h3]
      · rw [Array.getElem?_eq_none (by omega), Array.getElem?_eq_none (by rw [rowB_size (by simp; omega)]; omega)]
theorem rowB_one (n : Nat) (l : Bs) : (rowB n l).all (·.oneCell') = true := by
  rw [Array.all_eq_true_iff_forall_mem]
  intro v hv
  rw [rowB] at hv
  simp only [byteCells, List.mem_toArray, List.mem_append, List.mem_map, List.mem_replicate] at hv
  rcases hv with ⟨x, _, rfl⟩ | ⟨_, rfl⟩ <;> rfl
/-- byte i of a state -/
theorem bytes_at (R : Reg) {i : Nat} (h : i < 32) : R.bytes.getD i 0 = byteW (R.words.getD (i / 4) 0) (24 - 8 * (i % 4)) := by
  have hi : i = 0 ∨ i = 1 ∨ i = 2 ∨ i = 3 ∨ i = 4 ∨ i = 5 ∨ i = 6 ∨ i = 7 ∨ i = 8 ∨ i = 9 ∨ i = 10 ∨ i = 11 ∨ i = 12 ∨ i = 13 ∨ i = 14 ∨ i = 15 ∨ i = 16 ∨ i = 17 ∨ i = 18 ∨ i = 19 ∨ i = 20 ∨ i = 21 ∨ i = 22 ∨ i = 23 ∨ i = 24 ∨ i = 25 ∨ i = 26 ∨ i = 27 ∨ i = 28 ∨ i = 29 ∨ i = 30 ∨ i = 31 := by omega
  rcases hi with rfl | rfl | rfl | rfl | rfl | rfl | rfl | rfl | rfl | rfl | rfl | rfl | rfl | rfl | rfl | rfl | rfl | rfl | rfl | rfl | rfl | rfl | rfl | rfl | rfl | rfl | rfl | rfl | rfl | rfl | rfl | rfl <;> exact rfl
theorem info8w : (Tryz.prog.info? 146).map (fun i => (i.zero, i.size)) = some (some (.agg (rowS ⟨0, 0, 0, 0, 0, 0, 0, 0⟩)), 8) := by kernel_rfl
theorem info32b : (Tryz.prog.info? 125).map (fun i => (i.zero, i.size)) = some (some (.agg (rowB 32 [])), 32) := by kernel_rfl
theorem info5b : (Tryz.prog.info? 5).map (fun i => (i.zero, i.size, i.bytes)) = some (some (.int .u8 0), 1, 1) := by kernel_rfl
end Go.Proofs.YtddpjahoeldleaaGreatDoor

namespace Go.Proofs.YtddpjahoeldleaaGreatDoor
open Go.RowKit

theorem byteCells_snoc (l : Bs) (x : UInt8) : byteCells (l ++ [x]) = byteCells l ++ [.int .u8 (x.toNat : Int)] := by simp [byteCells]
theorem byteCells_app (l m : Bs) : byteCells (l ++ m) = byteCells l ++ byteCells m := by simp [byteCells]
section
variable {ops : Array Oper} {rest : List Oper} {o : Oper} {a : Act} {Q : Exit → Act → World → Prop} {w0 w : World}
/-- append(l, x): one byte, in a block of its own -/
theorem wpList_app_byte (hgd : o.guard = none) (s x : Operand) (ho : o.op = .call { callee := .builtin .append, args := #[s, x], argTypes := #[84, 84] })
    (hb : Below w0.heap.size w0 w) (v : Value) (n : Nat) (l : Bs) (hs : a.eval s = v) (hown : w.ownsRow w0.heap.size 5 1 v n (byteCells l)) (y : UInt8)
    (hx : a.eval x = .slice (some ⟨w.heap.size, 0, none⟩) 1 1) (hn : n ≤ 100000)
    (h : ∀ v' w', w'.ownsRow w0.heap.size 5 1 v' (n + 1) (byteCells (l ++ [y])) → Below w0.heap.size w0 w' → wpList Tryz.prog ops Q rest (a.put o.dst v') w') :
    wpList Tryz.prog ops Q (o :: rest) a (w.alloc (.cells #[.int .u8 (y.toNat : Int)] 5)) := by
  obtain ⟨i0, hi, hz0, hz1, hz2⟩ := info_parts info5b
  refine wpList_append_own _ hgd _ _ 84 ho w0.heap.size 5 i0 _ 1 1 Tryz.underlying84 hi hz0 hz1 hz2 rfl (by decide) v n (byteCells l) hs (hown.alloc _) ⟨w.heap.size, 0, none⟩ 1 1 [.int .u8 (y.toNat : Int)] hx rfl (cells_one _ _ _) (fun u hu => by simp at hu; subst hu; rfl) (by unfold maxLen; omega) (by omega) (by have := hb.size; simp; omega) ?_
  intro v' w2 hown1 hgrow _
  rw [← byteCells_snoc] at hown1
  exact h v' w2 hown1 ((hb.alloc hb.size _).grown hgrow (by have := hb.size; simp; omega) (fun g hg => (hown.lt g hg).1))
/-- append([]byte{}, b...) -/
theorem wpList_app_bytes (hgd : o.guard = none) (s x : Operand) (ho : o.op = .call { callee := .builtin .append, args := #[s, x], argTypes := #[84, 84] })
    (hb : Below w0.heap.size w0 w) (v : Value) (n : Nat) (l : Bs) (hs : a.eval s = v) (hown : w.ownsRow w0.heap.size 5 1 v n (byteCells l)) (b : Bs) (ad : Addr) (m c : Nat)
    (hx : a.eval x = .slice (some ad) m c) (hm : m = b.length) (hc : ∀ j u, (byteCells b)[j]? = some u → w.cell? (ad.add j) = some u) (hn : n + m ≤ 100000)
    (h : ∀ v' w', w'.ownsRow w0.heap.size 5 1 v' (n + m) (byteCells (l ++ b)) → Below w0.heap.size w0 w' → wpList Tryz.prog ops Q rest (a.put o.dst v') w') :
    wpList Tryz.prog ops Q (o :: rest) a w := by
  obtain ⟨i0, hi, hz0, hz1, hz2⟩ := info_parts info5b
  refine wpList_append_own _ hgd _ _ 84 ho w0.heap.size 5 i0 _ 1 1 Tryz.underlying84 hi hz0 hz1 hz2 rfl (by decide) v n (byteCells l) hs hown ad m c (byteCells b) hx (by rw [byteCells_len, hm, Nat.mul_one]) hc (fun u hu => by simp [byteCells] at hu; obtain ⟨z, _, rfl⟩ := hu; rfl) (by unfold maxLen; omega) (by omega) hb.size ?_
  intro v' w2 hown1 hgrow _
  rw [← byteCells_app] at hown1
  exact h v' w2 hown1 (hb.grown hgrow hb.size (fun g hg => (hown.lt g hg).1))
end
/-- the first j bytes behind the message -/
def zerosB (b : Bs) (j : Nat) : Bs := b ++ [128] ++ List.replicate j 0
def lenB (j : Nat) : Bs := ([0, 0, 0, 0, 0, 0, 1, 192] : Bs).take j
theorem pad_all (b : Bs) : zerosB b 63 ++ lenB 8 = block1 b ++ block2 := by
  unfold zerosB lenB block1 block2
  rw [show (63 : Nat) = 7 + 56 from rfl, List.replicate_append_replicate.symm, show (62 : Nat) = 56 + 6 from rfl, List.replicate_append_replicate.symm]
  simp only [List.append_assoc]
  rfl
theorem zeros_step (b : Bs) (j : Nat) : zerosB b (j + 1) = zerosB b j ++ [0] := by
  unfold zerosB; rw [List.replicate_succ', ← List.append_assoc]
theorem byte_shift (n k : Nat) : (n : Int) / 2 ^ k % 256 = ((UInt8.ofNat (n / 2 ^ k % 256)).toNat : Int) := by
  rw [UInt8.toNat_ofNat', Nat.mod_eq_of_lt (by omega), Int.natCast_emod, Int.natCast_ediv, Int.natCast_pow]; rfl
theorem len_step : ∀ i : Fin 8, lenB (i.val + 1) = lenB i.val ++ [UInt8.ofNat (448 / 2 ^ (56 - 8 * i.val) % 256)] := by decide

set_option maxHeartbeats 2000000 in
set_option maxRecDepth 100000 in
theorem padded_any (A : Option Addr) (c : Nat) (b : Bs) (w : World) (h : Rd w w.heap.size 1 A 56 (byteCells b)) :
    Calls Tryz.prog 107 #[.slice A 56 c] w (OwnPost w.heap.size 5 1 128 (byteCells (block1 b ++ block2)) w) := by
  obtain ⟨ga, oa, rfl, hga, hcell⟩ := h.2 (by omega)
  have hbl : b.length = 56 := by have := h.1; rw [byteCells_len] at this; omega
  have H := Lib.hid h
  have hown : (w.alloc (.cells #[] 5)).ownsRow w.heap.size 5 1 (.slice (some ⟨w.heap.size, 0, none⟩) 0 0) 0 (byteCells []) := World.ownsRow_lit (base := w.heap.size) (e := 5) (size := 1) w #[] 0 (Nat.le_refl _) (by decide) rfl
  have hsrc : ∀ j u, (byteCells b)[j]? = some u → (w.alloc (.cells #[] 5)).cell? ((⟨ga, oa, none⟩ : Addr).add j) = some u := fun j u hu => by
    rw [show (⟨ga, oa, none⟩ : Addr).add j = ⟨ga, oa + j, none⟩ by unfold Addr.add; split <;> simp_all]
    exact ((below_new w _).cell (p := ⟨ga, oa + j, none⟩) hga).trans (hcell j u hu)
  have HS := Lib.hid hsrc
  have HN := Lib.hid hbl.symm
  clear h hcell hsrc hbl
  go_enter Tryz.func107, Tryz.ntmps107
  go_wp2_with (first
    | (at_builtin; refine wpList_app_bytes rfl _ _ rfl (below_new w (.cells #[] 5)) _ 0 [] rfl hown b ⟨ga, oa, none⟩ 56 c rfl HN.out HS.out (by omega) ?_; intro v1 w1 hown1 hb1)
    | (at_builtin; refine wpList_app_byte rfl _ _ rfl hb1 v1 _ ([] ++ b) rfl hown1 128 rfl (by omega) ?_; intro v2 w2 hown2 hb2))
  have HB2 := Lib.hid hb2
  have HO2 := Lib.hid (show w2.ownsRow w.heap.size 5 1 v2 (57 + 0) (byteCells (zerosB b 0)) by rw [zerosB, List.replicate_zero, List.append_nil]; exact hown2)
  clear hown hown1 hown2 hb1 hb2
  go_loopw [3] (fun x wr => ∃ j : Nat, j ≤ 63 ∧ wr.ownsRow w.heap.size 5 1 x (57 + j) (byteCells (zerosB b j)) ∧ Below w.heap.size w wr) (fun x _ => 120 - (match x with | .slice _ n _ => n | _ => 0))
  case atStart => exact ⟨0, by omega, HO2.out, HB2.out⟩
  case round =>
    obtain ⟨j, hj, hown, hb⟩ := hrel
    obtain ⟨A, cc, rfl, hcc⟩ := own_slice hown
    have hn : 57 + j ≤ 100000 := by omega
    by_cases hlt : j < 63
    · have e1 : ¬ ((57 : Int) + (j : Int)) % 64 = 56 := by omega
      go_wp2_with (at_builtin; refine wpList_app_byte rfl _ _ rfl hb (.slice A (57 + j) cc) (57 + j) (zerosB b j) (by rfl) hown 0 (by rfl) hn ?_; intro v3 w3 hown3 hb3)
      go_roundw
      case rel => exact ⟨j + 1, by omega, by rw [zeros_step]; exact hown3, hb3⟩
      case measure =>
        obtain ⟨A3, c3, rfl, _⟩ := own_slice hown3
        show 120 - (57 + j + 1) < 120 - (57 + j)
        omega
    · obtain rfl : j = 63 := by omega
      have hown0 : wr.ownsRow w.heap.size 5 1 (.slice A (120 + 0) cc) (120 + 0) (byteCells (zerosB b 63 ++ lenB 0)) := by rw [show lenB 0 = [] from rfl, List.append_nil]; exact hown
      clear hown
      rw [show (57 : Nat) + 63 = 120 from rfl]
      go_wp2_with fail
      go_loopw [3, 5] (fun x y wr => ∃ i : Nat, i ≤ 8 ∧ y = .int .i64 i ∧ wr.ownsRow w.heap.size 5 1 x (120 + i) (byteCells (zerosB b 63 ++ lenB i)) ∧ Below w.heap.size w wr) (fun _ y _ => 8 - (intOf y).toNat)
      case atStart => exact ⟨0, by omega, rfl, hown0, hb⟩
      case round =>
        clear hown0 hb
        obtain ⟨i, hi, rfl, hown, hb⟩ := hrel
        obtain ⟨A, cc, rfl, hcc⟩ := own_slice hown
        have hn : 120 + i ≤ 100000 := by omega
        by_cases hlt : i < 8
        · have j0 : (0 : Int) ≤ (i : Int) := by omega
          have j1 : (i : Int) < 8 := by omega
          obtain ⟨y, hy⟩ : ∃ y, y = UInt8.ofNat (448 / 2 ^ (56 - 8 * i) % 256) := ⟨_, rfl⟩
          have hy2 : (448 : Int) / 2 ^ (56 - 8 * i) % 256 = (y.toNat : Int) := by rw [hy]; exact byte_shift 448 _
          have HY := Lib.hid (show lenB (i + 1) = lenB i ++ [y] by rw [hy]; exact len_step ⟨i, hlt⟩)
          clear hy
          go_wp2_with (at_builtin; refine wpList_app_byte rfl _ _ rfl hb (.slice A (120 + i) cc) (120 + i) (zerosB b 63 ++ lenB i) (by rfl) hown y (by rfl) hn ?_; intro v3 w3 hown3 hb3)
          go_roundw
          case rel => exact ⟨i + 1, by omega, by go_num, by rw [HY.out, ← List.append_assoc]; exact hown3, hb3⟩
          case measure => simp [intOf]; omega
        · obtain rfl : i = 8 := by omega
          go_wp2_with fail
          go_ret
          exact ⟨_, rfl, by rw [← pad_all]; exact hown, hb⟩
end Go.Proofs.YtddpjahoeldleaaGreatDoor
