/- The program's compression. -/
import Derived.Test.YtddpjahoeldleaaGreatDoorMRefSum
import Derived.Deep.RegionHeld3
import Derived.Laws.Cover3

namespace Go.Proofs.YtddpjahoeldleaaGreatDoor
open Go.RowKit

theorem Consts.goRow {w : World} (h : Consts w) : ∃ ty fr, w.heap[2]? = some (.cells kRow ty fr) := h.go
/-- four words -/
def row4 (a b c d : W32) : Array Value := #[wordV a, wordV b, wordV c, wordV d]
theorem info4w : (Tryz.prog.info? 167).map (fun i => (i.zero, i.size)) = some (some (.agg (row4 0 0 0 0)), 4) := by kernel_rfl
theorem Blk.row4 {w : World} {g : Nat} {t : TypeId} {a b c d : W32} (h : Blk w g t (row4 a b c d)) :
    w.cell? ⟨g, 0, none⟩ = some (wordV a) ∧ w.cell? ⟨g, 1, none⟩ = some (wordV b) ∧ w.cell? ⟨g, 2, none⟩ = some (wordV c) ∧ w.cell? ⟨g, 3, none⟩ = some (wordV d) := ⟨h.cell 0, h.cell 1, h.cell 2, h.cell 3⟩

theorem mixE_as {x y : W32} (h : rotr x 6 ^^^ rotr x 11 ^^^ rotr x 25 = y) (w : World) : Calls Tryz.prog 111 #[wordV x, .int .i64 6, .int .i64 11, .int .i64 25] w fun e w' => e = .returned (wordV y) ∧ w' = w := by
  rw [← h]
  exact (mix_any x 6 11 25 w (by omega) (by omega) (by omega) (by omega) (by omega) (by omega)).mono fun e w' ⟨h1, h2⟩ => ⟨h1, h2.symm⟩
theorem mixA_as {x y : W32} (h : rotr x 2 ^^^ rotr x 13 ^^^ rotr x 22 = y) (w : World) : Calls Tryz.prog 111 #[wordV x, .int .i64 2, .int .i64 13, .int .i64 22] w fun e w' => e = .returned (wordV y) ∧ w' = w := by
  rw [← h]
  exact (mix_any x 2 13 22 w (by omega) (by omega) (by omega) (by omega) (by omega) (by omega)).mono fun e w' ⟨h1, h2⟩ => ⟨h1, h2.symm⟩
theorem xormax {e n : W32} (h : bits .xor .u32 (e.toNat : Int) 4294967295 = (n.toNat : Int)) : bits .xor .u32 IntKind.u32.max (e.toNat : Int) = (n.toNat : Int) := by
  rw [show IntKind.u32.max = ((0xffffffff : W32).toNat : Int) from by decide, xor32, BitVec.xor_comm, ← xor32]
  exact h
theorem four_ab {w4 : World} {q : Nat} (h : w4.heap.size = q + 1) (V E : Array Value) (T : TypeId) :
    Hid (w4.heap.size ≠ w4.heap.size + 1 ∧ q < w4.heap.size ∧ q < w4.heap.size + 1 ∧ Blk ((w4.alloc (.cells V T)).alloc (.cells E T)).drew w4.heap.size T V ∧ Blk ((w4.alloc (.cells V T)).alloc (.cells E T)).drew (w4.heap.size + 1) T E ∧ Below w4.heap.size w4 ((w4.alloc (.cells V T)).alloc (.cells E T)).drew) := by
  have b1 := Blk.new w4 T V
  have b2 := Blk.new (w4.alloc (.cells V T)) T E
  rw [show (w4.alloc (.cells V T)).heap.size = w4.heap.size + 1 by simp] at b2
  exact Lib.hid ⟨by omega, by omega, by omega, (b1.below (below_new _ _) b1.lt).drewN 1, b2.drewN 1, (((below_new w4 (.cells V T)).alloc (by simp) _).drew)⟩
theorem four_ba {w4 : World} {q : Nat} (h : w4.heap.size = q + 1) (V E : Array Value) (T : TypeId) :
    Hid (w4.heap.size + 1 ≠ w4.heap.size ∧ q < w4.heap.size + 1 ∧ q < w4.heap.size ∧ Blk ((w4.alloc (.cells E T)).alloc (.cells V T)).drew (w4.heap.size + 1) T V ∧ Blk ((w4.alloc (.cells E T)).alloc (.cells V T)).drew w4.heap.size T E ∧ Below w4.heap.size w4 ((w4.alloc (.cells E T)).alloc (.cells V T)).drew) := by
  obtain ⟨h1, h2, h3, h4, h5, h6⟩ := (four_ab h E V T).out
  exact Lib.hid ⟨h1.symm, h3, h2, h5, h4, h6⟩
theorem rowS_size (R : Reg) : (rowS R).size = 8 := rfl
/-- eight words -/
def rowE (f : Nat → W32) : Array Value := #[wordV (f 0), wordV (f 1), wordV (f 2), wordV (f 3), wordV (f 4), wordV (f 5), wordV (f 6), wordV (f 7)]
def fI (s r : Nat → W32) (i k : Nat) : W32 := if k % 4 < i then s k + r k else s k
def fH (s r : Nat → W32) (i k : Nat) : W32 := if k = i then s k + r k else fI s r i k
theorem rowE_get (f : Nat → W32) {k : Nat} (h : k < 8) : (rowE f)[k]? = some (wordV (f k)) := by
  have hk : k = 0 ∨ k = 1 ∨ k = 2 ∨ k = 3 ∨ k = 4 ∨ k = 5 ∨ k = 6 ∨ k = 7 := by omega
  rcases hk with rfl | rfl | rfl | rfl | rfl | rfl | rfl | rfl <;> rfl
theorem rowE_half (s r : Nat → W32) {i : Nat} (h : i < 4) : (rowE (fI s r i)).setIfInBounds i (wordV (s i + r i)) = rowE (fH s r i) := by
  have hk : i = 0 ∨ i = 1 ∨ i = 2 ∨ i = 3 := by omega
  rcases hk with rfl | rfl | rfl | rfl <;> rfl
theorem rowE_full (s r : Nat → W32) {i : Nat} (h : i < 4) : (rowE (fH s r i)).setIfInBounds (i + 4) (wordV (s (i + 4) + r (i + 4))) = rowE (fI s r (i + 1)) := by
  have hk : i = 0 ∨ i = 1 ∨ i = 2 ∨ i = 3 := by omega
  rcases hk with rfl | rfl | rfl | rfl <;> rfl
theorem fI_lo (s r : Nat → W32) {i : Nat} (h : i < 4) : fI s r i i = s i := by unfold fI; rw [if_neg (by omega)]
theorem fH_hi (s r : Nat → W32) {i : Nat} (h : i < 4) : fH s r i (i + 4) = s (i + 4) := by unfold fH fI; rw [if_neg (by omega), if_neg (by omega)]
theorem row4_get (a b c d : W32) {k : Nat} (h : k < 4) : (row4 a b c d)[k]? = some (wordV (([a, b, c, d] : List W32).getD k 0)) := by
  have hk : k = 0 ∨ k = 1 ∨ k = 2 ∨ k = 3 := by omega
  rcases hk with rfl | rfl | rfl | rfl <;> rfl
theorem getD_lo (a b c d e f g h : W32) {k : Nat} (hk : k < 4) : ([a, b, c, d] : List W32).getD k 0 = ([a, b, c, d, e, f, g, h] : List W32).getD k 0 := by
  have hk : k = 0 ∨ k = 1 ∨ k = 2 ∨ k = 3 := by omega
  rcases hk with rfl | rfl | rfl | rfl <;> rfl
theorem getD_hi (a b c d e f g h : W32) {k : Nat} (hk : k < 4) : ([e, f, g, h] : List W32).getD k 0 = ([a, b, c, d, e, f, g, h] : List W32).getD (k + 4) 0 := by
  have hk : k = 0 ∨ k = 1 ∨ k = 2 ∨ k = 3 := by omega
  rcases hk with rfl | rfl | rfl | rfl <;> rfl
theorem index_k {t : Nat} (h : t < 64) (w : World) : (Instr.index 164 (.agg kRow) (.int .i64 (t : Int))).run Tryz.prog w = .ok (wordV (kW t)) w := by
  have ht : t = 0 ∨ t = 1 ∨ t = 2 ∨ t = 3 ∨ t = 4 ∨ t = 5 ∨ t = 6 ∨ t = 7 ∨ t = 8 ∨ t = 9 ∨ t = 10 ∨ t = 11 ∨ t = 12 ∨ t = 13 ∨ t = 14 ∨ t = 15 ∨ t = 16 ∨ t = 17 ∨ t = 18 ∨ t = 19 ∨ t = 20 ∨ t = 21 ∨ t = 22 ∨ t = 23 ∨ t = 24 ∨ t = 25 ∨ t = 26 ∨ t = 27 ∨ t = 28 ∨ t = 29 ∨ t = 30 ∨ t = 31 ∨ t = 32 ∨ t = 33 ∨ t = 34 ∨ t = 35 ∨ t = 36 ∨ t = 37 ∨ t = 38 ∨ t = 39 ∨ t = 40 ∨ t = 41 ∨ t = 42 ∨ t = 43 ∨ t = 44 ∨ t = 45 ∨ t = 46 ∨ t = 47 ∨ t = 48 ∨ t = 49 ∨ t = 50 ∨ t = 51 ∨ t = 52 ∨ t = 53 ∨ t = 54 ∨ t = 55 ∨ t = 56 ∨ t = 57 ∨ t = 58 ∨ t = 59 ∨ t = 60 ∨ t = 61 ∨ t = 62 ∨ t = 63 := by omega
  rcases ht with rfl | rfl | rfl | rfl | rfl | rfl | rfl | rfl | rfl | rfl | rfl | rfl | rfl | rfl | rfl | rfl | rfl | rfl | rfl | rfl | rfl | rfl | rfl | rfl | rfl | rfl | rfl | rfl | rfl | rfl | rfl | rfl | rfl | rfl | rfl | rfl | rfl | rfl | rfl | rfl | rfl | rfl | rfl | rfl | rfl | rfl | rfl | rfl | rfl | rfl | rfl | rfl | rfl | rfl | rfl | rfl | rfl | rfl | rfl | rfl | rfl | rfl | rfl | rfl <;> (show _ = _; kernel_rfl)
theorem Blk.keepB {F : List Nat} {w w' : World} {g : Nat} {t : TypeId} {cs : Array Value} (h : Blk w g t cs) (hk : Keep F w w') (hg : g ∉ F) : Blk w' g t cs := (hk.block g h.lt hg).trans h

set_option maxHeartbeats 4000000 in
set_option maxRecDepth 100000 in
theorem compress_any (S : Reg) (A : Option Addr) (c : Nat) (b : Bs) (w : World) (h : Rd w w.heap.size 1 A 64 (byteCells b)) (hc1 : 64 ≤ c) (hc2 : c ≤ 1000000) (hk : Consts w) :
    Calls Tryz.prog 102 #[.agg (rowS S), .slice A 64 c] w (RetB (.agg (rowS (S.compress b))) w) := by
  obtain ⟨hy, hsy⟩ := zero_of_info info8w
  obtain ⟨hx, hsx⟩ := zero_of_info info64w
  obtain ⟨hz, hsz⟩ := zero_of_info info4w
  obtain ⟨X, hX⟩ : ∃ X, X = rowW [] := ⟨_, rfl⟩
  rw [← hX] at hx
  replace hy : ∀ w, (zeroValue 146).run Tryz.prog w = .ok (.agg #[Value.int .u32 0, Value.int .u32 0, Value.int .u32 0, Value.int .u32 0, Value.int .u32 0, Value.int .u32 0, Value.int .u32 0, Value.int .u32 0]) w := hy
  replace hz : ∀ w, (zeroValue 167).run Tryz.prog w = .ok (.agg #[Value.int .u32 0, Value.int .u32 0, Value.int .u32 0, Value.int .u32 0]) w := hz
  have H := Lib.hid h
  have HK := Lib.hid hk
  have HX := Lib.hid hX
  have HSX := Lib.hid hsx
  have HSY := Lib.hid hsy
  have HSZ := Lib.hid hsz
  obtain ⟨Y, hY⟩ : ∃ Y, Y = rowS S := ⟨_, rfl⟩
  rw [← hY]
  have HY := Lib.hid hY
  clear h hk hX hsx hsy hsz hY
  go_enter Tryz.func102, Tryz.ntmps102
  go_wp2_with fail
  obtain ⟨g, hg⟩ : ∃ g, g = w.heap.size := ⟨_, rfl⟩
  obtain ⟨w1, hw1⟩ : ∃ w1, w1 = (w.alloc (.cells Y 146)).alloc (.cells #[Value.int .u32 0, Value.int .u32 0, Value.int .u32 0, Value.int .u32 0, Value.int .u32 0, Value.int .u32 0, Value.int .u32 0, Value.int .u32 0] 146) := ⟨_, rfl⟩
  have A0 := (Blk.new w 146 Y)
  have A1 := Blk.new (w.alloc (.cells Y 146)) 146 #[Value.int .u32 0, Value.int .u32 0, Value.int .u32 0, Value.int .u32 0, Value.int .u32 0, Value.int .u32 0, Value.int .u32 0, Value.int .u32 0]
  rw [← hw1, show (w.alloc (.cells Y 146)).heap.size = g + 1 by rw [hg]; simp] at A1
  have A0 : Blk w1 g 146 Y := by rw [hw1, hg]; exact A0.below (below_new _ _) A0.lt
  have AB : Below w.heap.size w w1 := by rw [hw1]; exact (below_new w (.cells Y 146)).alloc (by simp) _
  rw [← hw1, ← hg]
  have HG := Lib.hid hg
  clear hw1 hg
  refine (schedule_any A c b w1 (H.out.go AB) hc1 hc2).mono ?_
  rintro e w3 ⟨rfl, hb3⟩
  obtain ⟨L, hL⟩ : ∃ L, L = schedL b 64 := ⟨_, rfl⟩
  have hLl : L.length = 64 := by rw [hL, sched_len]
  rw [← hL]
  obtain ⟨W, hW⟩ : ∃ W, W = rowW L := ⟨_, rfl⟩
  rw [← hW]
  have hN : S.compress b = S.plus (Reg.rounds L S 64) := by rw [Reg.compress, ← hL]
  obtain ⟨q, hq⟩ : ∃ q, q = w3.heap.size := ⟨_, rfl⟩
  obtain ⟨w4, hw4⟩ : ∃ w4, w4 = (w3.alloc (.cells X 164)).setRow q W := ⟨_, rfl⟩
  have hgq : g + 1 < q := by rw [hq]; exact Nat.lt_of_lt_of_le A1.lt hb3.size
  have D3 : Below w3.heap.size w3 w4 := by rw [hw4]; exact below_row (below_new w3 _) (Nat.le_of_eq hq.symm) W
  have HMq := Lib.hid (show (w3.alloc (.cells X 164)).heap[q]? = some (.cells X 164 (0, 0)) by rw [hq]; exact Blk.new w3 164 X)
  have hWs : W.size = 64 := by rw [hW]; exact rowW_size (by rw [hLl]; exact Nat.le_refl _)
  have HWi := Lib.hid (show (Tryz.prog.info? 164).map (·.size) = some W.size by rw [hWs]; exact HSX.out)
  have HXW := Lib.hid (show X.size = W.size by rw [hWs, HX.out]; rfl)
  have HWo := Lib.hid (show W.all (·.oneCell') = true by rw [hW]; exact row_one _)
  have N0 := Lib.hid (show Blk w4 g 146 Y from (A0.below hb3 A0.lt).below D3 ((A0.below hb3 A0.lt).lt))
  have N1 := Lib.hid (show Blk w4 (g + 1) 146 #[Value.int .u32 0, Value.int .u32 0, Value.int .u32 0, Value.int .u32 0, Value.int .u32 0, Value.int .u32 0, Value.int .u32 0, Value.int .u32 0] from (A1.below hb3 A1.lt).below D3 (A1.below hb3 A1.lt).lt)
  have Nq := Lib.hid (show Blk w4 q 164 W by rw [hw4, hq]; exact (Blk.new w3 164 X).put W)
  have B4 : Below w.heap.size w w4 := below_go (below_go AB hb3) D3
  have HB4 := Lib.hid B4
  have HKS := Lib.hid (show Consts w4 from HK.out.below B4)
  have HQ := Lib.hid hq
  have HGQ := Lib.hid hgq
  have HN := Lib.hid hN
  have HW := Lib.hid hW
  have HLL := Lib.hid hLl
  have hq4 : w4.heap.size = q + 1 := by rw [hw4, hq]; simp
  clear A0 A1 hLl hL hN hq hgq D3 B4 hWs hW hb3 AB
  have HHY := Lib.hid hy
  have HHX := Lib.hid hx
  clear hy
  go_wp2_with (first
    | (rw [← HQ.out]; refine wpList_store_row rfl 164 _ _ rfl q W rfl rfl 164 X HMq.out HWi.out HXW.out HWo.out ?_; rw [← hw4]))
  clear hx hw4
  obtain ⟨a0, b0, c0, d0, e0, f0, g0, h0⟩ := S
  have N0 := N0.out
  rw [HY.out] at N0
  obtain ⟨z0, z1, z2, z3, z4, z5, z6, z7⟩ := N0.row8
  dsimp only at z0 z1 z2 z3 z4 z5 z6 z7
  have HN0 := Lib.hid N0
  have HHZ := Lib.hid hz
  clear N0
  have HB4q := Lib.hid hq4
  clear hq4
  generalize hQ : Exit.then _ (bodyPost _ _ _) = QQ
  have key : ∀ (g6 g7 : Nat) (w' : World), Hid (g6 ≠ g7 ∧ q < g6 ∧ q < g7 ∧ Blk w' g6 167 (row4 a0 b0 c0 d0) ∧ Blk w' g7 167 (row4 e0 f0 g0 h0) ∧ Below w4.heap.size w4 w') → QQ .normal { tmps := #[Value.agg Y, Value.slice A 64 c, Value.pointer (some ⟨g, 0, none⟩), undef, Value.pointer (some ⟨g + 1, 0, none⟩), Value.pointer (some ⟨q, 0, none⟩), Value.pointer (some ⟨g6, 0, none⟩), Value.pointer (some ⟨g7, 0, none⟩), undef, undef, undef, undef, undef, Value.slice A 64 c, Value.agg W, Value.slice (some ⟨g, 0, none⟩) 4 8, Value.pointer (some ⟨g, 0, none⟩), Value.agg #[wordV a0, wordV b0, wordV c0, wordV d0], Value.slice (some ⟨g, 4, none⟩) 4 4, Value.pointer (some ⟨g, 4, none⟩), Value.agg #[wordV e0, wordV f0, wordV g0, wordV h0], undef, undef, undef, undef, undef, undef, undef, undef, undef, undef, undef, undef, undef, undef, undef, undef, undef, undef, undef, undef, undef, undef, undef, undef, undef, undef, undef, undef, undef, undef, undef, undef, undef, undef, undef, undef, undef, undef, undef, undef, undef, undef, undef, undef, undef, undef, undef, undef, undef, undef, undef, undef, undef, undef, undef, undef, undef, undef, undef, undef, undef, undef, undef, undef, undef, undef, undef, undef, undef, undef, undef, undef, undef, undef, undef, undef, undef, undef, undef, undef, undef, undef, undef, undef, undef, undef, undef, undef, undef, undef, undef, undef, undef, undef, undef], defers := [] } w' := by
    intro g6 g7 w' HP
    rw [← hQ]
    clear hQ z0 z1 z2 z3 z4 z5 z6 z7
    obtain ⟨n67, l6, l7, M6, M7, MB⟩ := HP.out
    clear HP
    obtain ⟨ty, fr, hkr⟩ := (HKS.out.below MB).goRow
    have hlt4 : g < w4.heap.size := HN0.out.lt
    have HE0 := Lib.hid (show Blk w' g 146 (rowS ⟨a0, b0, c0, d0, e0, f0, g0, h0⟩) from HN0.out.below MB HN0.out.lt)
    have HE1 := Lib.hid (show Blk w' (g + 1) 146 #[Value.int .u32 0, Value.int .u32 0, Value.int .u32 0, Value.int .u32 0, Value.int .u32 0, Value.int .u32 0, Value.int .u32 0, Value.int .u32 0] from N1.out.below MB N1.out.lt)
    have HEq := Lib.hid (show Blk w' q 164 W from Nq.out.below MB Nq.out.lt)
    have HE6 := Lib.hid M6
    have HE7 := Lib.hid M7
    have HNE := Lib.hid (And.intro n67 (And.intro l6 l7))
    have HEB := Lib.hid (below_go HB4.out MB)
    obtain ⟨K, hK⟩ : ∃ K, K = kRow := ⟨_, rfl⟩
    rw [← hK] at hkr
    have HKR := Lib.hid hkr
    have HKE := Lib.hid hK
    have HKI := Lib.hid (show (Tryz.prog.info? 164).map (·.size) = some K.size by rw [hK, kRow, rowW_size (by simp)]; exact HSX.out)
    have HZ4 := Lib.hid hz
    clear n67 l6 l7 M6 M7 MB hkr hlt4 hK hz N1 Nq
    go_wp2_with (first | (refine wpList_load_row rfl 164 _ rfl 2 rfl ty K fr _ HKR.out Tryz.underlying164 rfl HKI.out ?_))
    go_loopw [22] (fun x wr => ∃ (t : Nat) (a b c d e f h k : W32), t ≤ 64 ∧ Hid (Reg.rounds L ⟨a0, b0, c0, d0, e0, f0, g0, h0⟩ t = ⟨a, b, c, d, e, f, h, k⟩) ∧ x = .int .i64 t ∧ Hid (Blk wr g6 167 (row4 a b c d)) ∧ Hid (Blk wr g7 167 (row4 e f h k)) ∧ Hid (Keep [g6, g7] w' wr)) (fun x _ => 64 - (intOf x).toNat)
    case atStart => exact ⟨0, a0, b0, c0, d0, e0, f0, g0, h0, by omega, Lib.hid rfl, rfl, HE6, HE7, Lib.hid (Keep.refl _ _)⟩
    case round =>
      obtain ⟨t, a, bb, cc, d, e, f, gg, h, ht, HT, rfl, M6, M7, B⟩ := hrel
      by_cases hlt : t < 64
      · have i1 : (0 : Int) ≤ (t : Int) := by omega
        have i2 : (t : Int) < 64 := by omega
        obtain ⟨kk, hkk⟩ : ∃ kk, kk = kW t := ⟨_, rfl⟩
        obtain ⟨ww, hww⟩ : ∃ ww, ww = L.getD t 0 := ⟨_, rfl⟩
        have HT3 := Lib.hid (show Reg.rounds L ⟨a0, b0, c0, d0, e0, f0, g0, h0⟩ (t + 1) = (⟨a, bb, cc, d, e, f, gg, h⟩ : Reg).round kk ww by rw [hkk, hww, Reg.rounds, HT.out])
        have ki : ∀ w, (Instr.index 164 (.agg K) (.int .i64 (t : Int))).run Tryz.prog w = .ok (wordV kk) w := by rw [HKE.out, hkk]; exact index_k hlt
        have xq : wr.cell? ⟨q, t, none⟩ = some (wordV ww) := by
          have := HEq.out.keepB B.out (by have := HNE.out; simp; omega)
          exact (this.cell t).trans (by rw [HW.out, hww]; exact rowW_get (by rw [HLL.out]; exact hlt))
        clear hkk hww
        obtain ⟨y0, y1, y2, y3⟩ := M6.out.row4
        obtain ⟨y4, y5, y6, y7⟩ := M7.out.row4
        obtain ⟨r6, r11, r25, p1, p2, q1, n1, n2, n3, n4, q2, q3, q4, r2, r13, r22, s1, s2, m1, m2, m3, m4, m5, y, ea, aa, F⟩ := round_facts a bb cc d e f gg h kk ww
        have HF := Lib.hid F
        have e3 := F.a1
        have e3' := F.a1'
        have e4 := F.b1
        have e5 := xormax F.b2
        have sg : IntKind.u32.signed = false := rfl
        have e6 := F.b3
        have e7 := F.b4
        have e8 := F.a2
        have e8' := F.a2'
        have e9 := F.a3
        have e9' := F.a3'
        have e10 := F.a4
        have e10' := F.a4'
        clear F
        go_wp2_with fail
        refine wp_region_quiet_lit (by kernel_rfl) (by kernel_rfl) ?_
        iterate 4 (go_big_quiet_step (fail))
        go_big_quiet_step ((go_at_call 111; with_reducible exact Calls.quiet_of_same (mixE_as HF.out.mixE _)))
        iterate 21 (go_big_quiet_step (fail))
        refine wpQuiet_nil ?_
        intro _ hw'
        obtain ⟨nq, hw''⟩ := hw'
        subst hw''
        clear sg e3 e3' e4 e5 e6 e7 e8 e8' e9 e9' e10 e10' xq y4 y5 y6 y7
        obtain ⟨w6, hw6⟩ : ∃ w6, w6 = wr.drewN nq := ⟨_, rfl⟩
        rw [← hw6]
        have M6 := Lib.hid (show Blk w6 g6 167 (row4 a bb cc d) by rw [hw6]; exact M6.out.drewN nq)
        have M7 := Lib.hid (show Blk w6 g7 167 (row4 e f gg h) by rw [hw6]; exact M7.out.drewN nq)
        have B := Lib.hid (show Keep [g6, g7] w' w6 by rw [hw6]; exact B.out.drewN nq)
        clear y0 y1 y2 y3 hw6
        obtain ⟨y0, y1, y2, y3⟩ := M6.out.row4
        have e1 := HF.out.d1
        have e2 := HF.out.d2
        have e3 := HF.out.d3
        have e4 := HF.out.d4
        have e5 := HF.out.d5
        have e6 := HF.out.d6
        have e6' := HF.out.d6'
        go_wp2_with fail
        refine wp_region_quiet_lit (by kernel_rfl) (by kernel_rfl) ?_
        iterate 2 (go_big_quiet_step (fail))
        go_big_quiet_step ((go_at_call 111; with_reducible exact Calls.quiet_of_same (mixA_as HF.out.mixA _)))
        iterate 19 (go_big_quiet_step (fail))
        refine wpQuiet_nil ?_
        intro _ hw'
        obtain ⟨nq', hw''⟩ := hw'
        subst hw''
        clear e1 e2 e3 e4 e5 e6 e6' y0 y1 y2 y3
        obtain ⟨w7, hw7⟩ : ∃ w7, w7 = w6.drewN nq' := ⟨_, rfl⟩
        rw [← hw7]
        have M6 := Lib.hid (show Blk w7 g6 167 (row4 a bb cc d) by rw [hw7]; exact M6.out.drewN nq')
        have M7 := Lib.hid (show Blk w7 g7 167 (row4 e f gg h) by rw [hw7]; exact M7.out.drewN nq')
        have B := Lib.hid (show Keep [g6, g7] w' w7 by rw [hw7]; exact B.out.drewN nq')
        clear hw7
        have e1 := HF.out.f1
        have e1' := HF.out.f1'
        have e2 := HF.out.f2
        have e2' := HF.out.f2'
        obtain ⟨E2, hE2⟩ : ∃ E2, E2 = row4 ea e f gg := ⟨_, rfl⟩
        obtain ⟨V2, hV2⟩ : ∃ V2, V2 = row4 aa a bb cc := ⟨_, rfl⟩
        have hE3 : #[wordV ea, wordV e, wordV f, wordV gg] = E2 := hE2.symm
        have hV3 : #[wordV aa, wordV a, wordV bb, wordV cc] = V2 := hV2.symm
        have HE2i := Lib.hid (show (Tryz.prog.info? 167).map (·.size) = some E2.size by rw [hE2]; exact HSZ.out)
        have HV2i := Lib.hid (show (Tryz.prog.info? 167).map (·.size) = some V2.size by rw [hV2]; exact HSZ.out)
        have HE2s := Lib.hid (show (row4 e f gg h).size = E2.size by rw [hE2]; rfl)
        have HV2s := Lib.hid (show (row4 a bb cc d).size = V2.size by rw [hV2]; rfl)
        have HE2o := Lib.hid (show E2.all (·.oneCell') = true by rw [hE2]; simp [row4, Value.oneCell'])
        have HV2o := Lib.hid (show V2.all (·.oneCell') = true by rw [hV2]; simp [row4, Value.oneCell'])
        have HM7 := Lib.hid (show w7.heap[g7]? = some (.cells (row4 e f gg h) 167 (0, 0)) from M7.out)
        obtain ⟨w8, hw8⟩ : ∃ w8, w8 = w7.setRow g7 E2 := ⟨_, rfl⟩
        have N6 := Lib.hid (show Blk w8 g6 167 (row4 a bb cc d) by rw [hw8]; exact M6.out.other_row HNE.out.1 E2)
        have N7 := Lib.hid (show Blk w8 g7 167 (row4 ea e f gg) by rw [hw8, ← hE2]; exact M7.out.put E2)
        have NB := Lib.hid (show Keep [g6, g7] w' w8 by rw [hw8]; exact B.out.trans (keep_row _ (by simp) E2))
        have HM6 := Lib.hid (show w8.heap[g6]? = some (.cells (row4 a bb cc d) 167 (0, 0)) from N6.out)
        obtain ⟨w9, hw9⟩ : ∃ w9, w9 = w8.setRow g6 V2 := ⟨_, rfl⟩
        have O6 := Lib.hid (show Blk w9 g6 167 (row4 aa a bb cc) by rw [hw9, ← hV2]; exact N6.out.put V2)
        have O7 := Lib.hid (show Blk w9 g7 167 (row4 ea e f gg) by rw [hw9]; exact N7.out.other_row (fun e => HNE.out.1 e.symm) V2)
        have OB := Lib.hid (show Keep [g6, g7] w' w9 by rw [hw9]; exact NB.out.trans (keep_row _ (by simp) V2))
        obtain ⟨y0, y1, y2, y3⟩ := M6.out.row4
        obtain ⟨y4, y5, y6, y7⟩ := M7.out.row4
        have HY6 := Lib.hid N6.out.row4
        have hz := HZ4.out
        have HW8 := Lib.hid hw8
        have HW9 := Lib.hid hw9
        clear hE2 hV2 hw8 hw9
        go_wp2_with (first
          | (refine wpList_store_row rfl 167 _ _ rfl g7 E2 rfl rfl 167 (row4 e f gg h) HM7.out HE2i.out HE2s.out HE2o.out ?_; rw [← HW8.out]; clear y0 y1 y2 y3 y4 y5 y6 y7; obtain ⟨y0, y1, y2, y3⟩ := HY6.out)
          | (refine wpList_store_row rfl 167 _ _ rfl g6 V2 rfl rfl 167 (row4 a bb cc d) HM6.out HV2i.out HV2s.out HV2o.out ?_; rw [← HW9.out]))
        go_roundw
        case rel => exact ⟨t + 1, aa, a, bb, cc, ea, e, f, gg, by omega, Lib.hid (HT3.out.trans HF.out.all), by go_num, O6, O7, OB⟩
        case measure => simp [intOf]; omega
      · obtain rfl : t = 64 := by omega
        rw [show ((64 : Nat) : Int) = 64 by omega]
        obtain ⟨s, hs⟩ : ∃ s : Nat → W32, s = fun k => ([a0, b0, c0, d0, e0, f0, g0, h0] : List W32).getD k 0 := ⟨_, rfl⟩
        obtain ⟨r, hr⟩ : ∃ r : Nat → W32, r = fun k => ([a, bb, cc, d, e, f, gg, h] : List W32).getD k 0 := ⟨_, rfl⟩
        have hfin : rowE (fI s r 4) = rowS ((⟨a0, b0, c0, d0, e0, f0, g0, h0⟩ : Reg).compress b) := by rw [HN.out, HT.out, hs, hr]; rfl
        have HFIN := Lib.hid hfin
        have nG : g ∉ [g6, g7] ∧ g + 1 ∉ [g6, g7] := by have := HNE.out; have := HGQ.out; simp; omega
        have P0 := Lib.hid (show Blk wr g 146 (rowE (fI s r 0)) by rw [show rowE (fI s r 0) = rowS ⟨a0, b0, c0, d0, e0, f0, g0, h0⟩ by rw [hs]; rfl]; exact HE0.out.keepB B.out nG.1)
        have P1 := Lib.hid (show Blk wr (g + 1) 146 #[Value.int .u32 0, Value.int .u32 0, Value.int .u32 0, Value.int .u32 0, Value.int .u32 0, Value.int .u32 0, Value.int .u32 0, Value.int .u32 0] from HE1.out.keepB B.out nG.2)
        have PB := Lib.hid (show Below w.heap.size w wr from HEB.out.trans (B.out.below (B := w.heap.size) HEB.out.size (by have := HNE.out; have := HGQ.out; have := HG.out; intro k hk; simp at hk; omega)))
        have HSF := Lib.hid hs
        have HRF := Lib.hid hr
        clear hfin nG hs hr
        go_wp2_with fail
        go_loopw [94] (fun x wr => ∃ i : Nat, i ≤ 4 ∧ x = .int .i64 i ∧ Hid (Blk wr g 146 (rowE (fI s r i))) ∧ Hid (Blk wr (g + 1) 146 #[Value.int .u32 0, Value.int .u32 0, Value.int .u32 0, Value.int .u32 0, Value.int .u32 0, Value.int .u32 0, Value.int .u32 0, Value.int .u32 0]) ∧ Hid (Blk wr g6 167 (row4 a bb cc d)) ∧ Hid (Blk wr g7 167 (row4 e f gg h)) ∧ Hid (Below w.heap.size w wr)) (fun x _ => 4 - (intOf x).toNat)
        case atStart => exact ⟨0, by omega, rfl, P0, P1, M6, M7, PB⟩
        case round =>
          clear P0 P1 M6 M7 PB B
          obtain ⟨i, hi, rfl, P0, P1, M6, M7, PB⟩ := hrel
          by_cases hlt : i < 4
          · have i1 : (0 : Int) ≤ (i : Int) := by omega
            have i2 : (i : Int) < 4 := by omega
            have i3 : (i : Int) < 8 := by omega
            obtain ⟨x, hx⟩ : ∃ x, x = s i := ⟨_, rfl⟩
            obtain ⟨y, hy⟩ : ∃ y, y = r i := ⟨_, rfl⟩
            obtain ⟨z, hz⟩ : ∃ z, z = x + y := ⟨_, rfl⟩
            have ad := add32 x y
            have ad' := add32m x y
            rw [← hz] at ad ad'
            have x0 : wr.cell? ⟨g, i, none⟩ = some (wordV x) := (P0.out.cell i).trans (by rw [rowE_get _ (by omega), fI_lo s r hlt, hx])
            have x1 : wr.cell? ⟨g6, i, none⟩ = some (wordV y) := (M6.out.cell i).trans (by rw [row4_get _ _ _ _ hlt, hy, HRF.out, getD_lo a bb cc d e f gg h hlt])
            have f1 := P0.out.frozen i
            obtain ⟨w5, hw5⟩ : ∃ w5, w5 = (wr.setCell ⟨g, i, none⟩ (wordV z)).drew := ⟨_, rfl⟩
            have nG : g6 ≠ g ∧ g7 ≠ g := by have := HNE.out; have := HGQ.out; omega
            have Q0 := Lib.hid (show Blk w5 g 146 (rowE (fH s r i)) by
              have := (P0.out.set_ i (wordV z)).drewN 1
              rw [hz, hx, hy, rowE_half s r hlt] at this
              rw [hw5, hz, hx, hy]; exact this)
            have Q1 := Lib.hid (show Blk w5 (g + 1) 146 #[Value.int .u32 0, Value.int .u32 0, Value.int .u32 0, Value.int .u32 0, Value.int .u32 0, Value.int .u32 0, Value.int .u32 0, Value.int .u32 0] by rw [hw5]; exact (P1.out.other (p := ⟨g, i, none⟩) (by show g ≠ g + 1; omega) _).drewN 1)
            have Q6 := Lib.hid (show Blk w5 g6 167 (row4 a bb cc d) by rw [hw5]; exact (M6.out.other (p := ⟨g, i, none⟩) (fun e => nG.1 e.symm) _).drewN 1)
            have Q7 := Lib.hid (show Blk w5 g7 167 (row4 e f gg h) by rw [hw5]; exact (M7.out.other (p := ⟨g, i, none⟩) (fun e => nG.2 e.symm) _).drewN 1)
            have QB := Lib.hid (show Below w.heap.size w w5 by rw [hw5]; exact (PB.out.setCell (p := ⟨g, i, none⟩) (by have := HG.out; show w.heap.size ≤ g; omega) _).drew)
            have HW5 := Lib.hid hw5
            have HNG := Lib.hid nG
            clear hx hy hz hw5 nG
            go_wp2_with fail
            go_region_law (fail)
            all_goals
              rw [← HW5.out]
              clear ad ad' x0 x1 f1
              obtain ⟨x', hx⟩ : ∃ x, x = s (i + 4) := ⟨_, rfl⟩
              obtain ⟨y', hy⟩ : ∃ y, y = r (i + 4) := ⟨_, rfl⟩
              obtain ⟨z', hz⟩ : ∃ z, z = x' + y' := ⟨_, rfl⟩
              have ad := add32 x' y'
              have ad' := add32m x' y'
              rw [← hz] at ad ad'
              have x0 : w5.cell? ⟨g, i + 4, none⟩ = some (wordV x') := (Q0.out.cell (i + 4)).trans (by rw [rowE_get _ (by omega), fH_hi s r hlt, hx])
              have x1 : w5.cell? ⟨g7, i, none⟩ = some (wordV y') := (Q7.out.cell i).trans (by rw [row4_get _ _ _ _ hlt, hy, HRF.out, getD_hi a bb cc d e f gg h hlt])
              have f1 := Q0.out.frozen (i + 4)
              have i4 : (0 : Int) ≤ (i : Int) + 4 := by omega
              have i5 : (i : Int) + 4 < 8 := by omega
              have i6 : IntKind.i64.wrap ((i : Int) + 4) = (i : Int) + 4 := IntWalk.i64_in _ (by omega)
              have i7 : ((i : Int) + 4).toNat = i + 4 := by omega
              obtain ⟨w6, hw6⟩ : ∃ w6, w6 = (w5.setCell ⟨g, i + 4, none⟩ (wordV z')).drew := ⟨_, rfl⟩
              have R0 := Lib.hid (show Blk w6 g 146 (rowE (fI s r (i + 1))) by
                have := (Q0.out.set_ (i + 4) (wordV z')).drewN 1
                rw [hz, hx, hy, rowE_full s r hlt] at this
                rw [hw6, hz, hx, hy]; exact this)
              have R1 := Lib.hid (show Blk w6 (g + 1) 146 #[Value.int .u32 0, Value.int .u32 0, Value.int .u32 0, Value.int .u32 0, Value.int .u32 0, Value.int .u32 0, Value.int .u32 0, Value.int .u32 0] by rw [hw6]; exact (Q1.out.other (p := ⟨g, i + 4, none⟩) (by show g ≠ g + 1; omega) _).drewN 1)
              have R6 := Lib.hid (show Blk w6 g6 167 (row4 a bb cc d) by rw [hw6]; exact (Q6.out.other (p := ⟨g, i + 4, none⟩) (fun e => HNG.out.1 e.symm) _).drewN 1)
              have R7 := Lib.hid (show Blk w6 g7 167 (row4 e f gg h) by rw [hw6]; exact (Q7.out.other (p := ⟨g, i + 4, none⟩) (fun e => HNG.out.2 e.symm) _).drewN 1)
              have RB := Lib.hid (show Below w.heap.size w w6 by rw [hw6]; exact (QB.out.setCell (p := ⟨g, i + 4, none⟩) (by have := HG.out; show w.heap.size ≤ g; omega) _).drew)
              have HW6 := Lib.hid hw6
              clear hx hy hz hw6
              go_wp2_with fail
              go_region_law (fail)
              all_goals
                rw [← HW6.out]
                go_wp2_with fail
                go_roundw
                case rel => exact ⟨i + 1, by omega, by go_num, R0, R1, R6, R7, RB⟩
                case measure => simp [intOf]; omega
          · obtain rfl : i = 4 := by omega
            obtain ⟨R, hR⟩ : ∃ R, R = rowS ((⟨a0, b0, c0, d0, e0, f0, g0, h0⟩ : Reg).compress b) := ⟨_, rfl⟩
            have hM := P0.out
            rw [HFIN.out, ← hR] at hM
            have HI := Lib.hid (show (Tryz.prog.info? 146).map (·.size) = some R.size by rw [hR, rowS_size]; exact HSY.out)
            have HZs := Lib.hid (show (#[Value.int .u32 0, Value.int .u32 0, Value.int .u32 0, Value.int .u32 0, Value.int .u32 0, Value.int .u32 0, Value.int .u32 0, Value.int .u32 0] : Array Value).size = R.size by rw [hR, rowS_size]; rfl)
            have HO := Lib.hid (show R.all (·.oneCell') = true by rw [hR]; exact rowS_one _)
            have HM1 := Lib.hid (show wr.heap[g]? = some (.cells R 146 (0, 0)) from hM)
            have HM0 := Lib.hid (show wr.heap[g + 1]? = some (.cells #[Value.int .u32 0, Value.int .u32 0, Value.int .u32 0, Value.int .u32 0, Value.int .u32 0, Value.int .u32 0, Value.int .u32 0, Value.int .u32 0] 146 (0, 0)) from P1.out)
            have HB := Lib.hid (below_row PB.out (g := g + 1) (by have := HG.out; omega) R)
            rw [← hR]
            have HR := Lib.hid hR
            clear hM hR
            go_wp2_with (first
              | (refine wpList_load_row rfl 146 _ rfl g rfl 146 R (0, 0) _ HM1.out Tryz.underlying146 rfl HI.out ?_)
              | (refine wpList_store_row rfl 146 _ _ rfl (g + 1) R rfl rfl 146 #[Value.int .u32 0, Value.int .u32 0, Value.int .u32 0, Value.int .u32 0, Value.int .u32 0, Value.int .u32 0, Value.int .u32 0, Value.int .u32 0] HM0.out HI.out HZs.out HO.out ?_))
            refine bodyPost_ret (v := .agg R) ?_ rfl ⟨by rw [HR.out], HB.out⟩
            exact results_cell_row rfl _ _ (g + 1) _ _ _ _ rfl (P1.out.put R) Tryz.underlying146 rfl HI.out
  clear hQ
  have kA := fun w' => key w4.heap.size (w4.heap.size + 1) w'
  have kB := fun w' => key (w4.heap.size + 1) w4.heap.size w'
  have HKA := Lib.hid kA
  have HKB := Lib.hid kB
  clear key kA kB
  have ha1 : ∀ w, (Instr.arrayAt 167 (.slice (some ⟨g, 0, none⟩) 4 8)).run Tryz.prog w = .ok (.pointer (some ⟨g, 0, none⟩)) w := fun w => run_arrayAt w 167 137 4 _ 4 8 Tryz.underlying167 (Nat.le_refl _)
  have ha2 : ∀ w, (Instr.arrayAt 167 (.slice (some ⟨g, 4, none⟩) 4 4)).run Tryz.prog w = .ok (.pointer (some ⟨g, 4, none⟩)) w := fun w => run_arrayAt w 167 137 4 _ 4 4 Tryz.underlying167 (Nat.le_refl _)
  go_region_held3 (fun W => W.cell? ⟨g, 0, none⟩ = some (wordV a0) ∧ W.cell? ⟨g, 1, none⟩ = some (wordV b0) ∧ W.cell? ⟨g, 2, none⟩ = some (wordV c0) ∧ W.cell? ⟨g, 3, none⟩ = some (wordV d0) ∧ W.cell? ⟨g, 4, none⟩ = some (wordV e0) ∧ W.cell? ⟨g, 5, none⟩ = some (wordV f0) ∧ W.cell? ⟨g, 6, none⟩ = some (wordV g0) ∧ W.cell? ⟨g, 7, none⟩ = some (wordV h0)) (go_keep) (fail)
  all_goals first
    | exact HKA.out _ (four_ab HB4q.out (row4 a0 b0 c0 d0) (row4 e0 f0 g0 h0) 167)
    | exact HKB.out _ (four_ba HB4q.out (row4 a0 b0 c0 d0) (row4 e0 f0 g0 h0) 167)
end Go.Proofs.YtddpjahoeldleaaGreatDoor
