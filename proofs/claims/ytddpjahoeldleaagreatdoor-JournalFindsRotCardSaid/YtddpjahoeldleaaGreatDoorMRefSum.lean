/- The reference's hash is sha56. -/
import Derived.Test.YtddpjahoeldleaaGreatDoorMAppend

namespace Go.Proofs.YtddpjahoeldleaaGreatDoor
open Go.RowKit

/-- block i of the padded message -/
def blkN (b : Bs) (i : Nat) : Bs := ((block1 b ++ block2).drop (64 * i)).take 64
def stN (b : Bs) : Nat → Reg
  | 0 => iv
  | i + 1 => (stN b i).compress (blkN b i)
theorem stN_two {b : Bs} (h : b.length = 56) : (stN b 2).bytes = sha56 b := by
  have h1 : (block1 b).length = 64 := by simp [block1, h]
  have e0 : blkN b 0 = block1 b := by unfold blkN; rw [Nat.mul_zero, List.drop_zero]; exact List.take_left' h1
  have e1 : blkN b 1 = block2 := by unfold blkN; rw [Nat.mul_one, List.drop_left' h1]; exact List.take_of_length_le (by decide)
  rw [stN, stN, stN, e0, e1, sha56]
theorem pad_len {b : Bs} (h : b.length = 56) : (block1 b ++ block2).length = 128 := by simp [block1, block2, h]
theorem own_keep {F : List Nat} {w w' : World} {base size n : Nat} {xs : List Value} {e : TypeId} {v : Value} (h : w.ownsRow base e size v n xs) (hk : Keep F w w') (hF : ∀ k, k ∈ F → k < base) : w'.ownsRow base e size v n xs := by
  refine ⟨h.1, ?_⟩
  rcases h.2 with h0 | ⟨g, cap, cur, hv, hbg, hg, hr⟩
  · exact .inl h0
  · refine .inr ⟨g, cap, cur, hv, hbg, (hk.block g (Array.getElem?_eq_some_iff.1 hg).1 fun hm => ?_).trans hg, hr⟩
    have := hF g hm
    omega
theorem keep_row {F : List Nat} (w : World) {g : Nat} (hg : g ∈ F) (c : Array Value) : Keep F w (w.setRow g c) :=
  ⟨rfl, rfl, rfl, (below_row (Below.refl 0 w) (Nat.zero_le g) c).size, fun k _ hF => setRow_other w g k c (fun e => hF (e ▸ hg))⟩
theorem rowS_get (R : Reg) {k : Nat} (h : k < 8) : (rowS R)[k]? = some (wordV (R.words.getD k 0)) := by
  have hk : k = 0 ∨ k = 1 ∨ k = 2 ∨ k = 3 ∨ k = 4 ∨ k = 5 ∨ k = 6 ∨ k = 7 := by omega
  rcases hk with rfl | rfl | rfl | rfl | rfl | rfl | rfl | rfl <;> rfl
theorem bytes_len (R : Reg) : R.bytes.length = 32 := rfl
theorem bytes_step (R : Reg) {j : Nat} (h : j < 32) : R.bytes.take (j + 1) = R.bytes.take j ++ [byteW (R.words.getD (j / 4) 0) (24 - 8 * (j % 4))] := by
  have hl : j < R.bytes.length := by rw [bytes_len]; exact h
  rw [List.take_succ_eq_append_getElem hl]
  have := bytes_at R h
  rw [List.getD_eq_getElem?_getD, List.getElem?_eq_getElem hl] at this
  rw [← this]; rfl
theorem byteCells_cut (m : Bs) (k n : Nat) : ((byteCells m).drop k).take n = byteCells ((m.drop k).take n) := by simp [byteCells, List.map_take, List.map_drop]
theorem Blk.row8 {w : World} {g : Nat} {t : TypeId} {R : Reg} (h : Blk w g t (rowS R)) :
    w.cell? ⟨g, 0, none⟩ = some (wordV R.a) ∧ w.cell? ⟨g, 1, none⟩ = some (wordV R.b) ∧ w.cell? ⟨g, 2, none⟩ = some (wordV R.c) ∧ w.cell? ⟨g, 3, none⟩ = some (wordV R.d) ∧ w.cell? ⟨g, 4, none⟩ = some (wordV R.e) ∧ w.cell? ⟨g, 5, none⟩ = some (wordV R.f) ∧ w.cell? ⟨g, 6, none⟩ = some (wordV R.g) ∧ w.cell? ⟨g, 7, none⟩ = some (wordV R.h) :=
  ⟨h.cell 0, h.cell 1, h.cell 2, h.cell 3, h.cell 4, h.cell 5, h.cell 6, h.cell 7⟩

theorem rotr2_as {x y : W32} (h : rotr x 2 = y) (w : World) : Calls Tryz.prog 109 #[wordV x, .int .i64 2] w fun e w' => e = .returned (wordV y) ∧ ∃ k, w' = w.drewN k := rotr_as h (by omega) (by omega) w
theorem rotr6_as {x y : W32} (h : rotr x 6 = y) (w : World) : Calls Tryz.prog 109 #[wordV x, .int .i64 6] w fun e w' => e = .returned (wordV y) ∧ ∃ k, w' = w.drewN k := rotr_as h (by omega) (by omega) w
theorem rotr11_as {x y : W32} (h : rotr x 11 = y) (w : World) : Calls Tryz.prog 109 #[wordV x, .int .i64 11] w fun e w' => e = .returned (wordV y) ∧ ∃ k, w' = w.drewN k := rotr_as h (by omega) (by omega) w
theorem rotr13_as {x y : W32} (h : rotr x 13 = y) (w : World) : Calls Tryz.prog 109 #[wordV x, .int .i64 13] w fun e w' => e = .returned (wordV y) ∧ ∃ k, w' = w.drewN k := rotr_as h (by omega) (by omega) w
theorem rotr22_as {x y : W32} (h : rotr x 22 = y) (w : World) : Calls Tryz.prog 109 #[wordV x, .int .i64 22] w fun e w' => e = .returned (wordV y) ∧ ∃ k, w' = w.drewN k := rotr_as h (by omega) (by omega) w
theorem rotr25_as {x y : W32} (h : rotr x 25 = y) (w : World) : Calls Tryz.prog 109 #[wordV x, .int .i64 25] w fun e w' => e = .returned (wordV y) ∧ ∃ k, w' = w.drewN k := rotr_as h (by omega) (by omega) w

set_option maxHeartbeats 4000000 in
set_option maxRecDepth 100000 in
theorem rsum_any (A : Option Addr) (c : Nat) (b : Bs) (w : World) (h : Rd w w.heap.size 1 A 56 (byteCells b)) (hk : RConsts w) :
    Calls Tryz.prog 99 #[.slice A 56 c] w (RetB (.agg (rowB 32 (sha56 b))) w) := by
  obtain ⟨hz, hsz⟩ := zero_of_info info32b
  obtain ⟨hy, hsy⟩ := zero_of_info info8w
  obtain ⟨hx, hsx⟩ := zero_of_info info64w
  have hbl : b.length = 56 := by have := h.1; rw [byteCells_len] at this; omega
  have HBL := Lib.hid hbl
  have H := Lib.hid h
  have HK := Lib.hid hk
  obtain ⟨Z, hZ⟩ : ∃ Z, Z = rowB 32 [] := ⟨_, rfl⟩
  obtain ⟨X, hX⟩ : ∃ X, X = rowW [] := ⟨_, rfl⟩
  obtain ⟨V, hV⟩ : ∃ V, V = rowS iv := ⟨_, rfl⟩
  have HZ := Lib.hid hZ
  have HX := Lib.hid hX
  have HV := Lib.hid hV
  have hV2 : #[Value.int .u32 1779033703, .int .u32 3144134277, .int .u32 1013904242, .int .u32 2773480762, .int .u32 1359893119, .int .u32 2600822924, .int .u32 528734635, .int .u32 1541459225] = V := by rw [hV]; rfl
  rw [← hZ] at hz
  replace hy : ∀ w, (zeroValue 146).run Tryz.prog w = .ok (.agg #[Value.int .u32 0, Value.int .u32 0, Value.int .u32 0, Value.int .u32 0, Value.int .u32 0, Value.int .u32 0, Value.int .u32 0, Value.int .u32 0]) w := hy
  rw [← hX] at hx
  have hVi : (Tryz.prog.info? 146).map (·.size) = some V.size := by rw [hV]; exact hsy
  have hYV : (#[Value.int .u32 0, Value.int .u32 0, Value.int .u32 0, Value.int .u32 0, Value.int .u32 0, Value.int .u32 0, Value.int .u32 0, Value.int .u32 0] : Array Value).size = V.size := by rw [hV]; rfl
  have hVo : V.all (·.oneCell') = true := by rw [hV]; exact rowS_one _
  have HVi := Lib.hid hVi
  have HYV := Lib.hid hYV
  have HSX := Lib.hid hsx
  have HSZ := Lib.hid hsz
  have HVo := Lib.hid hVo
  clear h hk hbl hZ hX hV hVi hYV hVo hsz hsy hsx
  obtain ⟨g, hg⟩ : ∃ g, g = w.heap.size := ⟨_, rfl⟩
  have B0 := Blk.new w 125 Z
  have B1 := Blk.new (w.alloc (.cells Z 125)) 146 #[Value.int .u32 0, Value.int .u32 0, Value.int .u32 0, Value.int .u32 0, Value.int .u32 0, Value.int .u32 0, Value.int .u32 0, Value.int .u32 0]
  rw [show (w.alloc (.cells Z 125)).heap.size = g + 1 by rw [hg]; simp] at B1
  have B0' := B0.below (below_new (w.alloc (.cells Z 125)) (.cells #[Value.int .u32 0, Value.int .u32 0, Value.int .u32 0, Value.int .u32 0, Value.int .u32 0, Value.int .u32 0, Value.int .u32 0, Value.int .u32 0] 146)) B0.lt
  rw [← hg] at B0'
  have BB := (below_new w (.cells Z 125)).alloc (by simp) (.cells #[Value.int .u32 0, Value.int .u32 0, Value.int .u32 0, Value.int .u32 0, Value.int .u32 0, Value.int .u32 0, Value.int .u32 0, Value.int .u32 0] 146)
  have HM := Lib.hid (show ((w.alloc (.cells Z 125)).alloc (.cells #[Value.int .u32 0, Value.int .u32 0, Value.int .u32 0, Value.int .u32 0, Value.int .u32 0, Value.int .u32 0, Value.int .u32 0, Value.int .u32 0] 146)).heap[g + 1]? = some (.cells #[Value.int .u32 0, Value.int .u32 0, Value.int .u32 0, Value.int .u32 0, Value.int .u32 0, Value.int .u32 0, Value.int .u32 0, Value.int .u32 0] 146 (0, 0)) from B1)
  obtain ⟨w1, hw1⟩ : ∃ w1, w1 = (((w.alloc (.cells Z 125)).alloc (.cells #[Value.int .u32 0, Value.int .u32 0, Value.int .u32 0, Value.int .u32 0, Value.int .u32 0, Value.int .u32 0, Value.int .u32 0, Value.int .u32 0] 146)).setRow (g + 1) V) := ⟨_, rfl⟩
  have HB0 := Lib.hid (show Blk w1 g 125 Z by rw [hw1]; exact B0'.other_row (Nat.ne_of_lt (Nat.lt_succ_self g)) V)
  have HB1 := Lib.hid (show Blk w1 (g + 1) 146 V by rw [hw1]; exact B1.put V)
  have HBB := Lib.hid (show Below w.heap.size w w1 by rw [hw1]; exact below_row BB (by rw [hg]; exact Nat.le_succ _) V)
  have HG := Lib.hid hg
  clear B0 B1 B0' BB hg
  go_enter Tryz.func99, Tryz.ntmps99
  go_wp2_with (first
    | (rw [← HG.out]; refine wpList_store_row rfl 146 _ _ rfl (g + 1) V rfl rfl 146 #[Value.int .u32 0, Value.int .u32 0, Value.int .u32 0, Value.int .u32 0, Value.int .u32 0, Value.int .u32 0, Value.int .u32 0, Value.int .u32 0] HM.out HVi.out HYV.out HVo.out ?_; rw [← hw1]))
  try rw [← hw1]
  have HW1 := Lib.hid hw1
  have HHY := Lib.hid hy
  have HHZ := Lib.hid hz
  clear hw1 hy hz
  refine (padded_any A c b w1 (H.out.go HBB.out)).mono ?_
  rintro e w2 hpost
  obtain ⟨v2, rfl, hown, hb2⟩ := hpost
  obtain ⟨A2, c2, rfl, hc2⟩ := own_slice hown
  have HOWN := Lib.hid hown
  have HE0 := Lib.hid (show Blk w2 g 125 Z from HB0.out.below hb2 HB0.out.lt)
  have HE1 := Lib.hid (show Blk w2 (g + 1) 146 (rowS (stN b 0)) by rw [show stN b 0 = iv from rfl, ← HV.out]; exact HB1.out.below hb2 HB1.out.lt)
  have HE2 := Lib.hid (below_go HBB.out hb2)
  have HLT := Lib.hid (show g + 1 < w2.heap.size from Nat.lt_of_lt_of_le HB1.out.lt hb2.size)
  clear hown hb2 hV2
  go_wp2_with fail
  go_loopw [5] (fun x wr => ∃ i : Nat, i ≤ 2 ∧ x = .int .i64 ((64 * i : Nat) : Int) ∧ Hid (Blk wr g 125 Z) ∧ Hid (Blk wr (g + 1) 146 (rowS (stN b i))) ∧ Hid (Keep [g, g + 1] w2 wr)) (fun x _ => 128 - (intOf x).toNat)
  case atStart => exact ⟨0, by omega, rfl, HE0, HE1, Lib.hid (Keep.refl _ _)⟩
  case round =>
    obtain ⟨i, hi, rfl, M0, M1, B⟩ := hrel
    by_cases hlt : i < 2
    · have j0 : (0 : Int) ≤ (i : Int) := by omega
      have j1 : (i : Int) < 2 := by omega
      have k1 : (64 : Int) * (i : Int) + 64 ≤ (c2 : Int) := by omega
      have k2 : ¬ c2 = 64 * i := by omega
      have hR : Rd wr wr.heap.size 1 (A2.map (fun x => x.add (64 * i))) 64 (byteCells (blkN b i)) := by
        have hk := own_keep HOWN.out B.out (by have := HB1.out.lt; intro k hk; simp at hk; omega)
        have := (Rd.of_own hk).cut (k := 64 * i) (m := 64 * i + 64) (by omega) (by omega) hc2
        rw [if_neg k2, Nat.mul_one, byteCells_cut, show 64 * i + 64 - 64 * i = 64 by omega, Nat.mul_one] at this
        exact this
      have HR := Lib.hid hR
      clear hR
      go_wp2_with fail
      refine (words_any _ _ (blkN b i) wr HR.out).mono ?_
      rintro e w3 ⟨rfl, hb3⟩
      obtain ⟨L, hL⟩ : ∃ L, L = schedL (blkN b i) 64 := ⟨_, rfl⟩
      have hLl : L.length = 64 := by rw [hL, sched_len]
      rw [← hL]
      obtain ⟨W, hW⟩ : ∃ W, W = rowW L := ⟨_, rfl⟩
      rw [← hW]
      obtain ⟨S, hS⟩ : ∃ S, S = stN b i := ⟨_, rfl⟩
      have hN : stN b (i + 1) = S.plus (Reg.rounds L S 64) := by rw [stN, Reg.compress, ← hS, ← hL]
      obtain ⟨q, hq⟩ : ∃ q, q = w3.heap.size := ⟨_, rfl⟩
      obtain ⟨w4, hw4⟩ : ∃ w4, w4 = (w3.alloc (.cells X 164)).setRow q W := ⟨_, rfl⟩
      have hgq : g + 1 < q := by rw [hq]; exact Nat.lt_of_lt_of_le (Nat.lt_of_lt_of_le HLT.out B.out.size) hb3.size
      have D3 : Below w3.heap.size w3 w4 := by rw [hw4]; exact below_row (below_new w3 _) (Nat.le_of_eq hq.symm) W
      have D4 : Keep [g, g + 1] w2 w4 := B.out.trans ((Keep.of_below hb3 _).trans (Keep.of_below D3 _))
      have HMq := Lib.hid (show (w3.alloc (.cells X 164)).heap[q]? = some (.cells X 164 (0, 0)) by rw [hq]; exact Blk.new w3 164 X)
      have hWs : W.size = 64 := by rw [hW]; exact rowW_size (by rw [hLl]; exact Nat.le_refl _)
      have HWi := Lib.hid (show (Tryz.prog.info? 164).map (·.size) = some W.size by rw [hWs]; exact HSX.out)
      have HXW := Lib.hid (show X.size = W.size by rw [hWs, HX.out]; rfl)
      have HWo := Lib.hid (show W.all (·.oneCell') = true by rw [hW]; exact row_one _)
      have N0 := Lib.hid (show Blk w4 g 125 Z from (M0.out.below hb3 M0.out.lt).below D3 ((M0.out.below hb3 M0.out.lt).lt))
      have M1 := M1.out
      rw [← hS] at M1
      have N1 := Lib.hid (show Blk w4 (g + 1) 146 (rowS S) from (M1.below hb3 M1.lt).below D3 (M1.below hb3 M1.lt).lt)
      have Nq := Lib.hid (show Blk w4 q 164 W by rw [hw4, hq]; exact (Blk.new w3 164 X).put W)
      have HD4 := Lib.hid D4
      have HKS := Lib.hid (show RConsts w4 from (HK.out.below (HE2.out)).keep D4 (by have := HK.out.lt; have := HG.out; simp; omega))
      have HQ := Lib.hid hq
      have HN := Lib.hid hN
      have HW := Lib.hid hW
      have HLL := Lib.hid hLl
      clear M0 M1 hLl hL hS hN hq hgq D3 D4 hWs hW hb3 k1 k2 HR
      go_wp2_with (first
        | (rw [← HQ.out]; refine wpList_store_row rfl 164 _ _ rfl q W rfl rfl 164 X HMq.out HWi.out HXW.out HWo.out ?_; rw [← hw4]))
      clear hw4
      obtain ⟨a0, b0, d0, e0, f0, g0, h0, i0⟩ := S
      obtain ⟨z0, z1, z2, z3, z4, z5, z6, z7⟩ := N1.out.row8
      dsimp only at z0 z1 z2 z3 z4 z5 z6 z7
      go_quiet (fail)
      obtain ⟨w5, hw5⟩ : ∃ w5, w5 = w4.drewN nq := ⟨_, rfl⟩
      rw [← hw5]
      have HW5 := Lib.hid hw5
      have HY := Lib.hid (And.intro z0 (And.intro z1 (And.intro z2 (And.intro z3 (And.intro z4 (And.intro z5 (And.intro z6 z7)))))))
      clear hw5 z0 z1 z2 z3 z4 z5 z6 z7
      go_wp2_with fail
      go_loopw [7, 8, 9, 10, 11, 12, 13, 14, 15] (fun x7 x8 x9 x10 x11 x12 x13 x14 x15 wr => ∃ (t : Nat) (a b c d e f h k : W32), t ≤ 64 ∧ Hid (Reg.rounds L ⟨a0, b0, d0, e0, f0, g0, h0, i0⟩ t = ⟨a, b, c, d, e, f, h, k⟩) ∧ x7 = wordV a ∧ x8 = wordV b ∧ x9 = wordV c ∧ x10 = wordV d ∧ x11 = wordV e ∧ x12 = wordV f ∧ x13 = wordV h ∧ x14 = wordV k ∧ x15 = .int .i64 t ∧ ∃ m, wr = w5.drewN m) (fun _ _ _ _ _ _ _ _ x15 _ => 64 - (intOf x15).toNat)
      case atStart => exact ⟨0, a0, b0, d0, e0, f0, g0, h0, i0, by omega, Lib.hid rfl, rfl, rfl, rfl, rfl, rfl, rfl, rfl, rfl, rfl, 0, rfl⟩
      case round =>
        obtain ⟨t, a, bb, cc, d, e, f, gg, h, ht, HT, rfl, rfl, rfl, rfl, rfl, rfl, rfl, rfl, rfl, m, rfl⟩ := hrel
        by_cases hlt : t < 64
        · have i1 : (0 : Int) ≤ (t : Int) := by omega
          have i2 : (t : Int) < 64 := by omega
          obtain ⟨w6, hw6⟩ : ∃ w6, w6 = w5.drewN m := ⟨_, rfl⟩
          rw [← hw6]
          have x0 : w6.cell? ⟨0, t, none⟩ = some (wordV (kW t)) := by rw [hw6, HW5.out]; exact HKS.out.refCell hlt
          have x1 : w6.cell? ⟨q, t, none⟩ = some (wordV (L.getD t 0)) := by rw [hw6, HW5.out]; exact (Nq.out.cell t).trans (by rw [HW.out]; exact rowW_get (by rw [HLL.out]; exact hlt))
          have HW6 := Lib.hid hw6
          clear hw6
          have HT2 := Lib.hid (show Reg.rounds L ⟨a0, b0, d0, e0, f0, g0, h0, i0⟩ (t + 1) = (⟨a, bb, cc, d, e, f, gg, h⟩ : Reg).round (kW t) (L.getD t 0) by rw [Reg.rounds, HT.out])
          obtain ⟨kk, hkk⟩ : ∃ kk, kk = kW t := ⟨_, rfl⟩
          obtain ⟨ww, hww⟩ : ∃ ww, ww = L.getD t 0 := ⟨_, rfl⟩
          rw [← hkk] at x0
          rw [← hww] at x1
          have HT3 := Lib.hid (show Reg.rounds L ⟨a0, b0, d0, e0, f0, g0, h0, i0⟩ (t + 1) = (⟨a, bb, cc, d, e, f, gg, h⟩ : Reg).round kk ww by rw [hkk, hww]; exact HT2.out)
          clear HT2 hkk hww
          obtain ⟨r6, r11, r25, p1, p2, q1, n1, n2, n3, n4, q2, q3, q4, r2, r13, r22, s1, s2, m1, m2, m3, m4, m5, y, ea, aa, F⟩ := round_facts a bb cc d e f gg h kk ww
          have HF := Lib.hid F
          have e1 := F.x1
          have e2 := F.x2
          have e3 := F.a1
          have e3' := F.a1'
          have e4 := F.b1
          have e5 := F.b2
          have e6 := F.b3
          have e7 := F.b4
          have e8 := F.a2
          have e8' := F.a2'
          have e9 := F.a3
          have e9' := F.a3'
          have e10 := F.a4
          have e10' := F.a4'
          clear F
          go_wp2_with fail
          refine wp_region_quiet_lit (by kernel_rfl) (by kernel_rfl) ?_
          iterate 2 (go_big_quiet_step (fail))
          go_big_quiet_step ((go_at_call 109; with_reducible exact Calls.quiet_of (rotr6_as HF.out.c6 _)))
          iterate 1 (go_big_quiet_step (fail))
          go_big_quiet_step ((go_at_call 109; with_reducible exact Calls.quiet_of (rotr11_as HF.out.c11 _)))
          iterate 2 (go_big_quiet_step (fail))
          go_big_quiet_step ((go_at_call 109; with_reducible exact Calls.quiet_of (rotr25_as HF.out.c25 _)))
          iterate 20 (go_big_quiet_step (fail))
          refine wpQuiet_nil ?_
          intro _ hw'
          obtain ⟨nq', hw''⟩ := hw'
          subst hw''
          clear e1 e2 e3 e3' e4 e5 e6 e7 e8 e8' e9 e9' e10 e10' x0 x1
          obtain ⟨w7, hw7⟩ : ∃ w7, w7 = w6.drewN nq' := ⟨_, rfl⟩
          rw [← hw7]
          have HW7 := Lib.hid (show ∃ m, w7 = w5.drewN m from ⟨_, by rw [hw7, HW6.out, World.drewN_drewN]⟩)
          clear hw7
          have e1 := HF.out.y1
          have e2 := HF.out.y2
          have e3 := HF.out.d1
          have e4 := HF.out.d2
          have e5 := HF.out.d3
          have e6 := HF.out.d4
          have e7 := HF.out.d5
          have e8 := HF.out.d6
          have e8' := HF.out.d6'
          have e9 := HF.out.f1
          have e9' := HF.out.f1'
          have e10 := HF.out.f2
          have e10' := HF.out.f2'
          go_wp2_with fail
          refine (rotr2_as HF.out.c2 w7).mono ?_
          rintro e' w8 ⟨rfl, k1, rfl⟩
          go_wp2_with fail
          refine (rotr13_as HF.out.c13 _).mono ?_
          rintro e' w8 ⟨rfl, k2, rfl⟩
          go_wp2_with fail
          refine (rotr22_as HF.out.c22 _).mono ?_
          rintro e' w8 ⟨rfl, k3, rfl⟩
          go_wp2_with fail
          go_roundw
          case rel => exact ⟨t + 1, aa, a, bb, cc, ea, e, f, gg, by omega, Lib.hid (HT3.out.trans HF.out.all), rfl, rfl, rfl, rfl, rfl, rfl, rfl, rfl, by go_num, by obtain ⟨m', hm'⟩ := HW7.out; exact ⟨m' + (k1 + k2 + k3), by rw [hm']; simp only [World.drewN_drewN, Nat.add_assoc]⟩⟩
          case measure => simp [intOf]; omega
        · obtain rfl : t = 64 := by omega
          have hN2 : stN b (i + 1) = ⟨a0 + a, b0 + bb, d0 + cc, e0 + d, f0 + e, g0 + f, h0 + gg, i0 + h⟩ := by rw [HN.out, HT.out]; rfl
          obtain ⟨v0, hv0⟩ : ∃ z, z = a0 + a := ⟨_, rfl⟩
          have ad0 := add32 a0 a
          have ad0' := add32m a0 a
          rw [← hv0] at ad0 ad0'
          obtain ⟨v1, hv1⟩ : ∃ z, z = b0 + bb := ⟨_, rfl⟩
          have ad1 := add32 b0 bb
          have ad1' := add32m b0 bb
          rw [← hv1] at ad1 ad1'
          obtain ⟨v2, hv2⟩ : ∃ z, z = d0 + cc := ⟨_, rfl⟩
          have ad2 := add32 d0 cc
          have ad2' := add32m d0 cc
          rw [← hv2] at ad2 ad2'
          obtain ⟨v3, hv3⟩ : ∃ z, z = e0 + d := ⟨_, rfl⟩
          have ad3 := add32 e0 d
          have ad3' := add32m e0 d
          rw [← hv3] at ad3 ad3'
          obtain ⟨v4, hv4⟩ : ∃ z, z = f0 + e := ⟨_, rfl⟩
          have ad4 := add32 f0 e
          have ad4' := add32m f0 e
          rw [← hv4] at ad4 ad4'
          obtain ⟨v5, hv5⟩ : ∃ z, z = g0 + f := ⟨_, rfl⟩
          have ad5 := add32 g0 f
          have ad5' := add32m g0 f
          rw [← hv5] at ad5 ad5'
          obtain ⟨v6, hv6⟩ : ∃ z, z = h0 + gg := ⟨_, rfl⟩
          have ad6 := add32 h0 gg
          have ad6' := add32m h0 gg
          rw [← hv6] at ad6 ad6'
          obtain ⟨v7, hv7⟩ : ∃ z, z = i0 + h := ⟨_, rfl⟩
          have ad7 := add32 i0 h
          have ad7' := add32m i0 h
          rw [← hv7] at ad7 ad7'
          rw [← hv0, ← hv1, ← hv2, ← hv3, ← hv4, ← hv5, ← hv6, ← hv7] at hN2
          clear hv0 hv1 hv2 hv3 hv4 hv5 hv6 hv7
          have HN2 := Lib.hid hN2
          obtain ⟨V2, hV2⟩ : ∃ V2, V2 = rowS ⟨v0, v1, v2, v3, v4, v5, v6, v7⟩ := ⟨_, rfl⟩
          have hV3 : #[wordV v0, wordV v1, wordV v2, wordV v3, wordV v4, wordV v5, wordV v6, wordV v7] = V2 := hV2.symm
          obtain ⟨w6, hw6⟩ : ∃ w6, w6 = w5.drewN m := ⟨_, rfl⟩
          rw [← hw6]
          have hw64 : w6 = w4.drewN (nq + m) := by rw [hw6, HW5.out, World.drewN_drewN]
          obtain ⟨z0, z1, z2, z3, z4, z5, z6, z7⟩ := (N1.out.drewN (nq + m)).row8
          rw [← hw64] at z0 z1 z2 z3 z4 z5 z6 z7
          dsimp only at z0 z1 z2 z3 z4 z5 z6 z7
          have HMS := Lib.hid (show w6.heap[g + 1]? = some (.cells (rowS ⟨a0, b0, d0, e0, f0, g0, h0, i0⟩) 146 (0, 0)) by rw [hw64]; exact N1.out.drewN (nq + m))
          have hV3i : (Tryz.prog.info? 146).map (·.size) = some V2.size := by rw [hV2]; exact HVi.out.trans (by rw [HV.out]; rfl)
          have HV2i := Lib.hid hV3i
          have HYV2 := Lib.hid (show (rowS ⟨a0, b0, d0, e0, f0, g0, h0, i0⟩).size = V2.size by rw [hV2]; rfl)
          have HV2o := Lib.hid (show V2.all (·.oneCell') = true by rw [hV2]; exact rowS_one _)
          obtain ⟨w7, hw7⟩ : ∃ w7, w7 = w6.setRow (g + 1) V2 := ⟨_, rfl⟩
          have O0 := Lib.hid (show Blk w7 g 125 Z by rw [hw7, hw64]; exact (N0.out.drewN (nq + m)).other_row (Nat.ne_of_lt (Nat.lt_succ_self g)) V2)
          have O1 := Lib.hid (show Blk w7 (g + 1) 146 (rowS (stN b (i + 1))) by rw [hw7, hw64, hN2, ← hV2]; exact (N1.out.drewN (nq + m)).put V2)
          have OB := Lib.hid (show Keep [g, g + 1] w2 w7 by rw [hw7, hw64]; exact (HD4.out.drewN (nq + m)).trans (keep_row _ (by simp) V2))
          have hy := HHY.out
          have HW7 := Lib.hid hw7
          clear hV2 hw6 hw64 hN2 hV3i hw7
          go_wp2_with (first
            | (refine wpList_store_row rfl 146 _ _ rfl (g + 1) V2 rfl rfl 146 (rowS ⟨a0, b0, d0, e0, f0, g0, h0, i0⟩) HMS.out HV2i.out HYV2.out HV2o.out ?_; rw [← HW7.out]))
          go_roundw
          case rel => exact ⟨i + 1, by omega, by go_num, O0, O1, OB⟩
          case measure => simp [intOf]; omega
    · obtain rfl : i = 2 := by omega
      rw [show ((64 * 2 : Nat) : Int) = 128 by omega]
      obtain ⟨F, hF⟩ : ∃ F, F = stN b 2 := ⟨_, rfl⟩
      have HF := Lib.hid (show F.bytes = sha56 b by rw [hF]; exact stN_two HBL.out)
      rw [← hF] at M1
      clear hF hx
      obtain ⟨q, hq⟩ : ∃ q, q = wr.heap.size := ⟨_, rfl⟩
      have Bq := Blk.new wr 125 Z
      rw [← hq] at Bq
      have HQ := Lib.hid hq
      have hgq : g + 1 < q := by rw [hq]; exact M1.out.lt
      have HGQ := Lib.hid hgq
      have K0 : Below w.heap.size w (wr.alloc (.cells Z 125)) := ((B.out.below (B := w.heap.size) (by have := HLT.out; have := HG.out; omega) (by have := HG.out; intro k hk; simp at hk; omega)) |> fun h => (HE2.out.trans h).alloc (by have := HG.out; rw [← HQ.out]; omega) _)
      have N0 := Lib.hid (show Blk (wr.alloc (.cells Z 125)) g 125 Z from M0.out.below (below_new wr _) M0.out.lt)
      have N1 := Lib.hid (show Blk (wr.alloc (.cells Z 125)) (g + 1) 146 (rowS F) from M1.out.below (below_new wr _) M1.out.lt)
      have Nq := Lib.hid (show Blk (wr.alloc (.cells Z 125)) q 125 (rowB 32 (F.bytes.take 0)) by rw [List.take_zero, ← HZ.out]; exact Bq)
      have NB := Lib.hid K0
      have hz := HHZ.out
      clear Bq hq hgq K0 M0 M1
      go_wp2_with fail
      rw [← HQ.out]
      clear hz
      go_loopw [19] (fun x wq => ∃ j : Nat, j ≤ 32 ∧ x = .int .i64 j ∧ Hid (Blk wq g 125 Z) ∧ Hid (Blk wq (g + 1) 146 (rowS F)) ∧ Hid (Blk wq q 125 (rowB 32 (F.bytes.take j))) ∧ Hid (Below w.heap.size w wq)) (fun x _ => 32 - (intOf x).toNat)
      case atStart => exact ⟨0, by omega, rfl, N0, N1, Nq, NB⟩
      case round =>
        clear N0 N1 Nq NB
        obtain ⟨j, hj, rfl, N0, N1, Nq, NB⟩ := hrel
        by_cases hlt : j < 32
        · have j0 : (0 : Int) ≤ (j : Int) := by omega
          have j1 : (j : Int) < 32 := by omega
          have j2 : (0 : Int) ≤ (j : Int) / 4 := by omega
          have j3 : (j : Int) / 4 < 8 := by omega
          obtain ⟨v, hv⟩ : ∃ v, v = F.words.getD (j / 4) 0 := ⟨_, rfl⟩
          obtain ⟨y, hy⟩ : ∃ y, y = byteW v (24 - 8 * (j % 4)) := ⟨_, rfl⟩
          have hy2 : (v.toNat : Int) / 2 ^ (24 - 8 * (j % 4)) % 256 = (y.toNat : Int) := by rw [hy]; exact byte_shift v.toNat _
          have HY := Lib.hid (show F.bytes.take (j + 1) = F.bytes.take j ++ [y] by rw [hy, hv]; exact bytes_step F hlt)
          have x0 : wr.cell? ⟨g + 1, j / 4, none⟩ = some (wordV v) := (N1.out.cell _).trans (by rw [hv]; exact rowS_get F (by omega))
          have x1 : wr.cell? ⟨q, j, none⟩ = some (.int .u8 0) := (Nq.out.cell _).trans (rowB_zero (by rw [List.length_take]; omega) hlt)
          have f1 := Nq.out.frozen j
          clear hv hy
          go_wp2_with fail
          have P0 := Lib.hid (N0.out.other (p := ⟨q, j, none⟩) (by have := HGQ.out; show q ≠ g; omega) (.int .u8 (y.toNat : Int)))
          have P1 := Lib.hid (N1.out.other (p := ⟨q, j, none⟩) (by have := HGQ.out; show q ≠ g + 1; omega) (.int .u8 (y.toNat : Int)))
          have Pq := Lib.hid (show Blk (wr.setCell ⟨q, j, none⟩ (.int .u8 (y.toNat : Int))) q 125 (rowB 32 (F.bytes.take (j + 1))) by
            have := Nq.out.set_ j (.int .u8 (y.toNat : Int))
            have hl : (F.bytes.take j).length = j := by rw [List.length_take, bytes_len]; omega
            have h2 := rowB_push (n := 32) (l := F.bytes.take j) (x := y) (by omega)
            rw [hl] at h2
            rw [HY.out, ← h2]
            exact this)
          have PB := Lib.hid (NB.out.setCell (p := ⟨q, j, none⟩) (by have := HGQ.out; have := HG.out; show w.heap.size ≤ q; omega) (.int .u8 (y.toNat : Int)))
          go_roundw
          case rel => exact ⟨j + 1, by omega, by go_num, P0, P1, Pq, PB⟩
          case measure => simp [intOf]; omega
        · obtain rfl : j = 32 := by omega
          obtain ⟨R, hR⟩ : ∃ R, R = rowB 32 (sha56 b) := ⟨_, rfl⟩
          have hM := Nq.out
          rw [List.take_of_length_le (by rw [bytes_len]; exact Nat.le_refl _), HF.out, ← hR] at hM
          have hRs : R.size = 32 := by rw [hR]; exact rowB_size (by rw [sha_len]; exact Nat.le_refl _)
          have HI := Lib.hid (show (Tryz.prog.info? 125).map (·.size) = some R.size by rw [hRs]; exact HSZ.out)
          have HZs := Lib.hid (show Z.size = R.size by rw [hRs, HZ.out]; rfl)
          have HO := Lib.hid (show R.all (·.oneCell') = true by rw [hR]; exact rowB_one _ _)
          have HM1 := Lib.hid (show wr.heap[q]? = some (.cells R 125 (0, 0)) from hM)
          have HM0 := Lib.hid (show wr.heap[g]? = some (.cells Z 125 (0, 0)) from N0.out)
          have HB := Lib.hid (below_row NB.out (g := g) (by have := HG.out; omega) R)
          have HR := Lib.hid hR
          clear hM hRs hR
          go_wp2_with (first | (refine wpList_load_row rfl 125 _ rfl q rfl 125 R (0, 0) _ HM1.out Tryz.underlying125 rfl HI.out ?_) | (refine wpList_store_row rfl 125 _ _ rfl g R rfl rfl 125 Z HM0.out HI.out HZs.out HO.out ?_))
          rw [← HR.out]
          refine bodyPost_ret (v := .agg R) ?_ rfl ⟨rfl, HB.out⟩
          exact results_cell_row rfl _ _ g _ _ _ _ rfl (N0.out.put R) Tryz.underlying125 rfl HI.out
end Go.Proofs.YtddpjahoeldleaaGreatDoor
