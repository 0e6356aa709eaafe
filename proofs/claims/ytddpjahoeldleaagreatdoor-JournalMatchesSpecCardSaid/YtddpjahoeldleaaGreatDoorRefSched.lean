/- The schedule of a block, in the reference. -/
import Derived.Test.YtddpjahoeldleaaGreatDoorSched
import Derived.Deep.RegionHeld3
namespace Go.Proofs.YtddpjahoeldleaaGreatDoor
open Go.RowKit

theorem rotr_2 (x : W32) (w : World) : Calls Tryz.prog 109 #[wordV x, .int .i64 2] w fun e w' => e = .returned (wordV (rotr x 2)) ∧ ∃ k, w' = w.drewN k := rotr_any x 2 w (by omega) (by omega)
theorem rotr_6 (x : W32) (w : World) : Calls Tryz.prog 109 #[wordV x, .int .i64 6] w fun e w' => e = .returned (wordV (rotr x 6)) ∧ ∃ k, w' = w.drewN k := rotr_any x 6 w (by omega) (by omega)
theorem rotr_7 (x : W32) (w : World) : Calls Tryz.prog 109 #[wordV x, .int .i64 7] w fun e w' => e = .returned (wordV (rotr x 7)) ∧ ∃ k, w' = w.drewN k := rotr_any x 7 w (by omega) (by omega)
theorem rotr_11 (x : W32) (w : World) : Calls Tryz.prog 109 #[wordV x, .int .i64 11] w fun e w' => e = .returned (wordV (rotr x 11)) ∧ ∃ k, w' = w.drewN k := rotr_any x 11 w (by omega) (by omega)
theorem rotr_13 (x : W32) (w : World) : Calls Tryz.prog 109 #[wordV x, .int .i64 13] w fun e w' => e = .returned (wordV (rotr x 13)) ∧ ∃ k, w' = w.drewN k := rotr_any x 13 w (by omega) (by omega)
theorem rotr_17 (x : W32) (w : World) : Calls Tryz.prog 109 #[wordV x, .int .i64 17] w fun e w' => e = .returned (wordV (rotr x 17)) ∧ ∃ k, w' = w.drewN k := rotr_any x 17 w (by omega) (by omega)
theorem rotr_18 (x : W32) (w : World) : Calls Tryz.prog 109 #[wordV x, .int .i64 18] w fun e w' => e = .returned (wordV (rotr x 18)) ∧ ∃ k, w' = w.drewN k := rotr_any x 18 w (by omega) (by omega)
theorem rotr_19 (x : W32) (w : World) : Calls Tryz.prog 109 #[wordV x, .int .i64 19] w fun e w' => e = .returned (wordV (rotr x 19)) ∧ ∃ k, w' = w.drewN k := rotr_any x 19 w (by omega) (by omega)
theorem rotr_22 (x : W32) (w : World) : Calls Tryz.prog 109 #[wordV x, .int .i64 22] w fun e w' => e = .returned (wordV (rotr x 22)) ∧ ∃ k, w' = w.drewN k := rotr_any x 22 w (by omega) (by omega)
theorem rotr_25 (x : W32) (w : World) : Calls Tryz.prog 109 #[wordV x, .int .i64 25] w fun e w' => e = .returned (wordV (rotr x 25)) ∧ ∃ k, w' = w.drewN k := rotr_any x 25 w (by omega) (by omega)
theorem or_add {a b k : Nat} (h : a % 2 ^ k = 0) (hb : b < 2 ^ k) (hk : k ≤ 32) (ha : a < 2 ^ 32) : BitVec.ofNat 32 a ||| BitVec.ofNat 32 b = BitVec.ofNat 32 (a + b) := by
  have hb2 : b < 2 ^ 32 := Nat.lt_of_lt_of_le hb (Nat.pow_le_pow_right (by decide) hk)
  apply BitVec.eq_of_toNat_eq
  rw [BitVec.toNat_or, BitVec.toNat_ofNat, BitVec.toNat_ofNat, BitVec.toNat_ofNat, Nat.mod_eq_of_lt ha, Nat.mod_eq_of_lt hb2]
  have e : a = 2 ^ k * (a / 2 ^ k) := by have := Nat.div_add_mod a (2 ^ k); omega
  have hle : a + b < 2 ^ 32 := by
    have h1 : a / 2 ^ k < 2 ^ (32 - k) := by
      rw [Nat.div_lt_iff_lt_mul (Nat.two_pow_pos k), ← Nat.pow_add, show 32 - k + k = 32 by omega]; exact ha
    have h2 : 2 ^ k * (a / 2 ^ k) + 2 ^ k ≤ 2 ^ k * 2 ^ (32 - k) := by
      have := Nat.mul_le_mul_left (2 ^ k) (show a / 2 ^ k + 1 ≤ 2 ^ (32 - k) from h1)
      rwa [Nat.mul_add, Nat.mul_one] at this
    rw [← Nat.pow_add, show k + (32 - k) = 32 by omega] at h2
    omega
  rw [Nat.mod_eq_of_lt hle]
  rw [e, Nat.two_pow_add_eq_or_of_lt hb (a / 2 ^ k)]
theorem ofN {m : Nat} (h : m < 4294967296) : ((BitVec.ofNat 32 m).toNat : Int) = (m : Int) := by rw [BitVec.toNat_ofNat, Nat.mod_eq_of_lt h]
theorem wrapN {m : Nat} (h : m < 4294967296) : IntKind.u32.wrap (m : Int) = (m : Int) := by rw [wrap32, ofN h]
theorem shlN {y : Nat} (c : Nat) (C : Int) (hC : C = (c : Int)) : (y : Int) * C % 4294967296 = ((BitVec.ofNat 32 (y * c)).toNat : Int) := by
  rw [hC, ← Int.natCast_mul, BitVec.toNat_ofNat]; omega

set_option maxHeartbeats 4000000 in
set_option maxRecDepth 100000 in
theorem words_any (A : Option Addr) (c : Nat) (b : Bs) (w : World) (h : Rd w w.heap.size 1 A 64 (byteCells b)) :
    Calls Tryz.prog 108 #[.slice A 64 c] w (RetB (.agg (rowW (schedL b 64))) w) := by
  obtain ⟨hz, hsz⟩ := zero_of_info info64w
  have H := Lib.hid h
  obtain ⟨Z, hZ⟩ : ∃ Z, Z = rowW [] := ⟨_, rfl⟩
  have HZ := Lib.hid hZ
  have hzw := hz w
  rw [← hZ] at hz hzw
  obtain ⟨ga, oa, rfl, hga, _⟩ := h.byte (k := 0) (by omega)
  clear h hZ
  go_enter Tryz.func108, Tryz.ntmps108
  go_wp2_with fail
  obtain ⟨g, hg⟩ : ∃ g, g = w.heap.size := ⟨_, rfl⟩
  have B0 := Blk.new w 164 Z
  have B1 := Blk.new (w.alloc (.cells Z 164)) 164 Z
  rw [show (w.alloc (.cells Z 164)).heap.size = g + 1 by rw [hg]; simp] at B1
  have B0' := B0.below (below_new (w.alloc (.cells Z 164)) (.cells Z 164)) B0.lt
  rw [← hg] at B0'
  have BB := Lib.hid ((below_new w (.cells Z 164)).alloc (by simp) (.cells Z 164))
  have HB0 := Lib.hid B0'
  have HB1 := Lib.hid (show Blk ((w.alloc (.cells Z 164)).alloc (.cells Z 164)) (g + 1) 164 (rowW (schedL b 0)) by rw [show rowW (schedL b 0) = Z from HZ.out.symm]; exact B1)
  rw [← hg]
  have HG := Lib.hid hg
  clear B0 B1 B0' hg
  go_loopw [4] (fun x wr => ∃ t : Nat, t ≤ 16 ∧ x = .int .i64 t ∧ Hid (Blk wr g 164 Z) ∧ Hid (Blk wr (g + 1) 164 (rowW (schedL b t))) ∧ Hid (Below w.heap.size w wr)) (fun x _ => 16 - (intOf x).toNat)
  case atStart => exact ⟨0, by omega, rfl, HB0, HB1, BB⟩
  case round =>
    obtain ⟨t, ht, rfl, M0, M1, B⟩ := hrel
    by_cases hlt : t < 16
    · have j0 : (0 : Int) ≤ (t : Int) := by omega
      have j1 : (t : Int) < 16 := by omega
      have j2 : (t : Int) < 64 := by omega
      have byte := fun (k : Nat) (hk : k < 4) => (H.out.go B.out).byte (k := 4 * t + k) (by omega)
      have fact : ∀ k, k < 4 → wr.cell? ⟨ga, oa + (4 * t + k), none⟩ = some (.int .u8 (byteN b (4 * t + k) : Int)) := fun k hk => by
        obtain ⟨ga', oa', he, _, x⟩ := byte k hk
        injection he with he
        injection he with he1 he2
        rw [he1, he2]; exact x
      have x0 := fact 0 (by omega)
      have x1 := fact 1 (by omega)
      have x2 := fact 2 (by omega)
      have x3 := fact 3 (by omega)
      rw [Nat.add_zero] at x0
      have y0 := byteN_lt b (4 * t)
      have y1 := byteN_lt b (4 * t + 1)
      have y2 := byteN_lt b (4 * t + 2)
      have y3 := byteN_lt b (4 * t + 3)
      obtain ⟨q, hq⟩ : ∃ q, q = wordAt b t := ⟨_, rfl⟩
      have hq2 := hq
      rw [wordAt] at hq2
      clear fact byte
      generalize byteN b (4 * t) = n0 at x0 y0 hq2
      generalize byteN b (4 * t + 1) = n1 at x1 y1 hq2
      generalize byteN b (4 * t + 2) = n2 at x2 y2 hq2
      generalize byteN b (4 * t + 3) = n3 at x3 y3 hq2
      have e0 := (ofN (m := n0 * 16777216) (by omega)).symm
      have e1 := (ofN (m := n1 * 65536) (by omega)).symm
      have e2 := (ofN (m := n2 * 256) (by omega)).symm
      have e3 := byte32 y3
      have o1 := or32 (BitVec.ofNat 32 (n0 * 16777216)) (BitVec.ofNat 32 (n1 * 65536))
      rw [or_add (k := 24) (by omega) (by omega) (by omega) (by omega), ← e0, ← e1] at o1
      have o2 := or32 (BitVec.ofNat 32 (n0 * 16777216 + n1 * 65536)) (BitVec.ofNat 32 (n2 * 256))
      rw [or_add (k := 16) (by omega) (by omega) (by omega) (by omega), ← e2] at o2
      have o3 := or32 (BitVec.ofNat 32 (n0 * 16777216 + n1 * 65536 + n2 * 256)) (BitVec.ofNat 32 n3)
      rw [or_add (k := 8) (by omega) (by omega) (by omega) (by omega), show n0 * 16777216 + n1 * 65536 + n2 * 256 + n3 = ((n0 * 256 + n1) * 256 + n2) * 256 + n3 by omega, ← hq2, ← e3] at o3
      obtain ⟨w3, hw3⟩ : ∃ z, z = BitVec.ofNat 32 (n0 * 16777216 + n1 * 65536) := ⟨_, rfl⟩
      rw [← hw3] at o1 o2
      clear hw3
      obtain ⟨w4, hw4⟩ : ∃ z, z = BitVec.ofNat 32 (n0 * 16777216 + n1 * 65536 + n2 * 256) := ⟨_, rfl⟩
      rw [← hw4] at o2 o3
      clear hw4 e0 e1 e2
      have HV := Lib.hid (show bits .or .u32 (bits .or .u32 (bits .or .u32 (IntKind.u32.wrap (IntKind.u32.wrap (n0 : Int) * 16777216)) (IntKind.u32.wrap (IntKind.u32.wrap (n1 : Int) * 65536))) (IntKind.u32.wrap (IntKind.u32.wrap (n2 : Int) * 256))) (IntKind.u32.wrap (n3 : Int)) = (q.toNat : Int) by
        rw [wrapN (m := n0) (by omega), wrapN (m := n1) (by omega), wrapN (m := n2) (by omega), wrapN (m := n3) (by omega)]
        rw [show (n0 : Int) * 16777216 = ((n0 * 16777216 : Nat) : Int) from (Int.natCast_mul n0 16777216).symm, show (n1 : Int) * 65536 = ((n1 * 65536 : Nat) : Int) from (Int.natCast_mul n1 65536).symm, show (n2 : Int) * 256 = ((n2 * 256 : Nat) : Int) from (Int.natCast_mul n2 256).symm]
        rw [wrapN (m := n0 * 16777216) (by omega), wrapN (m := n1 * 65536) (by omega), wrapN (m := n2 * 256) (by omega), o1, o2, o3])
      clear o1 o2 o3
      have ne : ga ≠ g + 1 := by have := HG.out; omega
      have kp : ∀ (k : Nat) (v : Value), (wr.setCell ⟨g + 1, t, none⟩ v).cell? ⟨ga, k, none⟩ = wr.cell? ⟨ga, k, none⟩ := fun k v => World.cell?_setCell_other _ _ _ _ (fun h => ne (by injection h with h; exact h.symm))
      have k0 := fun v => (kp _ v).trans x0
      have k1 := fun v => (kp _ v).trans x1
      have k2 := fun v => (kp _ v).trans x2
      have k3 := fun v => (kp _ v).trans x3
      clear kp
      have z0 : (0 : Int) ≤ (n0 : Int) ∧ (n0 : Int) < 256 := by omega
      have z1 : (0 : Int) ≤ (n1 : Int) ∧ (n1 : Int) < 256 := by omega
      have z2 : (0 : Int) ≤ (n2 : Int) ∧ (n2 : Int) < 256 := by omega
      have z3 : (0 : Int) ≤ (n3 : Int) ∧ (n3 : Int) < 256 := by omega
      have c1 : wr.cell? ⟨g + 1, t, none⟩ = some (wordV 0) := (M1.out.cell t).trans (rowW_zero (by rw [sched_len]; exact Nat.le_refl _) (by omega))
      have f1 := M1.out.frozen t
      have N2 := Lib.hid (show Blk (wr.setCell ⟨g + 1, t, none⟩ (wordV q)) (g + 1) 164 (rowW (schedL b (t + 1))) by
        have := M1.out.set_ t (wordV q)
        rw [schedL, schedS, nextW, if_pos hlt, ← hq, ← rowW_push (by rw [sched_len]; omega), sched_len]
        exact this)
      have N3 := Lib.hid (M0.out.other (p := ⟨g + 1, t, none⟩) (Nat.succ_ne_self g) (wordV q))
      have B2 := Lib.hid (B.out.setCell (p := ⟨g + 1, t, none⟩) (by rw [← HG.out]; exact Nat.le_succ g) (wordV q))
      clear hq hq2 y0 y1 y2 y3 e3
      go_wp2_with fail
      have m0 : IntKind.i64.wrap (4 * (t : Int)) = 4 * (t : Int) := IntWalk.i64_in _ (by omega)
      have m1 : IntKind.i64.wrap (4 * (t : Int) + 1) = 4 * (t : Int) + 1 := IntWalk.i64_in _ (by omega)
      have m2 : IntKind.i64.wrap (4 * (t : Int) + 2) = 4 * (t : Int) + 2 := IntWalk.i64_in _ (by omega)
      have m3 : IntKind.i64.wrap (4 * (t : Int) + 3) = 4 * (t : Int) + 3 := IntWalk.i64_in _ (by omega)
      have t0 : (4 * (t : Int)).toNat = 4 * t := by omega
      have t1 : (4 * (t : Int) + 1).toNat = 4 * t + 1 := by omega
      have t2 : (4 * (t : Int) + 2).toNat = 4 * t + 2 := by omega
      have t3 : (4 * (t : Int) + 3).toNat = 4 * t + 3 := by omega
      have p0 : (0 : Int) ≤ 4 * (t : Int) ∧ 4 * (t : Int) < 64 := by omega
      have p1 : (0 : Int) ≤ 4 * (t : Int) + 1 ∧ 4 * (t : Int) + 1 < 64 := by omega
      have p2 : (0 : Int) ≤ 4 * (t : Int) + 2 ∧ 4 * (t : Int) + 2 < 64 := by omega
      have p3 : (0 : Int) ≤ 4 * (t : Int) + 3 ∧ 4 * (t : Int) + 3 < 64 := by omega
      go_region_held3 (fun w' => w'.cell? ⟨ga, oa + 4 * t, none⟩ = some (.int .u8 (n0 : Int)) ∧ w'.cell? ⟨ga, oa + (4 * t + 1), none⟩ = some (.int .u8 (n1 : Int)) ∧ w'.cell? ⟨ga, oa + (4 * t + 2), none⟩ = some (.int .u8 (n2 : Int)) ∧ w'.cell? ⟨ga, oa + (4 * t + 3), none⟩ = some (.int .u8 (n3 : Int))) (go_keep) (fail)
      all_goals
        rw [HV.out]
        go_wp2_with fail
        go_roundw
        case rel => exact ⟨t + 1, by omega, by go_num, Lib.hid (N3.out.drewN 1), Lib.hid (N2.out.drewN 1), Lib.hid B2.out.drew⟩
        case measure => simp [intOf]; omega
    · obtain rfl : t = 16 := by omega
      rw [show ((16 : Nat) : Int) = 16 by omega]
      go_wp2_with fail
      go_loopw [5] (fun x wr => ∃ t : Nat, 16 ≤ t ∧ t ≤ 64 ∧ x = .int .i64 t ∧ Hid (Blk wr g 164 Z) ∧ Hid (Blk wr (g + 1) 164 (rowW (schedL b t))) ∧ Hid (Below w.heap.size w wr)) (fun x _ => 64 - (intOf x).toNat)
      case atStart => exact ⟨16, Nat.le_refl _, by omega, rfl, M0, M1, B⟩
      case round =>
        obtain ⟨t, ht1, ht, rfl, M0, M1, B⟩ := hrel
        by_cases hlt : t < 64
        · have j0 : (0 : Int) ≤ (t : Int) := by omega
          have j1 : (t : Int) < 64 := by omega
          obtain ⟨l, hl⟩ : ∃ l, l = schedL b t := ⟨_, rfl⟩
          have hll : l.length = t := by rw [hl, sched_len]
          have HST := Lib.hid (show schedL b (t + 1) = l ++ [l.getD (t - 16) 0 + smS0 (l.getD (t - 15) 0) + l.getD (t - 7) 0 + smS1 (l.getD (t - 2) 0)] by rw [hl, schedL, schedS, nextW, if_neg (by omega)])
          rw [← hl] at M1
          have r15 := (M1.out.cell (t - 15)).trans (rowW_get (l := l) (j := t - 15) (by omega))
          have r2 := (M1.out.cell (t - 2)).trans (rowW_get (l := l) (j := t - 2) (by omega))
          have r16 := (M1.out.cell (t - 16)).trans (rowW_get (l := l) (j := t - 16) (by omega))
          have r7 := (M1.out.cell (t - 7)).trans (rowW_get (l := l) (j := t - 7) (by omega))
          generalize l.getD (t - 15) 0 = p at *
          generalize l.getD (t - 2) 0 = q at *
          generalize l.getD (t - 16) 0 = r at *
          generalize l.getD (t - 7) 0 = u at *
          have HLL := Lib.hid hll
          have HL := Lib.hid hl
          clear hl hll
          have k15 : (0 : Int) ≤ (t : Int) - 15 := by omega
          have k2 : (0 : Int) ≤ (t : Int) - 2 := by omega
          have k16 : (0 : Int) ≤ (t : Int) - 16 := by omega
          have k7 : (0 : Int) ≤ (t : Int) - 7 := by omega
          have t7 : (7 : Int) ≤ (t : Int) := by omega
          have t16 : (16 : Int) ≤ (t : Int) := by omega
          obtain ⟨pa, hpa⟩ : ∃ z, z = rotr p 7 ^^^ rotr p 18 := ⟨_, rfl⟩
          obtain ⟨pb, hpb⟩ : ∃ z, z = p >>> 3 := ⟨_, rfl⟩
          obtain ⟨pc, hpc⟩ : ∃ z, z = pa ^^^ pb := ⟨_, rfl⟩
          obtain ⟨qa, hqa⟩ : ∃ z, z = rotr q 17 ^^^ rotr q 19 := ⟨_, rfl⟩
          obtain ⟨qb, hqb⟩ : ∃ z, z = q >>> 10 := ⟨_, rfl⟩
          obtain ⟨qc, hqc⟩ : ∃ z, z = qa ^^^ qb := ⟨_, rfl⟩
          obtain ⟨sa, hsa⟩ : ∃ z, z = r + pc := ⟨_, rfl⟩
          obtain ⟨sb, hsb⟩ : ∃ z, z = sa + u := ⟨_, rfl⟩
          obtain ⟨sc, hsc⟩ : ∃ z, z = sb + qc := ⟨_, rfl⟩
          have e1 := xor32 (rotr p 7) (rotr p 18)
          rw [← hpa] at e1
          have e2 : (p.toNat : Int) / 8 = (pb.toNat : Int) := by rw [hpb, ← shr32]; rfl
          have e3 := xor32 pa pb
          rw [← hpc] at e3
          have e4 := xor32 (rotr q 17) (rotr q 19)
          rw [← hqa] at e4
          have e5 : (q.toNat : Int) / 1024 = (qb.toNat : Int) := by rw [hqb, ← shr32]; rfl
          have e6 := xor32 qa qb
          rw [← hqc] at e6
          have e7 := add32 r pc
          rw [← hsa] at e7
          have e8 := add32 sa u
          rw [← hsb] at e8
          have e9 := add32 sb qc
          rw [← hsc] at e9
          have e7' := add32m r pc
          rw [← hsa] at e7'
          have e8' := add32m sa u
          rw [← hsb] at e8'
          have e9' := add32m sb qc
          rw [← hsc] at e9'
          have HST2 := Lib.hid (show schedL b (t + 1) = l ++ [sc] by rw [HST.out, hsc, hsb, hsa, hpc, hpa, hpb, hqc, hqa, hqb]; rfl)
          have N2 := Lib.hid (show Blk (wr.setCell ⟨g + 1, t, none⟩ (wordV sc)) (g + 1) 164 (rowW (schedL b (t + 1))) by
            have := M1.out.set_ t (wordV sc)
            rw [HST2.out, ← rowW_push (by rw [HLL.out]; exact hlt), HLL.out]
            exact this)
          have N3 := Lib.hid (M0.out.other (p := ⟨g + 1, t, none⟩) (Nat.succ_ne_self g) (wordV sc))
          have B2 := Lib.hid (B.out.setCell (p := ⟨g + 1, t, none⟩) (by rw [← HG.out]; exact Nat.le_succ g) (wordV sc))
          have c1 : wr.cell? ⟨g + 1, t, none⟩ = some (wordV 0) := (M1.out.cell t).trans (rowW_zero (by rw [HLL.out]; exact Nat.le_refl _) hlt)
          have f1 := M1.out.frozen t
          clear hpa hpb hpc hqa hqb hqc hsa hsb hsc
          go_wp2_with fail
          have HF := Lib.hid (And.intro (And.intro (And.intro e4 e5) (And.intro e6 (And.intro e7 e8))) (And.intro (And.intro e9 (And.intro e7' e8')) (And.intro e9' (And.intro r2 (And.intro r16 (And.intro r7 (And.intro c1 f1)))))))
          clear e4 e5 e6 e7 e8 e9 e7' e8' e9' r2 r16 r7 c1 f1
          refine wp_region_quiet_lit (by kernel_rfl) (by kernel_rfl) ?_
          iterate 4 (go_big_quiet_step (fail))
          go_big_quiet_step ((go_at_call 109; with_reducible exact Calls.quiet_of (rotr_7 _ _)))
          iterate 4 (go_big_quiet_step (fail))
          go_big_quiet_step ((go_at_call 109; with_reducible exact Calls.quiet_of (rotr_18 _ _)))
          iterate 8 (go_big_quiet_step (fail))
          refine wpQuiet_nil ?_
          intro _ hw'
          obtain ⟨nq, hw''⟩ := hw'
          subst hw''
          obtain ⟨w2, hw2⟩ : ∃ w2, w2 = wr.drewN nq := ⟨_, rfl⟩
          rw [← hw2]
          obtain ⟨⟨⟨e4, e5⟩, e6, e7, e8⟩, ⟨e9, e7', e8'⟩, e9', r2, r16, r7, c1, f1⟩ := HF.out
          clear HF r15 e1 e2 e3
          have r2 : w2.cell? ⟨g + 1, t - 2, none⟩ = some (wordV q) := by rw [hw2]; exact r2
          have HF := Lib.hid (And.intro (And.intro e7 e8) (And.intro (And.intro e9 (And.intro e7' e8')) (And.intro e9' (And.intro r16 (And.intro r7 (And.intro c1 f1))))))
          have HW2 := Lib.hid hw2
          clear e7 e8 e9 e7' e8' e9' r16 r7 c1 f1 hw2
          go_wp2_with fail
          refine wp_region_quiet_lit (by kernel_rfl) (by kernel_rfl) ?_
          iterate 4 (go_big_quiet_step (fail))
          go_big_quiet_step ((go_at_call 109; with_reducible exact Calls.quiet_of (rotr_17 _ _)))
          iterate 4 (go_big_quiet_step (fail))
          go_big_quiet_step ((go_at_call 109; with_reducible exact Calls.quiet_of (rotr_19 _ _)))
          iterate 8 (go_big_quiet_step (fail))
          refine wpQuiet_nil ?_
          intro _ hw'
          obtain ⟨nq', hw''⟩ := hw'
          subst hw''
          obtain ⟨w3, hw3⟩ : ∃ w3, w3 = w2.drewN nq' := ⟨_, rfl⟩
          rw [← hw3]
          obtain ⟨⟨e7, e8⟩, ⟨e9, e7', e8'⟩, e9', r16, r7, c1, f1⟩ := HF.out
          clear HF e4 e5 e6 r2
          have hw4 : w3 = wr.drewN (nq + nq') := by rw [hw3, HW2.out, World.drewN_drewN]
          have r16 : w3.cell? ⟨g + 1, t - 16, none⟩ = some (wordV r) := by rw [hw4]; exact r16
          have r7 : w3.cell? ⟨g + 1, t - 7, none⟩ = some (wordV u) := by rw [hw4]; exact r7
          have c1 : w3.cell? ⟨g + 1, t, none⟩ = some (wordV 0) := by rw [hw4]; exact c1
          have f1 : w3.frozen? ⟨g + 1, t, none⟩ = false := by rw [hw4]; exact f1
          have N2 := Lib.hid (show Blk (w3.setCell ⟨g + 1, t, none⟩ (wordV sc)) (g + 1) 164 (rowW (schedL b (t + 1))) by rw [hw4]; exact N2.out)
          have N3 := Lib.hid (show Blk (w3.setCell ⟨g + 1, t, none⟩ (wordV sc)) g 164 Z by rw [hw4]; exact N3.out)
          have B2 := Lib.hid (show Below w.heap.size w (w3.setCell ⟨g + 1, t, none⟩ (wordV sc)) by rw [hw4]; exact ⟨B2.out.os, B2.out.tape, B2.out.output, B2.out.size, B2.out.block⟩)
          clear hw3 hw4 HW2
          have m16 : IntKind.i64.wrap ((t : Int) - 16) = (t : Int) - 16 := IntWalk.i64_in _ (by omega)
          have m7 : IntKind.i64.wrap ((t : Int) - 7) = (t : Int) - 7 := IntWalk.i64_in _ (by omega)
          have n16 : ((t : Int) - 16).toNat = t - 16 := by omega
          have n7 : ((t : Int) - 7).toNat = t - 7 := by omega
          have q16 : (t : Int) - 16 < 64 := by omega
          have q7 : (t : Int) - 7 < 64 := by omega
          go_wp2_with fail
          go_region_law (fail)
          all_goals
            go_wp2_with fail
            go_roundw
            case rel => exact ⟨t + 1, by omega, by omega, by go_num, Lib.hid (N3.out.drewN 1), Lib.hid (N2.out.drewN 1), Lib.hid B2.out.drew⟩
            case measure => simp [intOf]; omega
        · obtain rfl : t = 64 := by omega
          obtain ⟨R, hR⟩ : ∃ R, R = rowW (schedL b 64) := ⟨_, rfl⟩
          have hRs : R.size = 64 := by rw [hR]; exact rowW_size (by rw [sched_len]; exact Nat.le_refl _)
          rw [← hR] at M1
          have hi : (Tryz.prog.info? 164).map (·.size) = some R.size := by rw [hRs]; exact hsz
          have hZs : Z.size = R.size := by rw [hRs, HZ.out]; rfl
          have hone : R.all (·.oneCell') = true := by rw [hR]; exact row_one _
          have HR := Lib.hid hR
          have HB := Lib.hid (below_row B.out (g := g) (by rw [← HG.out]; exact Nat.le_refl _) R)
          have HI := Lib.hid hi
          have HZs := Lib.hid hZs
          have HO := Lib.hid hone
          clear hR hRs hsz hi hZs hone hz hzw
          have HM1 := Lib.hid (show wr.heap[g + 1]? = some (.cells R 164 (0, 0)) from M1.out)
          have HM0 := Lib.hid (show wr.heap[g]? = some (.cells Z 164 (0, 0)) from M0.out)
          go_wp2_with (first | (refine wpList_load_row rfl 164 _ rfl (g + 1) rfl 164 R (0, 0) _ HM1.out Tryz.underlying164 rfl HI.out ?_) | (refine wpList_store_row rfl 164 _ _ rfl g R rfl rfl 164 Z HM0.out HI.out HZs.out HO.out ?_))
          rw [← HR.out]
          refine bodyPost_ret (v := .agg R) ?_ rfl ⟨rfl, HB.out⟩
          exact results_cell_row rfl _ _ g _ _ _ _ rfl (M0.out.put R) Tryz.underlying164 rfl HI.out
end Go.Proofs.YtddpjahoeldleaaGreatDoor
