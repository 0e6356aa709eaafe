/- The schedule of a block. -/
import Derived.Test.YtddpjahoeldleaaGreatDoorWords
import Derived.Deep.WholeRow
import Derived.StillTailTactics
import Derived.Deep.RegionLaw
namespace Go.Proofs.YtddpjahoeldleaaGreatDoor
open Go.RowKit

theorem Blk.load {w : World} {g : Nat} {t : TypeId} {cs : Array Value} (h : Blk w g t cs) {n : Nat} (hn : cs.size = n) : (loadCellsFrom ⟨g, 0, none⟩ 0 n #[]).run Tryz.prog w = .ok cs w := by
  subst hn
  have := run_loadCells_list (P := Tryz.prog) w ⟨g, 0, none⟩ cs.toList (fun j v hv => by
    rw [Addr.add_lit, Nat.zero_add, h.cell]
    simpa using hv)
  simpa [loadCells] using this
theorem Blk.store {w : World} {g : Nat} {t : TypeId} {cs c' : Array Value} (h : Blk w g t cs) (hi : (Tryz.prog.info? t).map (·.size) = some c'.size) (ho : cs.size = c'.size) (h1 : c'.all (·.oneCell') = true) :
    (storeCells ⟨g, 0, none⟩ c'.toList 0).run Tryz.prog w = .ok () (w.setRow g c') := by
  have := run_storeVar_row (P := Tryz.prog) w g t t cs c' h hi ho h1
  cases hq : Tryz.prog.info? t with
  | none => simp [hq] at hi
  | some i =>
    have hs : c'.size = i.size := by simp [hq] at hi; omega
    simpa [storeVar, sizeOf, typeInfo, hq, Value.cells, hs] using this
theorem Blk.put {w : World} {g : Nat} {t : TypeId} {cs : Array Value} (h : Blk w g t cs) (c' : Array Value) : Blk (w.setRow g c') g t c' := setRow_heap w g cs c' t _ h
theorem below_row {B : Nat} {a w : World} (h : Below B a w) {g : Nat} (hg : B ≤ g) (c' : Array Value) : Below B a (w.setRow g c') :=
  h.trans ⟨rfl, rfl, rfl, by simp, fun k hk => setRow_other w g k c' (by omega)⟩
theorem Blk.other_row {w : World} {g g' : Nat} {t : TypeId} {cs : Array Value} (h : Blk w g t cs) (hg : g ≠ g') (c' : Array Value) : Blk (w.setRow g' c') g t cs := (setRow_other w g' g c' hg).trans h
theorem Blk.other {w : World} {g : Nat} {t : TypeId} {cs : Array Value} (h : Blk w g t cs) {p : Addr} (hp : p.block ≠ g) (u : Value) : Blk (w.setCell p u) g t cs := (Below.heap_setCell _ _ _ _ (fun e => hp e.symm)).trans h
theorem set_same {cs : Array Value} {i : Nat} {u : Value} (h : cs[i]? = some u) : cs.setIfInBounds i u = cs := by
  apply Array.ext_getElem?
  intro j
  have hi := (Array.getElem?_eq_some_iff.1 h).1
  by_cases e : j = i
  · subst e; rw [Array.getElem?_setIfInBounds_self_of_lt hi, h]
  · rw [Array.getElem?_setIfInBounds_ne (fun e' => e e'.symm)]
theorem set_set {cs : Array Value} {i : Nat} {u v : Value} : (cs.setIfInBounds i u).setIfInBounds i v = cs.setIfInBounds i v := by
  apply Array.ext_getElem?
  intro j
  by_cases e : j = i
  · subst e
    by_cases hi : j < cs.size
    · rw [Array.getElem?_setIfInBounds_self_of_lt (by simpa using hi), Array.getElem?_setIfInBounds_self_of_lt hi]
    · rw [Array.getElem?_eq_none (by simp; omega), Array.getElem?_eq_none (by simp; omega)]
  · rw [Array.getElem?_setIfInBounds_ne (fun e' => e e'.symm), Array.getElem?_setIfInBounds_ne (fun e' => e e'.symm), Array.getElem?_setIfInBounds_ne (fun e' => e e'.symm)]
theorem row_one (l : List W32) : (rowW l).all (·.oneCell') = true := by
  rw [Array.all_eq_true_iff_forall_mem]
  intro v hv
  rw [rowW] at hv
  simp only [List.mem_toArray, List.mem_append, List.mem_map, List.mem_replicate] at hv
  rcases hv with ⟨x, _, rfl⟩ | ⟨_, rfl⟩ <;> rfl
/-- the row while word t is being made -/
def rowP (b : Bs) (t j : Nat) : Array Value := (rowW (schedL b t)).setIfInBounds t (wordV (BitVec.ofNat 32 (partW b t j)))
theorem rowP_zero (b : Bs) {t : Nat} (ht : t < 64) : rowP b t 0 = rowW (schedL b t) := set_same (rowW_zero (by rw [sched_len]; exact Nat.le_refl _) ht)
theorem rowP_get (b : Bs) {t : Nat} (ht : t < 64) (j : Nat) : (rowP b t j)[t]? = some (wordV (BitVec.ofNat 32 (partW b t j))) := by
  rw [rowP, Array.getElem?_setIfInBounds_self_of_lt (by rw [rowW_size (by rw [sched_len]; omega)]; exact ht)]
theorem rowP_done (b : Bs) {t : Nat} (ht : t < 16) : rowP b t 4 = rowW (schedL b (t + 1)) := by
  rw [rowP, part_word, schedL, schedS, nextW, if_pos ht]
  have := rowW_push (l := schedL b t) (x := wordAt b t) (by rw [sched_len]; omega)
  rw [sched_len] at this
  exact this

set_option maxHeartbeats 4000000 in
set_option maxRecDepth 100000 in
theorem schedule_any (A : Option Addr) (c : Nat) (b : Bs) (w : World) (h : Rd w w.heap.size 1 A 64 (byteCells b)) (hc : 64 ≤ c) (hc2 : c ≤ 1000000) :
    Calls Tryz.prog 110 #[.slice A 64 c] w (RetB (.agg (rowW (schedL b 64))) w) := by
  obtain ⟨hz, hsz⟩ := zero_of_info info64w
  have H := Lib.hid h
  obtain ⟨Z, hZ⟩ : ∃ Z, Z = rowW [] := ⟨_, rfl⟩
  have HZ := Lib.hid hZ
  have hzw := hz w
  rw [← hZ] at hz hzw
  obtain ⟨ga, oa, rfl, _, _⟩ := h.byte (k := 0) (by omega)
  clear h hZ
  go_enter Tryz.func110, Tryz.ntmps110
  go_wp2_with fail
  obtain ⟨g, hg⟩ : ∃ g, g = w.heap.size := ⟨_, rfl⟩
  have B0 := Blk.new w 164 Z
  have B1 := Blk.new (w.alloc (.cells Z 164)) 164 Z
  rw [show (w.alloc (.cells Z 164)).heap.size = g + 1 by rw [hg]; simp] at B1
  have B0' := B0.below (below_new (w.alloc (.cells Z 164)) (.cells Z 164)) B0.lt
  rw [← hg] at B0'
  have BB := Lib.hid ((below_new w (.cells Z 164)).alloc (by simp) (.cells Z 164))
  have HB0 := Lib.hid B0'
  have HB1 := Lib.hid (show Blk ((w.alloc (.cells Z 164)).alloc (.cells Z 164)) (g + 1) 164 (rowW (schedL b 0)) by rw [show rowW (schedL b 0) = Z from HZ.out.symm]; exact B1)
  rw [← hg]
  have HG := Lib.hid hg
  clear B0 B1 B0' hg
  go_loopw [11] (fun x wr => ∃ t : Nat, t ≤ 64 ∧ x = .int .i64 t ∧ Hid (Blk wr g 164 Z) ∧ Hid (Blk wr (g + 1) 164 (rowW (schedL b t))) ∧ Hid (Below w.heap.size w wr)) (fun x _ => 64 - (intOf x).toNat)
  case atStart => exact ⟨0, by omega, rfl, HB0, HB1, BB⟩
  case round =>
    obtain ⟨t, ht, rfl, M0, M1, B⟩ := hrel
    by_cases hlt : t < 64
    · have j0 : (0 : Int) ≤ (t : Int) := by omega
      have j1 : (t : Int) < 64 := by omega
      by_cases h16 : t < 16
      · have j2 : (t : Int) < 16 := by omega
        have M1 := Lib.hid (show Blk wr (g + 1) 164 (rowP b t 0) by rw [rowP_zero b hlt]; exact M1.out)
        obtain ⟨wo, rfl⟩ : ∃ wo, wo = wr := ⟨_, rfl⟩
        go_wp2_with fail
        rw [show 4 * t + 4 - 4 * t = 4 by omega]
        go_loopw [24] (fun x wq => ∃ j : Nat, j ≤ 4 ∧ x = .int .i64 j ∧ Hid (Blk wq g 164 Z) ∧ Hid (Blk wq (g + 1) 164 (rowP b t j)) ∧ Hid (Below w.heap.size w wq)) (fun x _ => 4 - (intOf x).toNat)
        case atStart => exact ⟨0, by omega, rfl, M0, M1, B⟩
        case round =>
          obtain ⟨j, hj, rfl, N0, N1, B1⟩ := hrel
          by_cases hjl : j < 4
          · have i0 : (0 : Int) ≤ (j : Int) := by omega
            have i1 : (j : Int) < 4 := by omega
            obtain ⟨ga', oa', he, hga, x1⟩ := (H.out.go B1.out).byte (k := 4 * t + j) (by omega)
            injection he with he
            injection he with he1 he2
            subst he1 he2
            rw [← Nat.add_assoc] at x1
            have c1 : wr.cell? ⟨g + 1, t, none⟩ = some (wordV (BitVec.ofNat 32 (partW b t j))) := (N1.out.cell t).trans (rowP_get b hlt j)
            have f1 := N1.out.frozen t
            obtain ⟨y, hy⟩ : ∃ y, y = byteN b (4 * t + j) := ⟨_, rfl⟩
            have hy2 : y < 256 := by rw [hy]; exact byteN_lt _ _
            obtain ⟨p, hp⟩ : ∃ p, p = BitVec.ofNat 32 (partW b t j) := ⟨_, rfl⟩
            obtain ⟨q, hq⟩ : ∃ q, q = BitVec.ofNat 32 (partW b t (j + 1)) := ⟨_, rfl⟩
            obtain ⟨s, hs⟩ : ∃ s : W32, s = p <<< 8 := ⟨_, rfl⟩
            obtain ⟨v, hv⟩ : ∃ v : W32, v = BitVec.ofNat 32 y := ⟨_, rfl⟩
            have e1 : (p.toNat : Int) * 256 % 4294967296 = (s.toNat : Int) := by rw [hs, ← shl32m, show (2 : Int) ^ 8 = 256 from rfl]
            have e2 : bits .or .u32 (s.toNat : Int) (v.toNat : Int) = (q.toNat : Int) := by
              rw [or32, hs, hv, hp, hq, hy, part_step]
            rw [show (v.toNat : Int) = (y : Int) by rw [hv]; exact (byte32 hy2).symm] at e2
            rw [← hy] at x1
            rw [← hp] at c1
            have y0 : (0 : Int) ≤ (y : Int) := by omega
            have y1 : (y : Int) < 256 := by omega
            have HQ := Lib.hid hq
            have N2 := Lib.hid (show Blk (wr.setCell ⟨g + 1, t, none⟩ (wordV q)) (g + 1) 164 (rowP b t (j + 1)) by
              have := N1.out.set_ t (wordV q)
              rw [rowP, set_set] at this
              rw [rowP, ← hq]
              exact this)
            have N3 := Lib.hid (N0.out.other (p := ⟨g + 1, t, none⟩) (Nat.succ_ne_self g) (wordV q))
            have B2 := Lib.hid (B1.out.setCell (p := ⟨g + 1, t, none⟩) (by rw [← HG.out]; exact Nat.le_succ g) (wordV q))
            clear hp hq hs hv hy
            go_wp2_with fail
            go_roundw
            case rel => exact ⟨j + 1, by omega, by go_num, N3, N2, B2⟩
            case measure => simp [intOf]; omega
          · obtain rfl : j = 4 := by omega
            have N2 := Lib.hid (show Blk wr (g + 1) 164 (rowW (schedL b (t + 1))) by rw [← rowP_done b h16]; exact N1.out)
            go_wp2_with fail
            go_roundw
            case rel => exact ⟨t + 1, by omega, by go_num, N0, N2, B1⟩
            case measure => simp [intOf]; omega
      · have j2 : ¬ (t : Int) < 16 := by omega
        obtain ⟨l, hl⟩ : ∃ l, l = schedL b t := ⟨_, rfl⟩
        have hll : l.length = t := by rw [hl, sched_len]
        have HST := Lib.hid (show schedL b (t + 1) = l ++ [l.getD (t - 16) 0 + smS0 (l.getD (t - 15) 0) + l.getD (t - 7) 0 + smS1 (l.getD (t - 2) 0)] by rw [hl, schedL, schedS, nextW, if_neg h16])
        rw [← hl] at M1
        have r15 := (M1.out.cell (t - 15)).trans (rowW_get (l := l) (j := t - 15) (by omega))
        have r2 := (M1.out.cell (t - 2)).trans (rowW_get (l := l) (j := t - 2) (by omega))
        have r16 := (M1.out.cell (t - 16)).trans (rowW_get (l := l) (j := t - 16) (by omega))
        have r7 := (M1.out.cell (t - 7)).trans (rowW_get (l := l) (j := t - 7) (by omega))
        generalize l.getD (t - 15) 0 = p at *
        generalize l.getD (t - 2) 0 = q at *
        generalize l.getD (t - 16) 0 = r at *
        generalize l.getD (t - 7) 0 = u at *
        have HLL := Lib.hid hll
        have HL := Lib.hid hl
        clear hl hll
        have k15 : (0 : Int) ≤ (t : Int) - 15 := by omega
        have k2 : (0 : Int) ≤ (t : Int) - 2 := by omega
        have k16 : (0 : Int) ≤ (t : Int) - 16 := by omega
        have k7 : (0 : Int) ≤ (t : Int) - 7 := by omega
        have t7 : (7 : Int) ≤ (t : Int) := by omega
        have t16 : (16 : Int) ≤ (t : Int) := by omega
        obtain ⟨pa, hpa⟩ : ∃ z, z = rotr p 7 ^^^ rotr p 18 := ⟨_, rfl⟩
        obtain ⟨pb, hpb⟩ : ∃ z, z = p >>> 3 := ⟨_, rfl⟩
        obtain ⟨pc, hpc⟩ : ∃ z, z = pa ^^^ pb := ⟨_, rfl⟩
        obtain ⟨qa, hqa⟩ : ∃ z, z = rotr q 17 ^^^ rotr q 19 := ⟨_, rfl⟩
        obtain ⟨qb, hqb⟩ : ∃ z, z = q >>> 10 := ⟨_, rfl⟩
        obtain ⟨qc, hqc⟩ : ∃ z, z = qa ^^^ qb := ⟨_, rfl⟩
        obtain ⟨sa, hsa⟩ : ∃ z, z = r + pc := ⟨_, rfl⟩
        obtain ⟨sb, hsb⟩ : ∃ z, z = sa + u := ⟨_, rfl⟩
        obtain ⟨sc, hsc⟩ : ∃ z, z = sb + qc := ⟨_, rfl⟩
        have e1 := xor32 (rotr p 7) (rotr p 18)
        rw [← hpa] at e1
        have e2 : (p.toNat : Int) / 8 = (pb.toNat : Int) := by rw [hpb, ← shr32]; rfl
        have e3 := xor32 pa pb
        rw [← hpc] at e3
        have e4 := xor32 (rotr q 17) (rotr q 19)
        rw [← hqa] at e4
        have e5 : (q.toNat : Int) / 1024 = (qb.toNat : Int) := by rw [hqb, ← shr32]; rfl
        have e6 := xor32 qa qb
        rw [← hqc] at e6
        have e7 := add32 r pc
        rw [← hsa] at e7
        have e8 := add32 sa u
        rw [← hsb] at e8
        have e9 := add32 sb qc
        rw [← hsc] at e9
        have e7' := add32m r pc
        rw [← hsa] at e7'
        have e8' := add32m sa u
        rw [← hsb] at e8'
        have e9' := add32m sb qc
        rw [← hsc] at e9'
        have HST2 := Lib.hid (show schedL b (t + 1) = l ++ [sc] by rw [HST.out, hsc, hsb, hsa, hpc, hpa, hpb, hqc, hqa, hqb]; rfl)
        have N2 := Lib.hid (show Blk (wr.setCell ⟨g + 1, t, none⟩ (wordV sc)) (g + 1) 164 (rowW (schedL b (t + 1))) by
          have := M1.out.set_ t (wordV sc)
          rw [HST2.out, ← rowW_push (by rw [HLL.out]; exact hlt), HLL.out]
          exact this)
        have N3 := Lib.hid (M0.out.other (p := ⟨g + 1, t, none⟩) (Nat.succ_ne_self g) (wordV sc))
        have B2 := Lib.hid (B.out.setCell (p := ⟨g + 1, t, none⟩) (by rw [← HG.out]; exact Nat.le_succ g) (wordV sc))
        have c1 : wr.cell? ⟨g + 1, t, none⟩ = some (wordV 0) := (M1.out.cell t).trans (rowW_zero (by rw [HLL.out]; exact Nat.le_refl _) hlt)
        have f1 := M1.out.frozen t
        clear hpa hpb hpc hqa hqb hqc hsa hsb hsc
        go_wp2_with fail
        go_quiet (fail)
        go_wp2_with fail
        refine (rotl_any p 7 _ (by omega) (by omega)).mono ?_
        rintro e w1 ⟨rfl, rfl⟩
        go_wp2_with fail
        refine (rotl_any p 18 _ (by omega) (by omega)).mono ?_
        rintro e w1 ⟨rfl, rfl⟩
        go_wp2_with fail
        refine (rotl_any q 17 _ (by omega) (by omega)).mono ?_
        rintro e w1 ⟨rfl, rfl⟩
        go_wp2_with fail
        refine (rotl_any q 19 _ (by omega) (by omega)).mono ?_
        rintro e w1 ⟨rfl, rfl⟩
        go_wp2_with fail
        obtain ⟨w2, hw2⟩ : ∃ w2, w2 = wr.drewN nq := ⟨_, rfl⟩
        rw [← hw2]
        have r16 : w2.cell? ⟨g + 1, t - 16, none⟩ = some (wordV r) := by rw [hw2]; exact r16
        have r7 : w2.cell? ⟨g + 1, t - 7, none⟩ = some (wordV u) := by rw [hw2]; exact r7
        have c1 : w2.cell? ⟨g + 1, t, none⟩ = some (wordV 0) := by rw [hw2]; exact c1
        have f1 : w2.frozen? ⟨g + 1, t, none⟩ = false := by rw [hw2]; exact f1
        have N2 := Lib.hid (show Blk (w2.setCell ⟨g + 1, t, none⟩ (wordV sc)) (g + 1) 164 (rowW (schedL b (t + 1))) by rw [hw2]; exact N2.out)
        have N3 := Lib.hid (show Blk (w2.setCell ⟨g + 1, t, none⟩ (wordV sc)) g 164 Z by rw [hw2]; exact N3.out)
        have B2 := Lib.hid (show Below w.heap.size w (w2.setCell ⟨g + 1, t, none⟩ (wordV sc)) by rw [hw2]; exact ⟨B2.out.os, B2.out.tape, B2.out.output, B2.out.size, B2.out.block⟩)
        clear hw2
        have m16 : IntKind.i64.wrap ((t : Int) - 16) = (t : Int) - 16 := IntWalk.i64_in _ (by omega)
        have m7 : IntKind.i64.wrap ((t : Int) - 7) = (t : Int) - 7 := IntWalk.i64_in _ (by omega)
        have n16 : ((t : Int) - 16).toNat = t - 16 := by omega
        have n7 : ((t : Int) - 7).toNat = t - 7 := by omega
        have q16 : (t : Int) - 16 < 64 := by omega
        have q7 : (t : Int) - 7 < 64 := by omega
        go_region_law (fail)
        all_goals
          go_wp2_with fail
          go_roundw
          case rel => exact ⟨t + 1, by omega, by go_num, Lib.hid (N3.out.drewN 1), Lib.hid (N2.out.drewN 1), Lib.hid B2.out.drew⟩
          case measure => simp [intOf]; omega
    · obtain rfl : t = 64 := by omega
      obtain ⟨R, hR⟩ : ∃ R, R = rowW (schedL b 64) := ⟨_, rfl⟩
      have hRs : R.size = 64 := by rw [hR]; exact rowW_size (by rw [sched_len]; exact Nat.le_refl _)
      rw [← hR] at M1
      have hi : (Tryz.prog.info? 164).map (·.size) = some R.size := by rw [hRs]; exact hsz
      have hZs : Z.size = R.size := by rw [hRs, HZ.out]; rfl
      have hone : R.all (·.oneCell') = true := by rw [hR]; exact row_one _
      have HR := Lib.hid hR
      have HB := Lib.hid (below_row B.out (g := g) (by rw [← HG.out]; exact Nat.le_refl _) R)
      have HI := Lib.hid hi
      have HZs := Lib.hid hZs
      have HO := Lib.hid hone
      clear hR hRs hsz hi hZs hone hz hzw
      have HM1 := Lib.hid (show wr.heap[g + 1]? = some (.cells R 164 (0, 0)) from M1.out)
      have HM0 := Lib.hid (show wr.heap[g]? = some (.cells Z 164 (0, 0)) from M0.out)
      go_wp2_with (first | (refine wpList_load_row rfl 164 _ rfl (g + 1) rfl 164 R (0, 0) _ HM1.out Tryz.underlying164 rfl HI.out ?_) | (refine wpList_store_row rfl 164 _ _ rfl g R rfl rfl 164 Z HM0.out HI.out HZs.out HO.out ?_))
      rw [← HR.out]
      refine bodyPost_ret (v := .agg R) ?_ rfl ⟨rfl, HB.out⟩
      exact results_cell_row rfl _ _ g _ _ _ _ rfl (M0.out.put R) Tryz.underlying164 rfl HI.out
end Go.Proofs.YtddpjahoeldleaaGreatDoor
