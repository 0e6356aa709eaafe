/- The reference's Unpack. -/
import Derived.Test.YtddpjahoeldleaaGreatDoorMSmall
import Derived.Test.YtddpjahoeldleaaGreatDoorMSame
import Derived.Deep.RegionHeld3
import Derived.Deep.RegionWith
import Derived.BigGuardPart

namespace Go.Proofs.YtddpjahoeldleaaGreatDoor
open Go.RowKit

theorem wpList_strneq {P : Program} {ops : Array Oper} {rest : List Oper} {o : Oper} {a : Act} {w : World} {Q : Exit → Act → World → Prop} (hgd : o.guard = none) (t : TypeId) (x y : Operand) (u : TypeId) (ho : o.op = .binOp .neq t x y u)
    (s1 s2 : ByteArray) (hx : a.eval x = .string s1) (hy : a.eval y = .string s2) (b : Bool) (hb : (s1.toList == s2.toList) = !b)
    (h : wpList P ops Q rest (a.put o.dst (.bool b)) w) : wpList P ops Q (o :: rest) a w :=
  wpList_plain hgd fun _ hK => by
    have h2 : (binOp .neq t (.string s1) (.string s2)) = pure (.bool b) := by rw [binOp_string_neq, hb, Bool.not_not]
    have h3 : eqGuard .neq t x y (.string s1) (.string s2) = pure () := by simp [eqGuard]
    unfold Oper.wp execOp
    simp only [ho, hx, hy, h2, h3]
    exact hK _ _ h
/-- []byte(s) -/
theorem to_bytes (s : ByteArray) (w : World) : ∃ W C, (convert 9 84 (.string s)).run Tryz.prog w = .ok (.slice (some ⟨w.heap.size, 0, none⟩) s.size C) W ∧ s.size ≤ C ∧ Below w.heap.size w W ∧ w.heap.size < W.heap.size ∧
    Rd W W.heap.size 1 (some ⟨w.heap.size, 0, none⟩) s.size (byteCells s.data.toList) := by
  refine ⟨Lib.bytesWorld w 5 s, _, Lib.run_convert_string_bytes w 9 84 5 s Tryz.underlying9 Tryz.underlying84 Tryz.underlying5, grownCap_ge w _ _ _, ?_, by rw [Lib.bytesWorld_size]; omega, ?_⟩
  · exact ⟨rfl, rfl, rfl, by rw [Lib.bytesWorld_size]; omega, fun k hk => Lib.bytesWorld_at_old w 5 s k hk⟩
  · refine ⟨by rw [byteCells_len, list_size, Nat.mul_one], fun _ => ⟨w.heap.size, 0, rfl, by rw [Lib.bytesWorld_size]; omega, fun j u hu => ?_⟩⟩
    have hj : j < s.size := by have := (List.getElem?_eq_some_iff.1 hu).1; rw [byteCells_len, list_size] at this; exact this
    rw [Nat.zero_add]
    refine (Lib.bytesWorld_cell w 5 s j hj).trans ?_
    rw [byteCells, List.getElem?_map, List.getElem?_eq_getElem (by rw [list_size]; exact hj)] at hu
    rw [List.getD_eq_getElem?_getD, List.getElem?_eq_getElem (by rw [list_size]; exact hj)]
    exact hu
theorem extract_list (s : ByteArray) (a b : Nat) : (s.extract a b).data.toList = (s.data.toList.drop a).take (b - a) := Lib.extract_data s a b
/-- a part as a row -/
def partRow (p : PartV) : Array Value := #[.int .i64 (p.number : Int), .int .i64 (p.part : Int), .int .i64 (p.left : Int), str p.payload, .bool p.ok]
theorem partRow_none : partRow noPart = #[.int .i64 0, .int .i64 0, .int .i64 0, .string ⟨#[]⟩, .bool false] := rfl
theorem two_new (w : World) {t1 t2 : TypeId} (c1 c2 : Array Value) : Below w.heap.size w ((w.alloc (.cells c1 t1)).alloc (.cells c2 t2)).drew ∧ w.heap.size + 1 < ((w.alloc (.cells c1 t1)).alloc (.cells c2 t2)).drew.heap.size ∧
    Blk ((w.alloc (.cells c1 t1)).alloc (.cells c2 t2)).drew w.heap.size t1 c1 ∧ Blk ((w.alloc (.cells c1 t1)).alloc (.cells c2 t2)).drew (w.heap.size + 1) t2 c2 := by
  have hb : Below w.heap.size w ((w.alloc (.cells c1 t1)).alloc (.cells c2 t2)) := ((Below.refl _ _).alloc (Nat.le_refl _) _).alloc (by simp) _
  have h2 : Blk ((w.alloc (.cells c1 t1)).alloc (.cells c2 t2)) (w.heap.size + 1) t2 c2 := by
    have := Blk.new (w.alloc (.cells c1 t1)) t2 c2
    rwa [World.size_alloc] at this
  have h1 : Blk ((w.alloc (.cells c1 t1)).alloc (.cells c2 t2)) w.heap.size t1 c1 := by
    have : Blk (w.alloc (.cells c1 t1)) w.heap.size t1 c1 := Blk.new w t1 c1
    exact this.below ((Below.refl (w.heap.size + 1) _).alloc (by simp) _) (by omega)
  exact ⟨⟨hb.os, hb.tape, hb.output, hb.size, hb.block⟩, h2.lt, h1, h2⟩
theorem infoPart : (Tryz.prog.info? 97).map (fun i => (i.zero, i.size)) = some (some (.agg #[.int .i64 0, .int .i64 0, .int .i64 0, .string ⟨#[]⟩, .bool false]), 5) := by kernel_rfl

set_option maxHeartbeats 4000000 in
set_option maxRecDepth 100000 in
theorem runpack_any (s : ByteArray) (w : World) (hk : RConsts w) :
    Calls Tryz.prog 52 #[.string s] w (RetB (.agg (partRow (unpackB s.data.toList))) w) := by
  obtain ⟨hz, hsz⟩ := zero_of_info infoPart
  by_cases h64 : s.size = 64
  · have HK := Lib.hid hk
    have HI := Lib.hid hsz
    have e1 : (s.extract 0 4).size = 4 := by rw [ByteArray.size_extract]; omega
    have e2 : (s.extract 4 6).size = 2 := by rw [ByteArray.size_extract]; omega
    have e3 : (s.extract 6 8).size = 2 := by rw [ByteArray.size_extract]; omega
    have e4 : (s.extract 0 56).size = 56 := by rw [ByteArray.size_extract]; omega
    obtain ⟨n, hn⟩ : ∃ n, n = numB (s.data.toList.take 4) := ⟨_, rfl⟩
    obtain ⟨p, hp⟩ : ∃ n, n = numB ((s.data.toList.drop 4).take 2) := ⟨_, rfl⟩
    obtain ⟨l, hl⟩ : ∃ n, n = numB ((s.data.toList.drop 6).take 2) := ⟨_, rfl⟩
    obtain ⟨sa, hsa⟩ : ∃ x, s.extract 0 4 = x := ⟨_, rfl⟩
    obtain ⟨sb, hsb⟩ : ∃ x, s.extract 4 6 = x := ⟨_, rfl⟩
    obtain ⟨sc, hsc⟩ : ∃ x, s.extract 6 8 = x := ⟨_, rfl⟩
    obtain ⟨sd, hsd⟩ : ∃ x, s.extract 0 56 = x := ⟨_, rfl⟩
    have HSD := Lib.hid (show sd.size = 56 ∧ sd.data.toList = s.data.toList.take 56 by rw [← hsd]; exact ⟨e4, by rw [extract_list, List.drop_zero]⟩)
    have hna : numB sa.data.toList = n := by rw [← hsa, extract_list, List.drop_zero, Nat.sub_zero, ← hn]
    have hnb : numB sb.data.toList = p := by rw [← hsb, extract_list, ← hp]
    have hnc : numB sc.data.toList = l := by rw [← hsc, extract_list, ← hl]
    have za : sa.size ≤ 4 := by rw [← hsa]; omega
    have zb : sb.size ≤ 4 := by rw [← hsb]; omega
    have zc : sc.size ≤ 4 := by rw [← hsc]; omega
    have CC := Lib.hid number_any
    have HPL : Hid ((p : Int) < 65536 ∧ (l : Int) < 65536) := Lib.hid (by
      have g1 := num_lt ((s.data.toList.drop 4).take 2)
      have g2 := num_lt ((s.data.toList.drop 6).take 2)
      rw [← hp] at g1
      rw [← hl] at g2
      have d1 : ((s.data.toList.drop 4).take 2).length = 2 := by rw [List.length_take, List.length_drop, list_size, h64]; rfl
      have d2 : ((s.data.toList.drop 6).take 2).length = 2 := by rw [List.length_take, List.length_drop, list_size, h64]; rfl
      rw [d1] at g1
      rw [d2] at g2
      omega)
    have HNPL := Lib.hid (And.intro hn (And.intro hp hl))
    clear hk hsz hn hp hl e1 e2 e3 e4
    go_enter Tryz.func52, Tryz.ntmps52
    go_wp2_with fail
    rename_i K hK
    have key : ∀ W, Below w.heap.size w W → w.heap.size + 1 < W.heap.size → Blk W w.heap.size 97 #[.int .i64 0, .int .i64 0, .int .i64 0, .string ⟨#[]⟩, .bool false] → Blk W (w.heap.size + 1) 97 #[.int .i64 (n : Int), .int .i64 (p : Int), .int .i64 (l : Int), .string ⟨#[]⟩, .bool true] →
        K { tmps := #[.string s, undef, .pointer (some ⟨w.heap.size, 0, none⟩), .pointer (some ⟨w.heap.size + 1, 0, none⟩), undef, undef, .string s, .int .i64 64, .bool false, undef, .string s, .string sa, .int .i64 (n : Int), .string s, .string sb, .int .i64 (p : Int), .string s, .string sc, .int .i64 (l : Int), .agg #[.int .i64 (n : Int), .int .i64 (p : Int), .int .i64 (l : Int), .string ⟨#[]⟩, .bool true], undef, undef, undef, undef, undef, undef, undef, undef, undef, undef, undef, undef, undef, undef, undef, undef, undef, undef, undef, undef, undef, undef, undef, undef, undef, undef, undef, undef, undef, undef, undef, undef, undef, undef, undef, undef, undef, undef, undef, undef, undef, undef, undef, undef, undef, undef, undef, undef, undef, undef, undef, undef, undef, undef, undef, undef, undef], defers := [] } W := by
      intro W hbW hlt B1 B2
      refine hK _ _ ?_
      clear hK hna hnb hnc za zb zc CC hsa hsb hsc
      obtain ⟨W1, C, hcv, hC, hb1, hlt1, hrd1⟩ := to_bytes sd W
      rw [HSD.out.1] at hcv hrd1
      have hb1w : Below w.heap.size w W1 := hbW.trans (hb1.mono hbW.size)
      have hck := checked_any (some ⟨W.heap.size, 0, none⟩) C sd.data.toList W1 hrd1 (HK.out.below hb1w)
      obtain ⟨sk, hsk⟩ : ∃ sk : ByteArray, sk = ⟨(checkedB sd.data.toList).toArray⟩ := ⟨_, rfl⟩
      rw [show str (checkedB sd.data.toList) = .string sk by rw [hsk]] at hck
      have HCK := Lib.hid hck
      have HSK := Lib.hid hsk
      have HB1 := Lib.hid B1
      have HB2 := Lib.hid B2
      have HBW := Lib.hid hbW
      have HLT := Lib.hid hlt
      have HB1W := Lib.hid hb1
      have hz2 : sd.size = 56 := HSD.out.1
      clear hck hsk hrd1 hb1w B1 B2 hbW hlt hb1 hlt1 hC
      go_wp2_with fail
      refine (HCK.out).mono ?_
      rintro e W2 ⟨rfl, hb2⟩
      have q1 : Blk W2 w.heap.size 97 #[.int .i64 0, .int .i64 0, .int .i64 0, .string ⟨#[]⟩, .bool false] := (HB1.out.below HB1W.out (by have := HLT.out; omega)).below hb2 (by have := HLT.out; have := HB1W.out.size; omega)
      have q2 : Blk W2 (w.heap.size + 1) 97 #[.int .i64 (n : Int), .int .i64 (p : Int), .int .i64 (l : Int), .string ⟨#[]⟩, .bool true] := (HB2.out.below HB1W.out HLT.out).below hb2 (by have := HLT.out; have := HB1W.out.size; omega)
      have hbw2 : Below w.heap.size w W2 := below_go (below_go HBW.out HB1W.out) hb2
      have k0 := q2.cell 0
      have k1 := q2.cell 1
      have k2 := q2.cell 2
      simp only [List.getElem?_toArray, List.getElem?_cons_zero, List.getElem?_cons_succ] at k0 k1 k2
      have Q1 := Lib.hid q1
      have Q2 := Lib.hid q2
      have HBW2 := Lib.hid hbw2
      clear HB1 HB2 HBW HLT HB1W q1 q2 hbw2 hb2 HCK hcv
      have n0 : (0 : Int) ≤ (n : Int) := by omega
      have p0 : (0 : Int) ≤ (p : Int) := by omega
      have l0 : (0 : Int) ≤ (l : Int) := by omega
      have p1 : (p : Int) < 65536 := HPL.out.1
      have l1 : (l : Int) < 65536 := HPL.out.2
      have HC := fun i => Q1.out.cell i
      have z0 := HC 0
      have z1 := HC 1
      have z2 := HC 2
      have z3 := HC 3
      have z4 := HC 4
      simp only [List.getElem?_toArray, List.getElem?_cons_zero, List.getElem?_cons_succ] at z0 z1 z2 z3 z4
      have f0 := Q1.out.frozen 0
      have f1 := Q1.out.frozen 1
      have f2 := Q1.out.frozen 2
      have f3 := Q1.out.frozen 3
      have f4 := Q1.out.frozen 4
      clear HC
      have HD := fun i => Q2.out.cell i
      have y3 := HD 3
      have y4 := HD 4
      simp only [List.getElem?_toArray, List.getElem?_cons_zero, List.getElem?_cons_succ] at y3 y4
      have e3 := Q2.out.frozen 3
      clear HD
      have HSE : Hid ((sk.toList = s.toList → checkedB (s.data.toList.take 56) = s.data.toList) ∧ (checkedB (s.data.toList.take 56) = s.data.toList → sk.toList = s.toList)) := Lib.hid (by
        rw [Lib.toList_data, Lib.toList_data, HSK.out, HSD.out.2]; exact ⟨fun e => e, fun e => e⟩)
      have HNO : Hid ((sk.toList ≠ s.toList ∨ n < 1 ∨ 4096 < n ∨ 8000 < 48 * p + l ∨ (l < 1 ∧ 0 < p)) → partRow (unpackB s.data.toList) = #[.int .i64 0, .int .i64 0, .int .i64 0, .string ⟨#[]⟩, .bool false]) := Lib.hid (fun h => by
        have h' := h.imp_left (fun e => fun e2 => e (HSE.out.2 e2))
        rw [unpack_bad HNPL.out.1 HNPL.out.2.1 HNPL.out.2.2 h']; rfl)
      cases hc : (sk.toList == s.toList)
      · dsimp only
        iterate 4 (first | go_values | go_skip | go_guarded | go_step)
        refine wpList_strneq rfl 9 _ _ _ rfl sk s rfl rfl true hc ?_
        have hcn : Hid (sk.toList ≠ s.toList) := Lib.hid (beq_eq_false_iff_ne.1 hc)
        clear hc
        simp only [Act.put, List.setIfInBounds_toArray, List.set_cons_succ, List.set_cons_zero]
        go_wp2_with fail
        · have HU := Lib.hid (show partRow (unpackB s.data.toList) = #[.int .i64 0, .int .i64 0, .int .i64 0, .string ⟨#[]⟩, .bool false] from HNO.out (.inl hcn.out))
          refine bodyPost_ret (v := .agg #[.int .i64 0, .int .i64 0, .int .i64 0, .string ⟨#[]⟩, .bool false]) ?_ rfl ⟨by rw [HU.out], (((((HBW2.out.setCell (p := ⟨w.heap.size, 0, none⟩) (Nat.le_refl _) _).setCell (p := ⟨w.heap.size, 1, none⟩) (Nat.le_refl _) _).setCell (p := ⟨w.heap.size, 2, none⟩) (Nat.le_refl _) _).setCell (p := ⟨w.heap.size, 3, none⟩) (Nat.le_refl _) _).setCell (p := ⟨w.heap.size, 4, none⟩) (Nat.le_refl _) _)⟩
          exact results_cell_row rfl _ _ w.heap.size _ _ _ _ rfl (((((Q1.out.set_ 0 (.int .i64 0)).set_ 1 (.int .i64 0)).set_ 2 (.int .i64 0)).set_ 3 (.string ⟨#[]⟩)).set_ 4 (.bool false)) Tryz.underlying97 rfl HI.out
      · have hdec : (n < 1) ∨ (¬ n < 1 ∧ 4096 < n) ∨ (¬ n < 1 ∧ ¬ 4096 < n ∧ 8000 < 48 * p + l) ∨ (¬ n < 1 ∧ ¬ 4096 < n ∧ ¬ 8000 < 48 * p + l ∧ l < 1 ∧ 0 < p) ∨ (¬ n < 1 ∧ ¬ 4096 < n ∧ ¬ 8000 < 48 * p + l ∧ ¬ l < 1 ∧ ¬ 48 < l) ∨ (¬ n < 1 ∧ ¬ 4096 < n ∧ ¬ 8000 < 48 * p + l ∧ l < 1 ∧ ¬ 0 < p ∧ ¬ 48 < l) ∨ (¬ n < 1 ∧ ¬ 4096 < n ∧ ¬ 8000 < 48 * p + l ∧ ¬ l < 1 ∧ 48 < l) := by omega
        rcases hdec with h0 | ⟨h0, h1⟩ | ⟨h0, h1, h2⟩ | ⟨h0, h1, h2, h3, h4⟩ | ⟨h0, h1, h2, h3, h5⟩ | ⟨h0, h1, h2, h3, h4, h5⟩ | ⟨h0, h1, h2, h3, h5⟩
        · have d1 : decide ((n : Int) < 1) = true := decide_eq_true (by omega)
          have HU := Lib.hid (HNO.out (.inr (.inl (by omega))))
          clear h0
          dsimp only
          iterate 4 (first | go_values | go_skip | go_guarded | go_step)
          refine wpList_strneq rfl 9 _ _ _ rfl sk s rfl rfl false hc ?_
          clear hc
          simp only [Act.put, List.setIfInBounds_toArray, List.set_cons_succ, List.set_cons_zero]
          go_wp2_with fail
          refine bodyPost_ret (v := .agg #[.int .i64 0, .int .i64 0, .int .i64 0, .string ⟨#[]⟩, .bool false]) ?_ rfl ⟨by rw [HU.out], (((((HBW2.out.setCell (p := ⟨w.heap.size, 0, none⟩) (Nat.le_refl _) _).setCell (p := ⟨w.heap.size, 1, none⟩) (Nat.le_refl _) _).setCell (p := ⟨w.heap.size, 2, none⟩) (Nat.le_refl _) _).setCell (p := ⟨w.heap.size, 3, none⟩) (Nat.le_refl _) _).setCell (p := ⟨w.heap.size, 4, none⟩) (Nat.le_refl _) _)⟩
          exact results_cell_row rfl _ _ w.heap.size _ _ _ _ rfl (((((Q1.out.set_ 0 (.int .i64 0)).set_ 1 (.int .i64 0)).set_ 2 (.int .i64 0)).set_ 3 (.string ⟨#[]⟩)).set_ 4 (.bool false)) Tryz.underlying97 rfl HI.out
        · have d1 : decide ((n : Int) < 1) = false := decide_eq_false (by omega)
          have d2 : decide ((4096 : Int) < (n : Int)) = true := decide_eq_true (by omega)
          have HU := Lib.hid (HNO.out (.inr (.inr (.inl (by omega)))))
          clear h0 h1
          dsimp only
          iterate 4 (first | go_values | go_skip | go_guarded | go_step)
          refine wpList_strneq rfl 9 _ _ _ rfl sk s rfl rfl false hc ?_
          clear hc
          simp only [Act.put, List.setIfInBounds_toArray, List.set_cons_succ, List.set_cons_zero]
          go_wp2_with fail
          refine bodyPost_ret (v := .agg #[.int .i64 0, .int .i64 0, .int .i64 0, .string ⟨#[]⟩, .bool false]) ?_ rfl ⟨by rw [HU.out], (((((HBW2.out.setCell (p := ⟨w.heap.size, 0, none⟩) (Nat.le_refl _) _).setCell (p := ⟨w.heap.size, 1, none⟩) (Nat.le_refl _) _).setCell (p := ⟨w.heap.size, 2, none⟩) (Nat.le_refl _) _).setCell (p := ⟨w.heap.size, 3, none⟩) (Nat.le_refl _) _).setCell (p := ⟨w.heap.size, 4, none⟩) (Nat.le_refl _) _)⟩
          exact results_cell_row rfl _ _ w.heap.size _ _ _ _ rfl (((((Q1.out.set_ 0 (.int .i64 0)).set_ 1 (.int .i64 0)).set_ 2 (.int .i64 0)).set_ 3 (.string ⟨#[]⟩)).set_ 4 (.bool false)) Tryz.underlying97 rfl HI.out
        · have d1 : decide ((n : Int) < 1) = false := decide_eq_false (by omega)
          have d2 : decide ((4096 : Int) < (n : Int)) = false := decide_eq_false (by omega)
          have d3 : decide (8000 < 48 * (p : Int) + (l : Int)) = true := decide_eq_true (by omega)
          have HU := Lib.hid (HNO.out (.inr (.inr (.inr (.inl (by omega))))))
          clear h0 h1 h2
          dsimp only
          iterate 4 (first | go_values | go_skip | go_guarded | go_step)
          refine wpList_strneq rfl 9 _ _ _ rfl sk s rfl rfl false hc ?_
          clear hc
          simp only [Act.put, List.setIfInBounds_toArray, List.set_cons_succ, List.set_cons_zero]
          go_wp2_with fail
          refine bodyPost_ret (v := .agg #[.int .i64 0, .int .i64 0, .int .i64 0, .string ⟨#[]⟩, .bool false]) ?_ rfl ⟨by rw [HU.out], (((((HBW2.out.setCell (p := ⟨w.heap.size, 0, none⟩) (Nat.le_refl _) _).setCell (p := ⟨w.heap.size, 1, none⟩) (Nat.le_refl _) _).setCell (p := ⟨w.heap.size, 2, none⟩) (Nat.le_refl _) _).setCell (p := ⟨w.heap.size, 3, none⟩) (Nat.le_refl _) _).setCell (p := ⟨w.heap.size, 4, none⟩) (Nat.le_refl _) _)⟩
          exact results_cell_row rfl _ _ w.heap.size _ _ _ _ rfl (((((Q1.out.set_ 0 (.int .i64 0)).set_ 1 (.int .i64 0)).set_ 2 (.int .i64 0)).set_ 3 (.string ⟨#[]⟩)).set_ 4 (.bool false)) Tryz.underlying97 rfl HI.out
        · have HU := Lib.hid (HNO.out (.inr (.inr (.inr (.inr (by omega))))))
          obtain rfl : l = 0 := by omega
          simp only [Int.natCast_zero] at k2
          have d3 : decide (8000 < 48 * (p : Int)) = false := decide_eq_false (by omega)
          have d5 : 0 < p := by omega
          have d1 : decide ((n : Int) < 1) = false := decide_eq_false (by omega)
          have d2 : decide ((4096 : Int) < (n : Int)) = false := decide_eq_false (by omega)
          clear h0 h1 h2 h3 h4
          dsimp only
          iterate 4 (first | go_values | go_skip | go_guarded | go_step)
          refine wpList_strneq rfl 9 _ _ _ rfl sk s rfl rfl false hc ?_
          clear hc
          simp only [Act.put, List.setIfInBounds_toArray, List.set_cons_succ, List.set_cons_zero]
          go_wp2_with fail
          refine bodyPost_ret (v := .agg #[.int .i64 0, .int .i64 0, .int .i64 0, .string ⟨#[]⟩, .bool false]) ?_ rfl ⟨by rw [HU.out], (((((HBW2.out.setCell (p := ⟨w.heap.size, 0, none⟩) (Nat.le_refl _) _).setCell (p := ⟨w.heap.size, 1, none⟩) (Nat.le_refl _) _).setCell (p := ⟨w.heap.size, 2, none⟩) (Nat.le_refl _) _).setCell (p := ⟨w.heap.size, 3, none⟩) (Nat.le_refl _) _).setCell (p := ⟨w.heap.size, 4, none⟩) (Nat.le_refl _) _)⟩
          exact results_cell_row rfl _ _ w.heap.size _ _ _ _ rfl (((((Q1.out.set_ 0 (.int .i64 0)).set_ 1 (.int .i64 0)).set_ 2 (.int .i64 0)).set_ 3 (.string ⟨#[]⟩)).set_ 4 (.bool false)) Tryz.underlying97 rfl HI.out
        · have d1 : decide ((n : Int) < 1) = false := decide_eq_false (by omega)
          have d2 : decide ((4096 : Int) < (n : Int)) = false := decide_eq_false (by omega)
          have d3 : decide (8000 < 48 * (p : Int) + (l : Int)) = false := decide_eq_false (by omega)
          have d4 : decide ((l : Int) < 1) = false := decide_eq_false (by omega)
          have d6 : decide ((48 : Int) < (l : Int)) = false := decide_eq_false (by omega)
          have hmin : min l 48 = l := by omega
          have HYES : Hid ((∀ i, 8 + l ≤ i → i < 56 → s.data.toList[i]? = some 0) → unpackB s.data.toList = ⟨n, p, l, (s.data.toList.drop 8).take l, true⟩) := Lib.hid (fun hq => by
            have := unpack_good HNPL.out.1 HNPL.out.2.1 HNPL.out.2.2 (by rw [list_size]; exact h64) (HSE.out.1 (eq_of_beq hc)) (by omega) (by omega) (by omega) (by omega) (fun i hi hi2 => hq i (by rw [hmin] at hi; exact hi) hi2)
            rwa [hmin] at this)
          have HNZ : Hid (∀ k, 8 + l ≤ k → k < 56 → ∀ x, s.data.toList[k]? = some x → x ≠ 0 → partRow (unpackB s.data.toList) = #[.int .i64 0, .int .i64 0, .int .i64 0, .string ⟨#[]⟩, .bool false]) := Lib.hid (fun k g1 g2 x g3 g4 => by rw [unpack_nz HNPL.out.1 HNPL.out.2.1 HNPL.out.2.2 (by rw [hmin]; exact g1) g2 g3 g4]; rfl)
          have l48 : l ≤ 48 := by omega
          clear hmin
          clear h0 h1 h2 h3 h5
          dsimp only
          iterate 4 (first | go_values | go_skip | go_guarded | go_step)
          refine wpList_strneq rfl 9 _ _ _ rfl sk s rfl rfl false hc ?_
          clear hc
          simp only [Act.put, List.setIfInBounds_toArray, List.set_cons_succ, List.set_cons_zero]
          go_wp2_with fail
          go_loopw [5] (fun x wr => ∃ j : Nat, 8 + l + j ≤ 56 ∧ x = .int .i64 ((8 + l + j : Nat) : Int) ∧ Hid (∀ i, 8 + l ≤ i → i < 8 + l + j → s.data.toList[i]? = some 0) ∧ W2 = wr) (fun x _ => 56 - (intOf x).toNat)
          case atStart => exact ⟨0, by omega, by go_num, Lib.hid (fun i hi hi2 => absurd hi2 (by omega)), rfl⟩
          case round =>
            obtain ⟨j, hj, rfl, hzz, rfl⟩ := hrel
            obtain ⟨k, hk⟩ : ∃ k, k = 8 + l + j := ⟨_, rfl⟩
            rw [← hk] at hzz ⊢
            by_cases hke : k = 56
            · have HG := Lib.hid (HYES.out (fun i hi hi2 => hzz.out i hi (by omega)))
              rw [hke]
              clear hk hj hke
              go_wp2_with fail
              refine bodyPost_ret (v := .agg #[.int .i64 (n : Int), .int .i64 (p : Int), .int .i64 (l : Int), .string (s.extract 8 (8 + l)), .bool true]) ?_ rfl ⟨?_, ((((((HBW2.out.setCell (p := ⟨w.heap.size + 1, 3, none⟩) (Nat.le_succ _) _).setCell (p := ⟨w.heap.size, 0, none⟩) (Nat.le_refl _) _).setCell (p := ⟨w.heap.size, 1, none⟩) (Nat.le_refl _) _).setCell (p := ⟨w.heap.size, 2, none⟩) (Nat.le_refl _) _).setCell (p := ⟨w.heap.size, 3, none⟩) (Nat.le_refl _) _).setCell (p := ⟨w.heap.size, 4, none⟩) (Nat.le_refl _) _)⟩
              · exact results_cell_row rfl _ _ w.heap.size _ _ _ _ rfl (((((Blk.set_ (show Blk (W2.setCell ⟨w.heap.size + 1, 3, none⟩ (.string (s.extract 8 (8 + l)))) w.heap.size 97 #[.int .i64 0, .int .i64 0, .int .i64 0, .string ⟨#[]⟩, .bool false] from (Below.heap_setCell _ _ _ _ (by show w.heap.size ≠ w.heap.size + 1; omega)).trans Q1.out) 0 (.int .i64 (n : Int))).set_ 1 (.int .i64 (p : Int))).set_ 2 (.int .i64 (l : Int))).set_ 3 (.string (s.extract 8 (8 + l)))).set_ 4 (.bool true)) Tryz.underlying97 rfl HI.out
              · rw [HG.out, partRow, str_of (extract_list s 8 (8 + l)), Nat.add_sub_cancel_left]
            · have hks : k < s.size := by omega
              have k0x : (0 : Int) ≤ (k : Int) := by omega
              have k1x : (k : Int) < 56 := by omega
              obtain ⟨y, hy⟩ : ∃ y, y = (s[k]'hks).toNat := ⟨_, rfl⟩
              have hx : (s[k]'hks).toNat = y := hy.symm
              have hget : s.data.toList[k]? = some (s[k]'hks) := by rw [List.getElem?_eq_getElem (by rw [list_size]; exact hks)]; rfl
              have HKK := Lib.hid (And.intro hk hj)
              by_cases hy0 : y = 0
              · have HZ := Lib.hid (show s.data.toList[k]? = some 0 by rw [hget]; congr 1; exact UInt8.toNat_inj.1 (by rw [hx, hy0]; rfl))
                rw [hy0] at hx
                clear hy hy0 hget hj hk
                go_wp2_with fail
                go_roundw
                case rel => exact ⟨j + 1, by have := HKK.out; omega, by have := HKK.out; first | (go_num; done) | (go_num; omega), Lib.hid (fun i hi hi2 => by
                  by_cases e : i = k
                  · rw [e]; exact HZ.out
                  · exact hzz.out i hi (by have := HKK.out; omega)), trivial⟩
                case measure => simp [intOf]; omega
              · have HU := Lib.hid (HNZ.out k (by omega) (by omega) _ hget (fun e => hy0 (by rw [← hx, e]; rfl)))
                have hyb : ((y : Int) == 0) = false := beq_eq_false_iff_ne.2 (by omega)
                have hyd : decide ((y : Int) = 0) = false := decide_eq_false (by omega)
                have hyn : ((y : Int) != 0) = true := by rw [bne, hyb]; rfl
                have hye : (y != 0) = true := by simp [hy0]
                clear hy hget hj hk hke
                go_wp2_with fail
                refine bodyPost_ret (v := .agg #[.int .i64 0, .int .i64 0, .int .i64 0, .string ⟨#[]⟩, .bool false]) ?_ rfl ⟨by rw [HU.out], (((((HBW2.out.setCell (p := ⟨w.heap.size, 0, none⟩) (Nat.le_refl _) _).setCell (p := ⟨w.heap.size, 1, none⟩) (Nat.le_refl _) _).setCell (p := ⟨w.heap.size, 2, none⟩) (Nat.le_refl _) _).setCell (p := ⟨w.heap.size, 3, none⟩) (Nat.le_refl _) _).setCell (p := ⟨w.heap.size, 4, none⟩) (Nat.le_refl _) _)⟩
                exact results_cell_row rfl _ _ w.heap.size _ _ _ _ rfl (((((Q1.out.set_ 0 (.int .i64 0)).set_ 1 (.int .i64 0)).set_ 2 (.int .i64 0)).set_ 3 (.string ⟨#[]⟩)).set_ 4 (.bool false)) Tryz.underlying97 rfl HI.out
        · obtain rfl : l = 0 := by omega
          obtain rfl : p = 0 := by omega
          simp only [Int.natCast_zero] at k1 k2
          have d1 : decide ((n : Int) < 1) = false := decide_eq_false (by omega)
          have d2 : decide ((4096 : Int) < (n : Int)) = false := decide_eq_false (by omega)
          have hmin : min 0 48 = 0 := by omega
          have HYES : Hid ((∀ i, 8 + 0 ≤ i → i < 56 → s.data.toList[i]? = some 0) → unpackB s.data.toList = ⟨n, 0, 0, (s.data.toList.drop 8).take 0, true⟩) := Lib.hid (fun hq => by
            have := unpack_good HNPL.out.1 HNPL.out.2.1 HNPL.out.2.2 (by rw [list_size]; exact h64) (HSE.out.1 (eq_of_beq hc)) (by omega) (by omega) (by omega) (by omega) (fun i hi hi2 => hq i (by rw [hmin] at hi; exact hi) hi2)
            rwa [hmin] at this)
          have HNZ : Hid (∀ k, 8 + 0 ≤ k → k < 56 → ∀ x, s.data.toList[k]? = some x → x ≠ 0 → partRow (unpackB s.data.toList) = #[.int .i64 0, .int .i64 0, .int .i64 0, .string ⟨#[]⟩, .bool false]) := Lib.hid (fun k g1 g2 x g3 g4 => by rw [unpack_nz HNPL.out.1 HNPL.out.2.1 HNPL.out.2.2 (by rw [hmin]; exact g1) g2 g3 g4]; rfl)
          clear hmin
          clear h0 h1 h2 h3 h4 h5
          dsimp only
          iterate 4 (first | go_values | go_skip | go_guarded | go_step)
          refine wpList_strneq rfl 9 _ _ _ rfl sk s rfl rfl false hc ?_
          clear hc
          simp only [Act.put, List.setIfInBounds_toArray, List.set_cons_succ, List.set_cons_zero]
          go_wp2_with fail
          go_loopw [5] (fun x wr => ∃ j : Nat, 8 + j ≤ 56 ∧ x = .int .i64 ((8 + j : Nat) : Int) ∧ Hid (∀ i, 8 ≤ i → i < 8 + j → s.data.toList[i]? = some 0) ∧ W2 = wr) (fun x _ => 56 - (intOf x).toNat)
          case atStart => exact ⟨0, by omega, by go_num, Lib.hid (fun i hi hi2 => absurd hi2 (by omega)), rfl⟩
          case round =>
            obtain ⟨j, hj, rfl, hzz, rfl⟩ := hrel
            obtain ⟨k, hk⟩ : ∃ k, k = 8 + j := ⟨_, rfl⟩
            rw [← hk] at hzz ⊢
            by_cases hke : k = 56
            · have HG := Lib.hid (HYES.out (fun i hi hi2 => hzz.out i hi (by omega)))
              rw [hke]
              clear hk hj hke
              go_wp2_with fail
              refine bodyPost_ret (v := .agg #[.int .i64 (n : Int), .int .i64 0, .int .i64 0, .string ByteArray.empty, .bool true]) ?_ rfl ⟨?_, ((((((HBW2.out.setCell (p := ⟨w.heap.size + 1, 3, none⟩) (Nat.le_succ _) _).setCell (p := ⟨w.heap.size, 0, none⟩) (Nat.le_refl _) _).setCell (p := ⟨w.heap.size, 1, none⟩) (Nat.le_refl _) _).setCell (p := ⟨w.heap.size, 2, none⟩) (Nat.le_refl _) _).setCell (p := ⟨w.heap.size, 3, none⟩) (Nat.le_refl _) _).setCell (p := ⟨w.heap.size, 4, none⟩) (Nat.le_refl _) _)⟩
              · exact results_cell_row rfl _ _ w.heap.size _ _ _ _ rfl (((((Blk.set_ (show Blk (W2.setCell ⟨w.heap.size + 1, 3, none⟩ (.string ByteArray.empty)) w.heap.size 97 #[.int .i64 0, .int .i64 0, .int .i64 0, .string ⟨#[]⟩, .bool false] from (Below.heap_setCell _ _ _ _ (by show w.heap.size ≠ w.heap.size + 1; omega)).trans Q1.out) 0 (.int .i64 (n : Int))).set_ 1 (.int .i64 0)).set_ 2 (.int .i64 0)).set_ 3 (.string ByteArray.empty)).set_ 4 (.bool true)) Tryz.underlying97 rfl HI.out
              · rw [HG.out, partRow, List.take_zero]; rfl
            · have hks : k < s.size := by omega
              have k0x : (0 : Int) ≤ (k : Int) := by omega
              have k1x : (k : Int) < 56 := by omega
              obtain ⟨y, hy⟩ : ∃ y, y = (s[k]'hks).toNat := ⟨_, rfl⟩
              have hx : (s[k]'hks).toNat = y := hy.symm
              have hget : s.data.toList[k]? = some (s[k]'hks) := by rw [List.getElem?_eq_getElem (by rw [list_size]; exact hks)]; rfl
              have HKK := Lib.hid (And.intro hk hj)
              by_cases hy0 : y = 0
              · have HZ := Lib.hid (show s.data.toList[k]? = some 0 by rw [hget]; congr 1; exact UInt8.toNat_inj.1 (by rw [hx, hy0]; rfl))
                rw [hy0] at hx
                clear hy hy0 hget hj hk
                go_wp2_with fail
                go_roundw
                case rel => exact ⟨j + 1, by have := HKK.out; omega, by have := HKK.out; first | (go_num; done) | (go_num; omega), Lib.hid (fun i hi hi2 => by
                  by_cases e : i = k
                  · rw [e]; exact HZ.out
                  · exact hzz.out i hi (by have := HKK.out; omega)), trivial⟩
                case measure => simp [intOf]; omega
              · have HU := Lib.hid (HNZ.out k (by omega) (by omega) _ hget (fun e => hy0 (by rw [← hx, e]; rfl)))
                have hyb : ((y : Int) == 0) = false := beq_eq_false_iff_ne.2 (by omega)
                have hyd : decide ((y : Int) = 0) = false := decide_eq_false (by omega)
                have hyn : ((y : Int) != 0) = true := by rw [bne, hyb]; rfl
                have hye : (y != 0) = true := by simp [hy0]
                clear hy hget hj hk hke
                go_wp2_with fail
                refine bodyPost_ret (v := .agg #[.int .i64 0, .int .i64 0, .int .i64 0, .string ⟨#[]⟩, .bool false]) ?_ rfl ⟨by rw [HU.out], (((((HBW2.out.setCell (p := ⟨w.heap.size, 0, none⟩) (Nat.le_refl _) _).setCell (p := ⟨w.heap.size, 1, none⟩) (Nat.le_refl _) _).setCell (p := ⟨w.heap.size, 2, none⟩) (Nat.le_refl _) _).setCell (p := ⟨w.heap.size, 3, none⟩) (Nat.le_refl _) _).setCell (p := ⟨w.heap.size, 4, none⟩) (Nat.le_refl _) _)⟩
                exact results_cell_row rfl _ _ w.heap.size _ _ _ _ rfl (((((Q1.out.set_ 0 (.int .i64 0)).set_ 1 (.int .i64 0)).set_ 2 (.int .i64 0)).set_ 3 (.string ⟨#[]⟩)).set_ 4 (.bool false)) Tryz.underlying97 rfl HI.out
        · have d1 : decide ((n : Int) < 1) = false := decide_eq_false (by omega)
          have d2 : decide ((4096 : Int) < (n : Int)) = false := decide_eq_false (by omega)
          have d3 : decide (8000 < 48 * (p : Int) + (l : Int)) = false := decide_eq_false (by omega)
          have d4 : decide ((l : Int) < 1) = false := decide_eq_false (by omega)
          have d6 : decide ((48 : Int) < (l : Int)) = true := decide_eq_true (by omega)
          have hmin : min l 48 = 48 := by omega
          have HYES : Hid ((∀ i, 8 + 48 ≤ i → i < 56 → s.data.toList[i]? = some 0) → unpackB s.data.toList = ⟨n, p, l, (s.data.toList.drop 8).take 48, true⟩) := Lib.hid (fun hq => by
            have := unpack_good HNPL.out.1 HNPL.out.2.1 HNPL.out.2.2 (by rw [list_size]; exact h64) (HSE.out.1 (eq_of_beq hc)) (by omega) (by omega) (by omega) (by omega) (fun i hi hi2 => hq i (by rw [hmin] at hi; exact hi) hi2)
            rwa [hmin] at this)
          have HNZ : Hid (∀ k, 8 + 48 ≤ k → k < 56 → ∀ x, s.data.toList[k]? = some x → x ≠ 0 → partRow (unpackB s.data.toList) = #[.int .i64 0, .int .i64 0, .int .i64 0, .string ⟨#[]⟩, .bool false]) := Lib.hid (fun k g1 g2 x g3 g4 => by rw [unpack_nz HNPL.out.1 HNPL.out.2.1 HNPL.out.2.2 (by rw [hmin]; exact g1) g2 g3 g4]; rfl)
          clear hmin
          clear h0 h1 h2 h3 h5
          dsimp only
          iterate 4 (first | go_values | go_skip | go_guarded | go_step)
          refine wpList_strneq rfl 9 _ _ _ rfl sk s rfl rfl false hc ?_
          clear hc
          simp only [Act.put, List.setIfInBounds_toArray, List.set_cons_succ, List.set_cons_zero]
          go_wp2_with fail
          go_loopw [5] (fun x wr => ∃ j : Nat, 8 + 48 + j ≤ 56 ∧ x = .int .i64 ((8 + 48 + j : Nat) : Int) ∧ Hid (∀ i, 8 + 48 ≤ i → i < 8 + 48 + j → s.data.toList[i]? = some 0) ∧ W2 = wr) (fun x _ => 56 - (intOf x).toNat)
          case atStart => exact ⟨0, by omega, by go_num, Lib.hid (fun i hi hi2 => absurd hi2 (by omega)), rfl⟩
          case round =>
            obtain ⟨j, hj, rfl, hzz, rfl⟩ := hrel
            obtain ⟨k, hk⟩ : ∃ k, k = 8 + 48 + j := ⟨_, rfl⟩
            rw [← hk] at hzz ⊢
            by_cases hke : k = 56
            · have HG := Lib.hid (HYES.out (fun i hi hi2 => hzz.out i hi (by omega)))
              rw [hke]
              clear hk hj hke
              go_wp2_with fail
              refine bodyPost_ret (v := .agg #[.int .i64 (n : Int), .int .i64 (p : Int), .int .i64 (l : Int), .string (s.extract 8 (8 + 48)), .bool true]) ?_ rfl ⟨?_, ((((((HBW2.out.setCell (p := ⟨w.heap.size + 1, 3, none⟩) (Nat.le_succ _) _).setCell (p := ⟨w.heap.size, 0, none⟩) (Nat.le_refl _) _).setCell (p := ⟨w.heap.size, 1, none⟩) (Nat.le_refl _) _).setCell (p := ⟨w.heap.size, 2, none⟩) (Nat.le_refl _) _).setCell (p := ⟨w.heap.size, 3, none⟩) (Nat.le_refl _) _).setCell (p := ⟨w.heap.size, 4, none⟩) (Nat.le_refl _) _)⟩
              · exact results_cell_row rfl _ _ w.heap.size _ _ _ _ rfl (((((Blk.set_ (show Blk (W2.setCell ⟨w.heap.size + 1, 3, none⟩ (.string (s.extract 8 (8 + 48)))) w.heap.size 97 #[.int .i64 0, .int .i64 0, .int .i64 0, .string ⟨#[]⟩, .bool false] from (Below.heap_setCell _ _ _ _ (by show w.heap.size ≠ w.heap.size + 1; omega)).trans Q1.out) 0 (.int .i64 (n : Int))).set_ 1 (.int .i64 (p : Int))).set_ 2 (.int .i64 (l : Int))).set_ 3 (.string (s.extract 8 (8 + 48)))).set_ 4 (.bool true)) Tryz.underlying97 rfl HI.out
              · rw [HG.out, partRow, str_of (extract_list s 8 (8 + 48)), Nat.add_sub_cancel_left]
            · have hks : k < s.size := by omega
              have k0x : (0 : Int) ≤ (k : Int) := by omega
              have k1x : (k : Int) < 56 := by omega
              obtain ⟨y, hy⟩ : ∃ y, y = (s[k]'hks).toNat := ⟨_, rfl⟩
              have hx : (s[k]'hks).toNat = y := hy.symm
              have hget : s.data.toList[k]? = some (s[k]'hks) := by rw [List.getElem?_eq_getElem (by rw [list_size]; exact hks)]; rfl
              have HKK := Lib.hid (And.intro hk hj)
              by_cases hy0 : y = 0
              · have HZ := Lib.hid (show s.data.toList[k]? = some 0 by rw [hget]; congr 1; exact UInt8.toNat_inj.1 (by rw [hx, hy0]; rfl))
                rw [hy0] at hx
                clear hy hy0 hget hj hk
                go_wp2_with fail
                go_roundw
                case rel => exact ⟨j + 1, by have := HKK.out; omega, by have := HKK.out; first | (go_num; done) | (go_num; omega), Lib.hid (fun i hi hi2 => by
                  by_cases e : i = k
                  · rw [e]; exact HZ.out
                  · exact hzz.out i hi (by have := HKK.out; omega)), trivial⟩
                case measure => simp [intOf]; omega
              · have HU := Lib.hid (HNZ.out k (by omega) (by omega) _ hget (fun e => hy0 (by rw [← hx, e]; rfl)))
                have hyb : ((y : Int) == 0) = false := beq_eq_false_iff_ne.2 (by omega)
                have hyd : decide ((y : Int) = 0) = false := decide_eq_false (by omega)
                have hyn : ((y : Int) != 0) = true := by rw [bne, hyb]; rfl
                have hye : (y != 0) = true := by simp [hy0]
                clear hy hget hj hk hke
                go_wp2_with fail
                refine bodyPost_ret (v := .agg #[.int .i64 0, .int .i64 0, .int .i64 0, .string ⟨#[]⟩, .bool false]) ?_ rfl ⟨by rw [HU.out], (((((HBW2.out.setCell (p := ⟨w.heap.size, 0, none⟩) (Nat.le_refl _) _).setCell (p := ⟨w.heap.size, 1, none⟩) (Nat.le_refl _) _).setCell (p := ⟨w.heap.size, 2, none⟩) (Nat.le_refl _) _).setCell (p := ⟨w.heap.size, 3, none⟩) (Nat.le_refl _) _).setCell (p := ⟨w.heap.size, 4, none⟩) (Nat.le_refl _) _)⟩
                exact results_cell_row rfl _ _ w.heap.size _ _ _ _ rfl (((((Q1.out.set_ 0 (.int .i64 0)).set_ 1 (.int .i64 0)).set_ 2 (.int .i64 0)).set_ 3 (.string ⟨#[]⟩)).set_ 4 (.bool false)) Tryz.underlying97 rfl HI.out
    clear hK
    go_region_held3 (fun _ => True) (trivial) ((go_at_call 82; refine (CC.out _ _ (by assumption)).mono ?_; rintro e w2 ⟨rfl, rfl⟩))
    all_goals exact key _ (two_new w _ _).1 (two_new w _ _).2.1 (two_new w _ _).2.2.1 (two_new w _ _).2.2.2
  · have HU := Lib.hid (show partRow (unpackB s.data.toList) = #[.int .i64 0, .int .i64 0, .int .i64 0, .string ⟨#[]⟩, .bool false] by rw [unpack_short (by rw [list_size]; exact h64)]; rfl)
    go_enter Tryz.func52, Tryz.ntmps52
    go_wp2_with fail
    refine bodyPost_ret (v := .agg #[.int .i64 0, .int .i64 0, .int .i64 0, .string ⟨#[]⟩, .bool false]) ?_ rfl ⟨by rw [HU.out], below_new w _⟩
    exact results_cell_row rfl _ _ w.heap.size _ _ _ _ rfl (Blk.new w 97 _) Tryz.underlying97 rfl hsz
end Go.Proofs.YtddpjahoeldleaaGreatDoor
