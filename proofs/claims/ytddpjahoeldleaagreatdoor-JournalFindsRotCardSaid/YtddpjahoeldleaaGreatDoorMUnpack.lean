/- Contract of Unpack. -/
import Derived.Test.YtddpjahoeldleaaGreatDoorMRefUnpack
import Derived.Test.YtddpjahoeldleaaGreatDoorMPack
import Derived.Deep.MidRow
import Derived.Laws.Cover3
import Derived.BigQuiet

namespace Go.Proofs.YtddpjahoeldleaaGreatDoor
open Go.RowKit

theorem infoJpart : (Tryz.prog.info? 80).map (fun i => (i.zero, i.size)) = some (some (.agg #[.int .i64 0, .int .i64 0, .int .i64 0, .string ⟨#[]⟩, .bool false]), 5) := by kernel_rfl
theorem infoSect : (Tryz.prog.info? 83).map (fun i => (i.zero, i.size)) = some (some (.agg (rowB 64 [])), 64) := by kernel_rfl
set_option maxHeartbeats 1000000 in
theorem beq_any (v1 v2 : Value) (s1 s2 : ByteArray) (b : Bool) (hb : (s1.toList == s2.toList) = b) (w : World) (h1 : (convert 84 9 v1).run Tryz.prog w = .ok (.string s1) w) (h2 : (convert 84 9 v2).run Tryz.prog w = .ok (.string s2) w) :
    Calls Tryz.prog 77 #[v1, v2] w (fun e w' => e = .returned (.bool b) ∧ w' = w) := by
  have HB := Lib.hid hb
  clear hb
  go_enter Tryz.func77, Tryz.ntmps77
  go_wp2_with fail
  go_ret
  exact ⟨by rw [HB.out]; rfl, rfl⟩
theorem rd_sect {w : World} {q : Nat} {T : TypeId} {s : Bs} (h : Blk w q T (rowB 64 s)) (hs : s.length = 64) {off n : Nat} (hn : off + n ≤ 64) : Rd w w.heap.size 1 (some ⟨q, off, none⟩) n (byteCells ((s.drop off).take n)) := by
  have hl : ((s.drop off).take n).length = n := by rw [List.length_take, List.length_drop, hs]; omega
  refine ⟨by rw [byteCells_len, hl, Nat.mul_one], fun _ => ⟨q, off, rfl, h.lt, fun j u hu => ?_⟩⟩
  have hj : j < n := by have := (List.getElem?_eq_some_iff.1 hu).1; rw [byteCells_len, hl] at this; exact this
  rw [h.cell, rowB_get (by omega)]
  rw [byteCells, List.getElem?_map, List.getElem?_take, if_pos hj, List.getElem?_drop, List.getElem?_eq_getElem (by omega)] at hu
  rw [byteN, List.getD_eq_getElem?_getD, List.getElem?_eq_getElem (by omega)]
  exact hu
theorem below_drew1 {a w : World} (h : Below a.heap.size a w) : Below a.heap.size a w.drew := ⟨h.os, h.tape, h.output, h.size, h.block⟩
theorem rd_zeros {w : World} {g : Nat} {T : TypeId} {n : Nat} (h : Blk w g T (madeCells #[.int .u8 0] n)) : Rd w w.heap.size 1 (some ⟨g, 0, none⟩) n (byteCells (List.replicate n 0)) := by
  refine ⟨by rw [byteCells_len, List.length_replicate, Nat.mul_one], fun _ => ⟨g, 0, rfl, h.lt, fun j u hu => ?_⟩⟩
  have hj : j < n := by have := (List.getElem?_eq_some_iff.1 hu).1; rwa [byteCells_len, List.length_replicate] at this
  have e := made_list (.int .u8 0) n
  rw [Nat.zero_add, h.cell, ← Array.getElem?_toList, e, List.getElem?_replicate, if_pos hj]
  rw [byteCells, List.getElem?_map, List.getElem?_replicate, if_pos hj] at hu
  exact hu
theorem conv_some {w : World} {B g o n : Nat} {b : Bs} (h : Rd w B 1 (some ⟨g, o, none⟩) n (byteCells b)) (C : Nat) :
    (convert 84 9 (.slice (some ⟨g, o, none⟩) n C)).run Tryz.prog w = .ok (.string ⟨b.toArray⟩) w := by
  rcases Nat.eq_zero_or_pos n with h0 | h0
  · subst h0
    have hl : b = [] := by have := h.1; rw [byteCells_len] at this; exact List.eq_nil_of_length_eq_zero (by omega)
    subst hl
    exact Lib.run_convert_whole (P := Tryz.prog) w 84 5 9 Tryz.underlying84 Tryz.underlying5 Tryz.underlying9 g o ⟨#[]⟩ (fun i hi => absurd hi (Nat.not_lt_zero _)) C
  · exact conv_rd h h0 C
theorem sum_same {b : Bs} (h : b.length = 64) : ((sha56 (b.take 56)).take 8 = b.drop 56 → checkedB (b.take 56) = b) ∧ (checkedB (b.take 56) = b → (sha56 (b.take 56)).take 8 = b.drop 56) := by
  constructor
  · intro e; rw [checkedB, e, List.take_append_drop]
  · intro e
    have := congrArg (List.drop 56) e
    rw [checkedB, List.drop_left' (by rw [List.length_take, h]; rfl)] at this
    exact this
theorem zer_same {b : Bs} {m : Nat} : ((b.drop (8 + m)).take (48 - m) = List.replicate (48 - m) 0 → ∀ i, 8 + m ≤ i → i < 56 → b[i]? = some 0) ∧ ((∀ i, 8 + m ≤ i → i < 56 → b[i]? = some 0) → (b.drop (8 + m)).take (48 - m) = List.replicate (48 - m) 0) := by
  constructor
  · intro e i h1 h2
    have := congrArg (fun l => l[i - (8 + m)]?) e
    rw [List.getElem?_take, if_pos (by omega), List.getElem?_drop, show 8 + m + (i - (8 + m)) = i by omega, List.getElem?_replicate, if_pos (by omega)] at this
    exact this
  · intro hq
    apply List.ext_getElem?
    intro i
    rw [List.getElem?_take, List.getElem?_replicate]
    by_cases hi : i < 48 - m
    · rw [if_pos hi, if_pos hi, List.getElem?_drop]
      exact hq _ (by omega) (by omega)
    · rw [if_neg hi, if_neg hi]
theorem unpack_notz {b : Bs} {n p l m : Nat} (hn : n = numB (b.take 4)) (hp : p = numB ((b.drop 4).take 2)) (hl : l = numB ((b.drop 6).take 2)) (hm : m = min l 48) (h : ¬ ∀ i, 8 + m ≤ i → i < 56 → b[i]? = some 0) : unpackB b = noPart := by
  by_cases h64 : b.length = 64
  · have : ∃ i, 8 + m ≤ i ∧ i < 56 ∧ b[i]? ≠ some 0 := by
      apply Classical.byContradiction
      intro hc
      exact h fun i h1 h2 => Classical.byContradiction fun e => hc ⟨i, h1, h2, e⟩
    obtain ⟨i, h1, h2, e⟩ := this
    have hx : b[i]? = some (b[i]'(by omega)) := List.getElem?_eq_getElem (by omega)
    exact unpack_nz hn hp hl (by rw [← hm]; exact h1) h2 hx (fun e0 => e (by rw [hx, e0]))
  · exact unpack_short h64
theorem blk_alloc {X w6 : World} {cs : Array Value} {T : TypeId} (b : Below (X.alloc (.cells cs T)).heap.size (X.alloc (.cells cs T)) w6) : Blk w6 X.heap.size T cs := (Blk.new X T cs).below b (Blk.new X T cs).lt
theorem blk_alloc1 {X w6 : World} {cs : Array Value} {T : TypeId} (b : Below (X.alloc (.cells cs T)).drew.heap.size (X.alloc (.cells cs T)).drew w6) : Blk w6 X.heap.size T cs := (Blk.drewN (Blk.new X T cs) 1).below b (Blk.new X T cs).lt
theorem blk_carry {X w6 : World} {g : Nat} {cs : Array Value} {T : TypeId} (h : Blk X g T cs) (b : Below X.heap.size X w6) : Blk w6 g T cs := h.below b h.lt
theorem below_alloc' {a w : World} (h : Below a.heap.size a w) (o : Obj) : Below a.heap.size a (w.alloc o) := h.alloc h.size o
theorem below_set5 {a w : World} {g : Nat} (h : Below a.heap.size a w) (hg : a.heap.size ≤ g) (u0 u1 u2 u3 u4 : Value) : Below a.heap.size a (((((w.setCell ⟨g, 0, none⟩ u0).setCell ⟨g, 1, none⟩ u1).setCell ⟨g, 2, none⟩ u2).setCell ⟨g, 3, none⟩ u3).setCell ⟨g, 4, none⟩ u4) :=
  ((((h.setCell (p := ⟨g, 0, none⟩) hg _).setCell (p := ⟨g, 1, none⟩) hg _).setCell (p := ⟨g, 2, none⟩) hg _).setCell (p := ⟨g, 3, none⟩) hg _).setCell (p := ⟨g, 4, none⟩) hg _
theorem blk_set5 {w : World} {g : Nat} {T : TypeId} {a b c d e : Value} (h : Blk w g T #[a, b, c, d, e]) (u0 u1 u2 u3 u4 : Value) : Blk (((((w.setCell ⟨g, 0, none⟩ u0).setCell ⟨g, 1, none⟩ u1).setCell ⟨g, 2, none⟩ u2).setCell ⟨g, 3, none⟩ u3).setCell ⟨g, 4, none⟩ u4) g T #[u0, u1, u2, u3, u4] :=
  ((((h.set_ 0 u0).set_ 1 u1).set_ 2 u2).set_ 3 u3).set_ 4 u4
theorem blk5 {w : World} {g : Nat} {T : TypeId} {a b c d e : Value} (h : Blk w g T #[a, b, c, d, e]) : (w.cell? ⟨g, 0, none⟩ = some a ∧ w.cell? ⟨g, 1, none⟩ = some b ∧ w.cell? ⟨g, 2, none⟩ = some c ∧ w.cell? ⟨g, 3, none⟩ = some d ∧ w.cell? ⟨g, 4, none⟩ = some e) ∧ (w.frozen? ⟨g, 0, none⟩ = false ∧ w.frozen? ⟨g, 1, none⟩ = false ∧ w.frozen? ⟨g, 2, none⟩ = false ∧ w.frozen? ⟨g, 3, none⟩ = false ∧ w.frozen? ⟨g, 4, none⟩ = false) :=
  ⟨⟨h.cell 0, h.cell 1, h.cell 2, h.cell 3, h.cell 4⟩, h.frozen 0, h.frozen 1, h.frozen 2, h.frozen 3, h.frozen 4⟩

set_option maxHeartbeats 8000000 in
set_option maxRecDepth 100000 in
theorem unpack_any (s : ByteArray) (w : World) (hk : Consts w) :
    Calls Tryz.prog 45 #[.string s] w (RetB (.agg (partRow (unpackB s.data.toList))) w) := by
  obtain ⟨hz, hsz⟩ := zero_of_info infoJpart
  by_cases h64 : s.size = 64
  · have HK := Lib.hid hk
    have HI := Lib.hid hsz
    obtain ⟨hzs, hss⟩ := zero_of_info infoSect
    obtain ⟨hzh, hsh⟩ := zero_of_info info32b
    have l64 : s.data.toList.length = 64 := by rw [list_size, h64]
    obtain ⟨ZS, hZS⟩ : ∃ ZS, ZS = rowB 64 [] := ⟨_, rfl⟩
    rw [← hZS] at hzs
    obtain ⟨RS, hRS⟩ : ∃ RS, RS = rowB 64 s.data.toList := ⟨_, rfl⟩
    obtain ⟨ZH, hZH⟩ : ∃ ZH, ZH = rowB 32 [] := ⟨_, rfl⟩
    rw [← hZH] at hzh
    obtain ⟨RH, hRH⟩ : ∃ RH, RH = rowB 32 (sha56 (s.data.toList.take 56)) := ⟨_, rfl⟩
    have sRS : RS.size = 64 := by rw [hRS]; exact rowB_size (by rw [l64]; exact Nat.le_refl _)
    have sRH : RH.size = 32 := by rw [hRH]; exact rowB_size (by rw [sha_len]; exact Nat.le_refl _)
    have HI1 := Lib.hid (show (Tryz.prog.info? 83).map (·.size) = some RS.size by rw [sRS]; exact hss)
    have HI2 := Lib.hid (show (Tryz.prog.info? 125).map (·.size) = some RH.size by rw [sRH]; exact hsh)
    have HZ1 := Lib.hid (show ZS.size = RS.size by rw [sRS, hZS]; rfl)
    have HZ2 := Lib.hid (show ZH.size = RH.size by rw [sRH, hZH]; rfl)
    have HO1 := Lib.hid (show RS.all (·.oneCell') = true by rw [hRS]; exact rowB_one _ _)
    have HO2 := Lib.hid (show RH.all (·.oneCell') = true by rw [hRH]; exact rowB_one _ _)
    obtain ⟨w0, hw0⟩ : ∃ w0, w0 = w.alloc (.cells #[.int .i64 0, .int .i64 0, .int .i64 0, .string ⟨#[]⟩, .bool false] 80) := ⟨_, rfl⟩
    obtain ⟨W1, C, hcv, hC, hb1, hlt1, hrd1⟩ := to_bytes s w0
    rw [h64] at hcv hrd1 hC
    have P0 : Blk w0 w.heap.size 80 #[.int .i64 0, .int .i64 0, .int .i64 0, .string ⟨#[]⟩, .bool false] := by rw [hw0]; exact Blk.new w _ _
    have hbw0 : Below w.heap.size w w0 := by rw [hw0]; exact below_new w _
    have hra : W1.rangeAt w0.heap.size 0 (byteCells s.data.toList) := by
      obtain ⟨b, off, e, _, hc⟩ := hrd1.2 (by omega)
      injection e with e
      injection e with e1 e2
      subst e1 e2
      exact hc
    have HRA := Lib.hid hra
    have HI1' := Lib.hid (show (Tryz.prog.info? 83).map (·.size) = some (byteCells s.data.toList).length by rw [byteCells_len, l64]; exact hss)
    have har := fun (W : World) => run_arrayAt (P := Tryz.prog) (w := W) 83 5 64 (some ⟨w0.heap.size, 0, none⟩) 64 C Tryz.underlying83 (Nat.le_refl _)
    have HRS := Lib.hid (show (byteCells s.data.toList).toArray = RS by rw [hRS, rowB, l64]; simp)
    obtain ⟨q, hq⟩ : ∃ q, q = W1.heap.size := ⟨_, rfl⟩
    have Bq := Blk.new W1 83 ZS
    rw [← hq] at Bq
    have HM := Lib.hid (show (W1.alloc (.cells ZS 83)).heap[q]? = some (.cells ZS 83 (0, 0)) from Bq)
    obtain ⟨W2, hW2⟩ : ∃ W2, W2 = (W1.alloc (.cells ZS 83)).setRow q RS := ⟨_, rfl⟩
    have S2 : Blk W2 q 83 (rowB 64 s.data.toList) := by rw [hW2, ← hRS]; exact Bq.put RS
    have hb2 : Below w0.heap.size w0 W2 := by rw [hW2]; exact below_row (hb1.alloc hb1.size _) (by rw [hq]; exact hb1.size) RS
    have hrd2 : Rd W2 W2.heap.size 1 (some ⟨q, 0, none⟩) 56 (byteCells (s.data.toList.take 56)) := by
      have := rd_sect S2 l64 (off := 0) (n := 56) (by omega)
      rwa [List.drop_zero] at this
    have HQ := Lib.hid hq
    have HW2 := Lib.hid hW2
    have HS2 := Lib.hid S2
    have HP0 := Lib.hid P0
    have HB2 := Lib.hid hb2
    have HBW0 := Lib.hid hbw0
    have HRD2 := Lib.hid hrd2
    have HW0 := Lib.hid hw0
    have HRH := Lib.hid hRH
    clear hk hsz hss hsh hZS hRS hZH hRH sRS sRH P0 hbw0 hra hrd1 hb1 hC hlt1 Bq hW2 S2 hb2 hrd2 hq hw0
    go_enter Tryz.func45, Tryz.ntmps45
    go_wp2_with (first
      | (rw [← HW0.out])
      | (refine wpList_load_mid rfl 83 _ rfl w0.heap.size 0 rfl (byteCells s.data.toList) _ HRA.out Tryz.underlying83 rfl HI1'.out ?_; rw [HRS.out])
      | (rw [← HQ.out]; refine wpList_store_row rfl 83 _ _ rfl q RS rfl rfl 83 ZS HM.out HI1.out HZ1.out HO1.out ?_; rw [← HW2.out]))
    refine (hash_any _ _ (s.data.toList.take 56) W2 HRD2.out (HK.out.below (below_go HBW0.out HB2.out))).mono ?_
    rintro e W3 ⟨rfl, hb3⟩
    rw [← HRH.out]
    obtain ⟨r, hr⟩ : ∃ r, r = W3.heap.size := ⟨_, rfl⟩
    have Br := Blk.new W3 125 ZH
    rw [← hr] at Br
    have HM3 := Lib.hid (show (W3.alloc (.cells ZH 125)).heap[r]? = some (.cells ZH 125 (0, 0)) from Br)
    obtain ⟨W4, hW4⟩ : ∃ W4, W4 = (W3.alloc (.cells ZH 125)).setRow r RH := ⟨_, rfl⟩
    have HS4 := Lib.hid (show Blk W4 r 125 (rowB 32 (sha56 (s.data.toList.take 56))) by rw [hW4, ← HRH.out]; exact Br.put RH)
    have hb4 : Below W2.heap.size W2 W4 := by rw [hW4]; exact below_row (hb3.alloc hb3.size _) (by rw [hr]; exact hb3.size) RH
    have HSS := Lib.hid (HS2.out.below hb4 HS2.out.lt)
    have HPP := Lib.hid ((HP0.out.below HB2.out HP0.out.lt).below hb4 (Nat.lt_of_lt_of_le HP0.out.lt HB2.out.size))
    have HB4 := Lib.hid (below_go (below_go HBW0.out HB2.out) hb4)
    have HR := Lib.hid hr
    have HW4 := Lib.hid hW4
    have L64 := Lib.hid l64
    clear hb3 hr Br hW4 hb4 l64 hcv har HRA HI1' HRS HM HW2 HRD2 HQ
    go_wp2_with (first
      | (rw [← HR.out]; refine wpList_store_row rfl 125 _ _ rfl r RH rfl rfl 125 ZH HM3.out HI2.out HZ2.out HO2.out ?_; rw [← HW4.out]))
    rename_i K hK
    dsimp only [Act.put]
    obtain ⟨n, hn⟩ : ∃ n, n = numB (s.data.toList.take 4) := ⟨_, rfl⟩
    obtain ⟨p, hp⟩ : ∃ n, n = numB ((s.data.toList.drop 4).take 2) := ⟨_, rfl⟩
    obtain ⟨l, hl⟩ : ∃ n, n = numB ((s.data.toList.drop 6).take 2) := ⟨_, rfl⟩
    have HPL : Hid ((p : Int) < 65536 ∧ (l : Int) < 65536) := Lib.hid (by
      have g1 := num_lt ((s.data.toList.drop 4).take 2)
      have g2 := num_lt ((s.data.toList.drop 6).take 2)
      rw [← hp] at g1
      rw [← hl] at g2
      have d1 : ((s.data.toList.drop 4).take 2).length = 2 := by rw [List.length_take, List.length_drop, list_size, h64]; rfl
      have d2 : ((s.data.toList.drop 6).take 2).length = 2 := by rw [List.length_take, List.length_drop, list_size, h64]; rfl
      rw [d1] at g1
      rw [d2] at g2
      omega)
    have CG : Hid (∀ W off m c, Below W4.heap.size W4 W → off + m ≤ 64 → m ≤ 4 → Calls Tryz.prog 76 #[.slice (some ⟨q, off, none⟩) m c] W (RetB (.int .i64 (numB ((s.data.toList.drop off).take m) : Int)) W)) := Lib.hid (fun W off m c hb h1 h2 =>
      get_any _ c _ W m (by rw [List.length_take, List.length_drop, L64.out]; omega) h2 (rd_sect (blk_carry HSS.out hb) L64.out h1))
    have HNPL := Lib.hid (And.intro hn (And.intro hp hl))
    have hna : numB (List.take 4 s.data.toList) = n := hn.symm
    have hnb : numB (List.take 2 (List.drop 4 s.data.toList)) = p := hp.symm
    have hnc : numB (List.take 2 (List.drop 6 s.data.toList)) = l := hl.symm
    clear hn hp hl
    have key : ∀ W gp, Below W4.heap.size W4 W → W4.heap.size ≤ gp → Blk W gp 80 #[.int .i64 (n : Int), .int .i64 (p : Int), .int .i64 (l : Int), .string ⟨#[]⟩, .bool true] →
        K { tmps := #[.string s, undef, .pointer (some ⟨w.heap.size, 0, none⟩), .pointer (some ⟨q, 0, none⟩), .pointer (some ⟨r, 0, none⟩), .pointer (some ⟨gp, 0, none⟩), undef, undef, .string s, .int .i64 64, .bool false, undef, .string s, .slice (some ⟨w0.heap.size, 0, none⟩) 64 C, .pointer (some ⟨w0.heap.size, 0, none⟩), .agg RS, .slice (some ⟨q, 0, none⟩) 56 64, .agg RH, .slice (some ⟨q, 0, none⟩) 4 64, .int .i64 (n : Int), .slice (some ⟨q, 4, none⟩) 2 60, .int .i64 (p : Int), .slice (some ⟨q, 6, none⟩) 2 58, .int .i64 (l : Int), .agg #[.int .i64 (n : Int), .int .i64 (p : Int), .int .i64 (l : Int), .string ⟨#[]⟩, .bool true], undef, undef, undef, undef, undef, undef, undef, undef, undef, undef, undef, undef, undef, undef, undef, undef, undef, undef, undef, undef, undef, undef, undef, undef, undef, undef, undef, undef, undef, undef, undef, undef, undef, undef, undef, undef, undef, undef, undef, undef, undef, undef, undef, undef, undef, undef, undef, undef, undef, undef, undef, undef, undef, undef], defers := [] } W := by
      intro W gp hbW hgp B5
      refine hK _ _ ?_
      clear hK hna hnb hnc CG
      obtain ⟨m, hm⟩ : ∃ m, m = min l 48 := ⟨_, rfl⟩
      have hm48 : m ≤ 48 := by omega
      have hmin : min (l : Int) 48 = (m : Int) := by omega
      have e2 := B5.cell 2
      simp only [List.getElem?_toArray, List.getElem?_cons_zero, List.getElem?_cons_succ] at e2
      obtain ⟨i0, hi, hz0, hz1, hz2⟩ := info_parts info5b
      have hmk := run_make_rowN (P := Tryz.prog) 84 5 i0 _ Tryz.underlying84 hi hz0 .i64 .i64 (48 - m) (48 - m) (Nat.le_refl _) (by rw [hz2]; omega) (by omega) W
      rw [show (Value.int .u8 0).cells = #[.int .u8 0] from rfl, hz1, Nat.mul_one, show (((48 - m : Nat) : Int)) = 48 - (m : Int) by omega] at hmk
      have m0 : (0 : Int) ≤ (m : Int) := by omega
      have m1 : (m : Int) ≤ 48 := by omega
      have HMM := Lib.hid hm
      clear hm hi hz0 hz1 hz2
      iterate 36 (first | go_values | go_skip | go_guarded | go_step | go_upon | go_back)
      obtain ⟨gz, hgz⟩ : ∃ gz, gz = W.heap.size := ⟨_, rfl⟩
      have BZ := Blk.new W 5 (madeCells #[.int .u8 0] (48 - m))
      rw [← hgz] at BZ ⊢
      obtain ⟨W6, hW6⟩ : ∃ W6, W.alloc (.cells (madeCells #[.int .u8 0] (48 - m)) 5) = W6 := ⟨_, rfl⟩
      have b6 : Below W.heap.size W W6 := by rw [← hW6]; exact below_new W _
      rw [hW6] at BZ ⊢
      clear hW6 hmk
      have hbw6 : Below W4.heap.size W4 W6 := below_go hbW b6
      have QP := blk_carry HPP.out hbw6
      have QG : Blk W6 gp 80 #[.int .i64 (n : Int), .int .i64 (p : Int), .int .i64 (l : Int), .string ⟨#[]⟩, .bool true] := blk_carry B5 b6
      have QS := blk_carry HSS.out hbw6
      have QH := blk_carry HS4.out hbw6
      have hbw : Below w.heap.size w W6 := below_go HB4.out hbw6
      have h5 : w.heap.size < W4.heap.size := HPP.out.lt
      have h6 : W4.heap.size ≤ gp := hgp
      have hne : gp ≠ w.heap.size := by omega
      obtain ⟨x1, hx1⟩ : ∃ x1 : ByteArray, x1 = ⟨((sha56 (s.data.toList.take 56)).take 8).toArray⟩ := ⟨_, rfl⟩
      obtain ⟨x2, hx2⟩ : ∃ x2 : ByteArray, x2 = ⟨(s.data.toList.drop 56).toArray⟩ := ⟨_, rfl⟩
      obtain ⟨x3, hx3⟩ : ∃ x3 : ByteArray, x3 = ⟨((s.data.toList.drop (8 + m)).take (48 - m)).toArray⟩ := ⟨_, rfl⟩
      obtain ⟨x4, hx4⟩ : ∃ x4 : ByteArray, x4 = ⟨(List.replicate (48 - m) (0 : UInt8)).toArray⟩ := ⟨_, rfl⟩
      have cv1 : ∀ k, (convert 84 9 (.slice (some ⟨r, 0, none⟩) 8 32)).run Tryz.prog (W6.drewN k) = .ok (.string x1) (W6.drewN k) := fun k => by
        rw [hx1]; exact conv_rd (rd_front QH k (sha_len _)) (by omega) 32
      have cv2 : ∀ k, (convert 84 9 (.slice (some ⟨q, 56, none⟩) 8 8)).run Tryz.prog (W6.drewN k) = .ok (.string x2) (W6.drewN k) := fun k => by
        rw [hx2]
        have := rd_sect (QS.drewN k) L64.out (off := 56) (n := 8) (by omega)
        rw [List.take_of_length_le (by rw [List.length_drop, L64.out]; omega)] at this
        exact conv_rd this (by omega) 8
      have cv3 : ∀ k, (convert 84 9 (.slice (some ⟨q, 8 + m, none⟩) (48 - m) (56 - m))).run Tryz.prog (W6.drewN k) = .ok (.string x3) (W6.drewN k) := fun k => by
        rw [hx3]; exact conv_some (rd_sect (QS.drewN k) L64.out (by omega)) _
      have cv4 : ∀ k, (convert 84 9 (.slice (some ⟨gz, 0, none⟩) (48 - m) (48 - m))).run Tryz.prog (W6.drewN k) = .ok (.string x4) (W6.drewN k) := fun k => by
        rw [hx4]; exact conv_some (rd_zeros (BZ.drewN k)) _
      have HNPLM := Lib.hid (show (x1.toList = x2.toList → checkedB (s.data.toList.take 56) = s.data.toList) ∧ (checkedB (s.data.toList.take 56) = s.data.toList → x1.toList = x2.toList) by
        rw [Lib.toList_data, Lib.toList_data, hx1, hx2]; exact sum_same L64.out)
      have HZER := Lib.hid (show (x3.toList = x4.toList → ∀ i, 8 + m ≤ i → i < 56 → s.data.toList[i]? = some 0) ∧ ((∀ i, 8 + m ≤ i → i < 56 → s.data.toList[i]? = some 0) → x3.toList = x4.toList) by
        rw [Lib.toList_data, Lib.toList_data, hx3, hx4]; exact zer_same)
      have HQ1 := Lib.hid QP
      have HQ2 := Lib.hid QG
      have HBW := Lib.hid hbw
      have HNE := Lib.hid hne
      have HGE := Lib.hid (show w.heap.size ≤ gp by omega)
      have p0 : (0 : Int) ≤ (p : Int) := by omega
      have l0 : (0 : Int) ≤ (l : Int) := by omega
      have p1 : (p : Int) < 65536 := HPL.out.1
      have l1 : (l : Int) < 65536 := HPL.out.2
      have wr1 : IntKind.i64.wrap (48 * (p : Int)) = 48 * (p : Int) := IntWalk.i64_in _ (by omega)
      have wr2 : IntKind.i64.wrap (48 * (p : Int) + (l : Int)) = 48 * (p : Int) + (l : Int) := IntWalk.i64_in _ (by omega)
      have wr3 : IntKind.i64.wrap (8 + (m : Int)) = 8 + (m : Int) := IntWalk.i64_in _ (by omega)
      have j0 : (0 : Int) ≤ 8 + (m : Int) := by omega
      have j1 : 8 + (m : Int) ≤ 56 := by omega
      have j2 : 8 + (m : Int) ≤ 64 := by omega
      have j3 : ¬ (64 : Int) = 8 + (m : Int) := by omega
      have j4 : (8 + (m : Int)).toNat = 8 + m := by omega
      have j5 : ¬ 64 = 8 + m := by omega
      have j6 : 56 - (8 + m) = 48 - m := by omega
      have j7 : 64 - (8 + m) = 56 - m := by omega
      obtain ⟨⟨k0, k1, k2, k3, k4⟩, y0, y1, y2, y3, y4⟩ := blk5 QG
      obtain ⟨⟨z0, z1, z2, z3, z4⟩, f0, f1, f2, f3, f4⟩ := blk5 QP
      clear e2 hbW hgp h5 h6 B5 b6 hbw6 QP QG QS QH hbw hne hx1 hx2 hx3 hx4 BZ hgz
      have hdec : (¬ x1.toList = x2.toList) ∨ (x1.toList = x2.toList ∧ n = 0) ∨ (x1.toList = x2.toList ∧ ¬ n = 0 ∧ 4096 < n) ∨ (x1.toList = x2.toList ∧ ¬ n = 0 ∧ ¬ 4096 < n ∧ 8000 < 48 * p + l) ∨ (x1.toList = x2.toList ∧ ¬ n = 0 ∧ ¬ 4096 < n ∧ ¬ 8000 < 48 * p + l ∧ l = 0 ∧ 0 < p) ∨ (x1.toList = x2.toList ∧ ¬ n = 0 ∧ ¬ 4096 < n ∧ ¬ 8000 < 48 * p + l ∧ ¬ l = 0 ∧ ¬ x3.toList = x4.toList) ∨ (x1.toList = x2.toList ∧ ¬ n = 0 ∧ ¬ 4096 < n ∧ ¬ 8000 < 48 * p + l ∧ l = 0 ∧ ¬ 0 < p ∧ ¬ x3.toList = x4.toList) ∨ (x1.toList = x2.toList ∧ ¬ n = 0 ∧ ¬ 4096 < n ∧ ¬ 8000 < 48 * p + l ∧ ¬ l = 0 ∧ x3.toList = x4.toList) ∨ (x1.toList = x2.toList ∧ ¬ n = 0 ∧ ¬ 4096 < n ∧ ¬ 8000 < 48 * p + l ∧ l = 0 ∧ ¬ 0 < p ∧ x3.toList = x4.toList) := by
        by_cases t1 : x1.toList = x2.toList <;> by_cases t7 : x3.toList = x4.toList <;> (simp [t1, t7]; try omega)
      rcases hdec with hb1 | ⟨hb1, hd1⟩ | ⟨hb1, hd1, hd2⟩ | ⟨hb1, hd1, hd2, hd3⟩ | ⟨hb1, hd1, hd2, hd3, hd4, hd5⟩ | ⟨hb1, hd1, hd2, hd3, hd4, hb2⟩ | ⟨hb1, hd1, hd2, hd3, hd4, hd5, hb2⟩ | ⟨hb1, hd1, hd2, hd3, hd4, hb2⟩ | ⟨hb1, hd1, hd2, hd3, hd4, hd5, hb2⟩
      · have Hb1 := Lib.hid (fun k => beq_any (.slice (some ⟨r, 0, none⟩) 8 32) (.slice (some ⟨q, 56, none⟩) 8 8) x1 x2 false (beq_eq_false_iff_ne.2 hb1) (W6.drewN k) (cv1 k) (cv2 k))
        have HU := Lib.hid (show partRow (unpackB s.data.toList) = #[.int .i64 0, .int .i64 0, .int .i64 0, .string ⟨#[]⟩, .bool false] by rw [unpack_bad HNPL.out.1 HNPL.out.2.1 HNPL.out.2.2 (.inl (fun e => hb1 (HNPLM.out.2 e)))]; rfl)
        clear hb1 cv1 cv2 cv3 cv4
        refine wp_region_quiet_lit (by kernel_rfl) (by kernel_rfl) ?_
        repeat (go_big_quiet_step ((go_at_call 77; (first | (with_reducible exact Calls.quiet_of_same (Hb1.out _))))))
        refine wpQuiet_nil ?_
        intro _ hw'
        obtain ⟨nq, hw''⟩ := hw'
        subst hw''
        have R1 := Lib.hid (HQ1.out.drewN nq)
        have RB := Lib.hid (below_drewN' HBW.out nq)
        have R2 := Lib.hid (HQ2.out.drewN nq)
        clear j0 j1 j2 j3 j4 j5 j6 j7 wr1 wr2 wr3 k0 k1 k2 k3 k4 y0 y1 y2 y3 y4 z0 z1 z2 z3 z4 f0 f1 f2 f3 f4
        generalize W6.drewN nq = W7 at *
        obtain ⟨⟨k0, k1, k2, k3, k4⟩, y0, y1, y2, y3, y4⟩ := blk5 R2.out
        obtain ⟨⟨z0, z1, z2, z3, z4⟩, f0, f1, f2, f3, f4⟩ := blk5 R1.out
        have hn1 : ¬ gp = w.heap.size := HNE.out
        have hn2 : ¬ w.heap.size = gp := fun e => hn1 e.symm
        go_wp2_with fail
        refine bodyPost_ret (v := .agg #[.int .i64 0, .int .i64 0, .int .i64 0, .string ⟨#[]⟩, .bool false]) ?_ rfl ⟨by rw [HU.out], below_set5 RB.out (Nat.le_refl _) _ _ _ _ _⟩
        exact results_cell_row rfl _ _ w.heap.size _ _ _ _ rfl (blk_set5 R1.out (.int .i64 0) (.int .i64 0) (.int .i64 0) (.string ⟨#[]⟩) (.bool false)) Tryz.underlying80 rfl HI.out
      · have Hb1 := Lib.hid (fun k => beq_any (.slice (some ⟨r, 0, none⟩) 8 32) (.slice (some ⟨q, 56, none⟩) 8 8) x1 x2 true (by rw [hb1]; exact beq_self_eq_true _) (W6.drewN k) (cv1 k) (cv2 k))
        have d1 : ((n : Int) == 0) = true := beq_iff_eq.2 (by omega)
        have HU := Lib.hid (show partRow (unpackB s.data.toList) = #[.int .i64 0, .int .i64 0, .int .i64 0, .string ⟨#[]⟩, .bool false] by rw [unpack_bad HNPL.out.1 HNPL.out.2.1 HNPL.out.2.2 (.inr (.inl (by omega)))]; rfl)
        clear hb1 hd1 cv1 cv2 cv3 cv4
        refine wp_region_quiet_lit (by kernel_rfl) (by kernel_rfl) ?_
        repeat (go_big_quiet_step ((go_at_call 77; (first | (with_reducible exact Calls.quiet_of_same (Hb1.out _))))))
        refine wpQuiet_nil ?_
        intro _ hw'
        obtain ⟨nq, hw''⟩ := hw'
        subst hw''
        have R1 := Lib.hid (HQ1.out.drewN nq)
        have RB := Lib.hid (below_drewN' HBW.out nq)
        have R2 := Lib.hid (HQ2.out.drewN nq)
        clear j0 j1 j2 j3 j4 j5 j6 j7 wr1 wr2 wr3 k0 k1 k2 k3 k4 y0 y1 y2 y3 y4 z0 z1 z2 z3 z4 f0 f1 f2 f3 f4
        generalize W6.drewN nq = W7 at *
        obtain ⟨⟨k0, k1, k2, k3, k4⟩, y0, y1, y2, y3, y4⟩ := blk5 R2.out
        obtain ⟨⟨z0, z1, z2, z3, z4⟩, f0, f1, f2, f3, f4⟩ := blk5 R1.out
        have hn1 : ¬ gp = w.heap.size := HNE.out
        have hn2 : ¬ w.heap.size = gp := fun e => hn1 e.symm
        go_wp2_with fail
        refine bodyPost_ret (v := .agg #[.int .i64 0, .int .i64 0, .int .i64 0, .string ⟨#[]⟩, .bool false]) ?_ rfl ⟨by rw [HU.out], below_set5 RB.out (Nat.le_refl _) _ _ _ _ _⟩
        exact results_cell_row rfl _ _ w.heap.size _ _ _ _ rfl (blk_set5 R1.out (.int .i64 0) (.int .i64 0) (.int .i64 0) (.string ⟨#[]⟩) (.bool false)) Tryz.underlying80 rfl HI.out
      · have Hb1 := Lib.hid (fun k => beq_any (.slice (some ⟨r, 0, none⟩) 8 32) (.slice (some ⟨q, 56, none⟩) 8 8) x1 x2 true (by rw [hb1]; exact beq_self_eq_true _) (W6.drewN k) (cv1 k) (cv2 k))
        have d1 : ((n : Int) == 0) = false := beq_eq_false_iff_ne.2 (by omega)
        have d2 : decide ((4096 : Int) < (n : Int)) = true := decide_eq_true (by omega)
        have HU := Lib.hid (show partRow (unpackB s.data.toList) = #[.int .i64 0, .int .i64 0, .int .i64 0, .string ⟨#[]⟩, .bool false] by rw [unpack_bad HNPL.out.1 HNPL.out.2.1 HNPL.out.2.2 (.inr (.inr (.inl (by omega))))]; rfl)
        clear hb1 hd1 hd2 cv1 cv2 cv3 cv4
        refine wp_region_quiet_lit (by kernel_rfl) (by kernel_rfl) ?_
        repeat (go_big_quiet_step ((go_at_call 77; (first | (with_reducible exact Calls.quiet_of_same (Hb1.out _))))))
        refine wpQuiet_nil ?_
        intro _ hw'
        obtain ⟨nq, hw''⟩ := hw'
        subst hw''
        have R1 := Lib.hid (HQ1.out.drewN nq)
        have RB := Lib.hid (below_drewN' HBW.out nq)
        have R2 := Lib.hid (HQ2.out.drewN nq)
        clear j0 j1 j2 j3 j4 j5 j6 j7 wr1 wr2 wr3 k0 k1 k2 k3 k4 y0 y1 y2 y3 y4 z0 z1 z2 z3 z4 f0 f1 f2 f3 f4
        generalize W6.drewN nq = W7 at *
        obtain ⟨⟨k0, k1, k2, k3, k4⟩, y0, y1, y2, y3, y4⟩ := blk5 R2.out
        obtain ⟨⟨z0, z1, z2, z3, z4⟩, f0, f1, f2, f3, f4⟩ := blk5 R1.out
        have hn1 : ¬ gp = w.heap.size := HNE.out
        have hn2 : ¬ w.heap.size = gp := fun e => hn1 e.symm
        go_wp2_with fail
        refine bodyPost_ret (v := .agg #[.int .i64 0, .int .i64 0, .int .i64 0, .string ⟨#[]⟩, .bool false]) ?_ rfl ⟨by rw [HU.out], below_set5 RB.out (Nat.le_refl _) _ _ _ _ _⟩
        exact results_cell_row rfl _ _ w.heap.size _ _ _ _ rfl (blk_set5 R1.out (.int .i64 0) (.int .i64 0) (.int .i64 0) (.string ⟨#[]⟩) (.bool false)) Tryz.underlying80 rfl HI.out
      · have Hb1 := Lib.hid (fun k => beq_any (.slice (some ⟨r, 0, none⟩) 8 32) (.slice (some ⟨q, 56, none⟩) 8 8) x1 x2 true (by rw [hb1]; exact beq_self_eq_true _) (W6.drewN k) (cv1 k) (cv2 k))
        have d1 : ((n : Int) == 0) = false := beq_eq_false_iff_ne.2 (by omega)
        have d2 : decide ((4096 : Int) < (n : Int)) = false := decide_eq_false (by omega)
        have d3 : decide (8000 < 48 * (p : Int) + (l : Int)) = true := decide_eq_true (by omega)
        have HU := Lib.hid (show partRow (unpackB s.data.toList) = #[.int .i64 0, .int .i64 0, .int .i64 0, .string ⟨#[]⟩, .bool false] by rw [unpack_bad HNPL.out.1 HNPL.out.2.1 HNPL.out.2.2 (.inr (.inr (.inr (.inl (by omega)))))]; rfl)
        clear hb1 hd1 hd2 hd3 cv1 cv2 cv3 cv4
        refine wp_region_quiet_lit (by kernel_rfl) (by kernel_rfl) ?_
        repeat (go_big_quiet_step ((go_at_call 77; (first | (with_reducible exact Calls.quiet_of_same (Hb1.out _))))))
        refine wpQuiet_nil ?_
        intro _ hw'
        obtain ⟨nq, hw''⟩ := hw'
        subst hw''
        have R1 := Lib.hid (HQ1.out.drewN nq)
        have RB := Lib.hid (below_drewN' HBW.out nq)
        have R2 := Lib.hid (HQ2.out.drewN nq)
        clear j0 j1 j2 j3 j4 j5 j6 j7 wr1 wr2 wr3 k0 k1 k2 k3 k4 y0 y1 y2 y3 y4 z0 z1 z2 z3 z4 f0 f1 f2 f3 f4
        generalize W6.drewN nq = W7 at *
        obtain ⟨⟨k0, k1, k2, k3, k4⟩, y0, y1, y2, y3, y4⟩ := blk5 R2.out
        obtain ⟨⟨z0, z1, z2, z3, z4⟩, f0, f1, f2, f3, f4⟩ := blk5 R1.out
        have hn1 : ¬ gp = w.heap.size := HNE.out
        have hn2 : ¬ w.heap.size = gp := fun e => hn1 e.symm
        go_wp2_with fail
        refine bodyPost_ret (v := .agg #[.int .i64 0, .int .i64 0, .int .i64 0, .string ⟨#[]⟩, .bool false]) ?_ rfl ⟨by rw [HU.out], below_set5 RB.out (Nat.le_refl _) _ _ _ _ _⟩
        exact results_cell_row rfl _ _ w.heap.size _ _ _ _ rfl (blk_set5 R1.out (.int .i64 0) (.int .i64 0) (.int .i64 0) (.string ⟨#[]⟩) (.bool false)) Tryz.underlying80 rfl HI.out
      · obtain rfl : l = 0 := hd4
        simp only [Int.natCast_zero] at k2
        have Hb1 := Lib.hid (fun k => beq_any (.slice (some ⟨r, 0, none⟩) 8 32) (.slice (some ⟨q, 56, none⟩) 8 8) x1 x2 true (by rw [hb1]; exact beq_self_eq_true _) (W6.drewN k) (cv1 k) (cv2 k))
        have d1 : ((n : Int) == 0) = false := beq_eq_false_iff_ne.2 (by omega)
        have d2 : decide ((4096 : Int) < (n : Int)) = false := decide_eq_false (by omega)
        have d3 : decide (8000 < 48 * (p : Int)) = false := decide_eq_false (by omega)
        have d5 : 0 < p := hd5
        have HU := Lib.hid (show partRow (unpackB s.data.toList) = #[.int .i64 0, .int .i64 0, .int .i64 0, .string ⟨#[]⟩, .bool false] by rw [unpack_bad HNPL.out.1 HNPL.out.2.1 HNPL.out.2.2 (.inr (.inr (.inr (.inr (by omega)))))]; rfl)
        clear hb1 hd1 hd2 hd3 hd5 cv1 cv2 cv3 cv4
        refine wp_region_quiet_lit (by kernel_rfl) (by kernel_rfl) ?_
        repeat (go_big_quiet_step ((go_at_call 77; (first | (with_reducible exact Calls.quiet_of_same (Hb1.out _))))))
        refine wpQuiet_nil ?_
        intro _ hw'
        obtain ⟨nq, hw''⟩ := hw'
        subst hw''
        have R1 := Lib.hid (HQ1.out.drewN nq)
        have RB := Lib.hid (below_drewN' HBW.out nq)
        have R2 := Lib.hid (HQ2.out.drewN nq)
        clear j0 j1 j2 j3 j4 j5 j6 j7 wr1 wr2 wr3 k0 k1 k2 k3 k4 y0 y1 y2 y3 y4 z0 z1 z2 z3 z4 f0 f1 f2 f3 f4
        generalize W6.drewN nq = W7 at *
        obtain ⟨⟨k0, k1, k2, k3, k4⟩, y0, y1, y2, y3, y4⟩ := blk5 R2.out
        obtain ⟨⟨z0, z1, z2, z3, z4⟩, f0, f1, f2, f3, f4⟩ := blk5 R1.out
        have hn1 : ¬ gp = w.heap.size := HNE.out
        have hn2 : ¬ w.heap.size = gp := fun e => hn1 e.symm
        go_wp2_with fail
        refine bodyPost_ret (v := .agg #[.int .i64 0, .int .i64 0, .int .i64 0, .string ⟨#[]⟩, .bool false]) ?_ rfl ⟨by rw [HU.out], below_set5 RB.out (Nat.le_refl _) _ _ _ _ _⟩
        exact results_cell_row rfl _ _ w.heap.size _ _ _ _ rfl (blk_set5 R1.out (.int .i64 0) (.int .i64 0) (.int .i64 0) (.string ⟨#[]⟩) (.bool false)) Tryz.underlying80 rfl HI.out
      · have Hb1 := Lib.hid (fun k => beq_any (.slice (some ⟨r, 0, none⟩) 8 32) (.slice (some ⟨q, 56, none⟩) 8 8) x1 x2 true (by rw [hb1]; exact beq_self_eq_true _) (W6.drewN k) (cv1 k) (cv2 k))
        have d1 : ((n : Int) == 0) = false := beq_eq_false_iff_ne.2 (by omega)
        have d2 : decide ((4096 : Int) < (n : Int)) = false := decide_eq_false (by omega)
        have d3 : decide (8000 < 48 * (p : Int) + (l : Int)) = false := decide_eq_false (by omega)
        have d4 : ((l : Int) == 0) = false := beq_eq_false_iff_ne.2 (by omega)
        have Hb2 := Lib.hid (fun k => beq_any (.slice (some ⟨q, 8 + m, none⟩) (48 - m) (56 - m)) (.slice (some ⟨gz, 0, none⟩) (48 - m) (48 - m)) x3 x4 false (beq_eq_false_iff_ne.2 hb2) (W6.drewN k) (cv3 k) (cv4 k))
        have HU := Lib.hid (show partRow (unpackB s.data.toList) = #[.int .i64 0, .int .i64 0, .int .i64 0, .string ⟨#[]⟩, .bool false] by rw [unpack_notz HNPL.out.1 HNPL.out.2.1 HNPL.out.2.2 (m := m) HMM.out (fun hq => hb2 (HZER.out.2 hq))]; rfl)
        clear hb1 hd1 hd2 hd3 hd4 hb2 cv1 cv2 cv3 cv4
        refine wp_region_quiet_lit (by kernel_rfl) (by kernel_rfl) ?_
        repeat (go_big_quiet_step ((go_at_call 77; (first | (with_reducible exact Calls.quiet_of_same (Hb1.out _)) | (with_reducible exact Calls.quiet_of_same (Hb2.out _))))))
        refine wpQuiet_nil ?_
        intro _ hw'
        obtain ⟨nq, hw''⟩ := hw'
        subst hw''
        have R1 := Lib.hid (HQ1.out.drewN nq)
        have RB := Lib.hid (below_drewN' HBW.out nq)
        have R2 := Lib.hid (HQ2.out.drewN nq)
        clear j0 j1 j2 j3 j4 j5 j6 j7 wr1 wr2 wr3 k0 k1 k2 k3 k4 y0 y1 y2 y3 y4 z0 z1 z2 z3 z4 f0 f1 f2 f3 f4
        generalize W6.drewN nq = W7 at *
        obtain ⟨⟨k0, k1, k2, k3, k4⟩, y0, y1, y2, y3, y4⟩ := blk5 R2.out
        obtain ⟨⟨z0, z1, z2, z3, z4⟩, f0, f1, f2, f3, f4⟩ := blk5 R1.out
        have hn1 : ¬ gp = w.heap.size := HNE.out
        have hn2 : ¬ w.heap.size = gp := fun e => hn1 e.symm
        go_wp2_with fail
        refine bodyPost_ret (v := .agg #[.int .i64 0, .int .i64 0, .int .i64 0, .string ⟨#[]⟩, .bool false]) ?_ rfl ⟨by rw [HU.out], below_set5 RB.out (Nat.le_refl _) _ _ _ _ _⟩
        exact results_cell_row rfl _ _ w.heap.size _ _ _ _ rfl (blk_set5 R1.out (.int .i64 0) (.int .i64 0) (.int .i64 0) (.string ⟨#[]⟩) (.bool false)) Tryz.underlying80 rfl HI.out
      · obtain rfl : l = 0 := hd4
        obtain rfl : p = 0 := by omega
        simp only [Int.natCast_zero] at k1 k2
        have Hb1 := Lib.hid (fun k => beq_any (.slice (some ⟨r, 0, none⟩) 8 32) (.slice (some ⟨q, 56, none⟩) 8 8) x1 x2 true (by rw [hb1]; exact beq_self_eq_true _) (W6.drewN k) (cv1 k) (cv2 k))
        have d1 : ((n : Int) == 0) = false := beq_eq_false_iff_ne.2 (by omega)
        have d2 : decide ((4096 : Int) < (n : Int)) = false := decide_eq_false (by omega)
        have Hb2 := Lib.hid (fun k => beq_any (.slice (some ⟨q, 8 + m, none⟩) (48 - m) (56 - m)) (.slice (some ⟨gz, 0, none⟩) (48 - m) (48 - m)) x3 x4 false (beq_eq_false_iff_ne.2 hb2) (W6.drewN k) (cv3 k) (cv4 k))
        have HU := Lib.hid (show partRow (unpackB s.data.toList) = #[.int .i64 0, .int .i64 0, .int .i64 0, .string ⟨#[]⟩, .bool false] by rw [unpack_notz HNPL.out.1 HNPL.out.2.1 HNPL.out.2.2 (m := m) HMM.out (fun hq => hb2 (HZER.out.2 hq))]; rfl)
        clear hb1 hd1 hd2 hd3 hd5 hb2 cv1 cv2 cv3 cv4
        refine wp_region_quiet_lit (by kernel_rfl) (by kernel_rfl) ?_
        repeat (go_big_quiet_step ((go_at_call 77; (first | (with_reducible exact Calls.quiet_of_same (Hb1.out _)) | (with_reducible exact Calls.quiet_of_same (Hb2.out _))))))
        refine wpQuiet_nil ?_
        intro _ hw'
        obtain ⟨nq, hw''⟩ := hw'
        subst hw''
        have R1 := Lib.hid (HQ1.out.drewN nq)
        have RB := Lib.hid (below_drewN' HBW.out nq)
        have R2 := Lib.hid (HQ2.out.drewN nq)
        clear j0 j1 j2 j3 j4 j5 j6 j7 wr1 wr2 wr3 k0 k1 k2 k3 k4 y0 y1 y2 y3 y4 z0 z1 z2 z3 z4 f0 f1 f2 f3 f4
        generalize W6.drewN nq = W7 at *
        obtain ⟨⟨k0, k1, k2, k3, k4⟩, y0, y1, y2, y3, y4⟩ := blk5 R2.out
        obtain ⟨⟨z0, z1, z2, z3, z4⟩, f0, f1, f2, f3, f4⟩ := blk5 R1.out
        have hn1 : ¬ gp = w.heap.size := HNE.out
        have hn2 : ¬ w.heap.size = gp := fun e => hn1 e.symm
        go_wp2_with fail
        refine bodyPost_ret (v := .agg #[.int .i64 0, .int .i64 0, .int .i64 0, .string ⟨#[]⟩, .bool false]) ?_ rfl ⟨by rw [HU.out], below_set5 RB.out (Nat.le_refl _) _ _ _ _ _⟩
        exact results_cell_row rfl _ _ w.heap.size _ _ _ _ rfl (blk_set5 R1.out (.int .i64 0) (.int .i64 0) (.int .i64 0) (.string ⟨#[]⟩) (.bool false)) Tryz.underlying80 rfl HI.out
      · have Hb1 := Lib.hid (fun k => beq_any (.slice (some ⟨r, 0, none⟩) 8 32) (.slice (some ⟨q, 56, none⟩) 8 8) x1 x2 true (by rw [hb1]; exact beq_self_eq_true _) (W6.drewN k) (cv1 k) (cv2 k))
        have d1 : ((n : Int) == 0) = false := beq_eq_false_iff_ne.2 (by omega)
        have d2 : decide ((4096 : Int) < (n : Int)) = false := decide_eq_false (by omega)
        have d3 : decide (8000 < 48 * (p : Int) + (l : Int)) = false := decide_eq_false (by omega)
        have d4 : ((l : Int) == 0) = false := beq_eq_false_iff_ne.2 (by omega)
        have Hb2 := Lib.hid (fun k => beq_any (.slice (some ⟨q, 8 + m, none⟩) (48 - m) (56 - m)) (.slice (some ⟨gz, 0, none⟩) (48 - m) (48 - m)) x3 x4 true (by rw [hb2]; exact beq_self_eq_true _) (W6.drewN k) (cv3 k) (cv4 k))
        have HG := Lib.hid (show unpackB s.data.toList = ⟨n, p, l, (s.data.toList.drop 8).take m, true⟩ by
          have := unpack_good HNPL.out.1 HNPL.out.2.1 HNPL.out.2.2 L64.out (HNPLM.out.1 hb1) (by omega) (by omega) (by omega) (by omega) (fun i hi hi2 => HZER.out.1 hb2 i (by rw [HMM.out]; exact hi) hi2)
          rwa [← HMM.out] at this)
        clear hb1 hd1 hd2 hd3 hd4 hb2 cv1 cv2 cv3 cv4
        refine wp_region_quiet_lit (by kernel_rfl) (by kernel_rfl) ?_
        repeat (go_big_quiet_step ((go_at_call 77; (first | (with_reducible exact Calls.quiet_of_same (Hb1.out _)) | (with_reducible exact Calls.quiet_of_same (Hb2.out _))))))
        refine wpQuiet_nil ?_
        intro _ hw'
        obtain ⟨nq, hw''⟩ := hw'
        subst hw''
        have R1 := Lib.hid (HQ1.out.drewN nq)
        have RB := Lib.hid (below_drewN' HBW.out nq)
        have R2 := Lib.hid (HQ2.out.drewN nq)
        clear j0 j1 j2 j3 j4 j5 j6 j7 wr1 wr2 wr3 k0 k1 k2 k3 k4 y0 y1 y2 y3 y4 z0 z1 z2 z3 z4 f0 f1 f2 f3 f4
        generalize W6.drewN nq = W7 at *
        obtain ⟨⟨k0, k1, k2, k3, k4⟩, y0, y1, y2, y3, y4⟩ := blk5 R2.out
        obtain ⟨⟨z0, z1, z2, z3, z4⟩, f0, f1, f2, f3, f4⟩ := blk5 R1.out
        have hn1 : ¬ gp = w.heap.size := HNE.out
        have hn2 : ¬ w.heap.size = gp := fun e => hn1 e.symm
        go_wp2_with fail
        refine bodyPost_ret (v := .agg #[.int .i64 (n : Int), .int .i64 (p : Int), .int .i64 (l : Int), .string (s.extract 8 (8 + m)), .bool true]) ?_ rfl ⟨?_, below_set5 (RB.out.setCell (p := ⟨gp, 3, none⟩) HGE.out _) (Nat.le_refl _) _ _ _ _ _⟩
        · exact results_cell_row rfl _ _ w.heap.size _ _ _ _ rfl (blk_set5 (show Blk (W7.setCell ⟨gp, 3, none⟩ (.string (s.extract 8 (8 + m)))) w.heap.size 80 _ from (Below.heap_setCell _ _ _ _ (fun e => HNE.out e.symm)).trans R1.out) (.int .i64 (n : Int)) (.int .i64 (p : Int)) (.int .i64 (l : Int)) (.string (s.extract 8 (8 + m))) (.bool true)) Tryz.underlying80 rfl HI.out
        · rw [HG.out, partRow, str_of (extract_list s 8 (8 + m)), Nat.add_sub_cancel_left]
      · obtain rfl : l = 0 := hd4
        obtain rfl : p = 0 := by omega
        simp only [Int.natCast_zero] at k1 k2
        have Hb1 := Lib.hid (fun k => beq_any (.slice (some ⟨r, 0, none⟩) 8 32) (.slice (some ⟨q, 56, none⟩) 8 8) x1 x2 true (by rw [hb1]; exact beq_self_eq_true _) (W6.drewN k) (cv1 k) (cv2 k))
        have d1 : ((n : Int) == 0) = false := beq_eq_false_iff_ne.2 (by omega)
        have d2 : decide ((4096 : Int) < (n : Int)) = false := decide_eq_false (by omega)
        have Hb2 := Lib.hid (fun k => beq_any (.slice (some ⟨q, 8 + m, none⟩) (48 - m) (56 - m)) (.slice (some ⟨gz, 0, none⟩) (48 - m) (48 - m)) x3 x4 true (by rw [hb2]; exact beq_self_eq_true _) (W6.drewN k) (cv3 k) (cv4 k))
        have HG := Lib.hid (show unpackB s.data.toList = ⟨n, 0, 0, (s.data.toList.drop 8).take m, true⟩ by
          have := unpack_good HNPL.out.1 HNPL.out.2.1 HNPL.out.2.2 L64.out (HNPLM.out.1 hb1) (by omega) (by omega) (by omega) (by omega) (fun i hi hi2 => HZER.out.1 hb2 i (by rw [HMM.out]; exact hi) hi2)
          rwa [← HMM.out] at this)
        clear hb1 hd1 hd2 hd3 hd5 hb2 cv1 cv2 cv3 cv4
        refine wp_region_quiet_lit (by kernel_rfl) (by kernel_rfl) ?_
        repeat (go_big_quiet_step ((go_at_call 77; (first | (with_reducible exact Calls.quiet_of_same (Hb1.out _)) | (with_reducible exact Calls.quiet_of_same (Hb2.out _))))))
        refine wpQuiet_nil ?_
        intro _ hw'
        obtain ⟨nq, hw''⟩ := hw'
        subst hw''
        have R1 := Lib.hid (HQ1.out.drewN nq)
        have RB := Lib.hid (below_drewN' HBW.out nq)
        have R2 := Lib.hid (HQ2.out.drewN nq)
        clear j0 j1 j2 j3 j4 j5 j6 j7 wr1 wr2 wr3 k0 k1 k2 k3 k4 y0 y1 y2 y3 y4 z0 z1 z2 z3 z4 f0 f1 f2 f3 f4
        generalize W6.drewN nq = W7 at *
        obtain ⟨⟨k0, k1, k2, k3, k4⟩, y0, y1, y2, y3, y4⟩ := blk5 R2.out
        obtain ⟨⟨z0, z1, z2, z3, z4⟩, f0, f1, f2, f3, f4⟩ := blk5 R1.out
        have hn1 : ¬ gp = w.heap.size := HNE.out
        have hn2 : ¬ w.heap.size = gp := fun e => hn1 e.symm
        go_wp2_with fail
        refine bodyPost_ret (v := .agg #[.int .i64 (n : Int), .int .i64 0, .int .i64 0, .string (s.extract 8 (8 + m)), .bool true]) ?_ rfl ⟨?_, below_set5 (RB.out.setCell (p := ⟨gp, 3, none⟩) HGE.out _) (Nat.le_refl _) _ _ _ _ _⟩
        · exact results_cell_row rfl _ _ w.heap.size _ _ _ _ rfl (blk_set5 (show Blk (W7.setCell ⟨gp, 3, none⟩ (.string (s.extract 8 (8 + m)))) w.heap.size 80 _ from (Below.heap_setCell _ _ _ _ (fun e => HNE.out e.symm)).trans R1.out) (.int .i64 (n : Int)) (.int .i64 0) (.int .i64 0) (.string (s.extract 8 (8 + m))) (.bool true)) Tryz.underlying80 rfl HI.out
        · rw [HG.out, partRow, str_of (extract_list s 8 (8 + m)), Nat.add_sub_cancel_left]; rfl
    clear hK HI HI1 HI2 HZ1 HZ2 HO1 HO2 HM3 HS4 HSS HPP HB4 HR HW4 L64 HPL HNPL HRH HK hz hzs hzh HP0 HBW0 HS2 HB2 HW0 h64
    have hS0 : Below W4.heap.size W4 W4 := Below.refl _ _
    have hS : Below W4.heap.size W4 W4.drew := below_drewN' (Below.refl _ _) 1
    have y2 := hS.size
    go_region_with (first
      | (go_at_call 76; (with_reducible refine (CG.out _ _ _ _ (by first | assumption | exact below_alloc' (by assumption) _ | exact below_drew1 (below_alloc' (by assumption) _)) (by omega) (by omega)).mono ?_); rintro e w6 ⟨rfl, b6⟩; first | (have AB := blk_alloc1 b6; obtain ⟨⟨_, _, _, _, _⟩, _, _, _, _, _⟩ := blk5 AB; have y1 := below_go (below_drewN' (below_alloc' (by assumption) _) 1) b6; have y2 := y1.size; clear b6) | (have AB := blk_alloc b6; obtain ⟨⟨_, _, _, _, _⟩, _, _, _, _, _⟩ := blk5 AB; have y1 := below_go (below_alloc' (by assumption) _) b6; have y2 := y1.size; clear b6) | (have AB := blk_carry ‹Blk _ _ 80 _› b6; obtain ⟨⟨_, _, _, _, _⟩, _, _, _, _, _⟩ := blk5 AB; have y1 := below_go (by assumption) b6; have y2 := y1.size; clear b6) | (have y1 := below_go ‹Below W4.heap.size W4 _› b6; have y2 := y1.size; clear b6)))
    all_goals
      refine key _ _ ?_ ?_ ?_
      · first
          | (with_reducible exact below_alloc' (by assumption) _)
          | (with_reducible exact below_set5 (by assumption) (by omega) _ _ _ _ _)
      · omega
      · first
          | (with_reducible exact Blk.new _ _ _)
          | (with_reducible exact blk_set5 (by assumption) _ _ _ _ _)
  · have HU := Lib.hid (show partRow (unpackB s.data.toList) = #[.int .i64 0, .int .i64 0, .int .i64 0, .string ⟨#[]⟩, .bool false] by rw [unpack_short (by rw [list_size]; exact h64)]; rfl)
    go_enter Tryz.func45, Tryz.ntmps45
    go_wp2_with fail
    refine bodyPost_ret (v := .agg #[.int .i64 0, .int .i64 0, .int .i64 0, .string ⟨#[]⟩, .bool false]) ?_ rfl ⟨by rw [HU.out], below_new w _⟩
    exact results_cell_row rfl _ _ w.heap.size _ _ _ _ rfl (Blk.new w 80 _) Tryz.underlying80 rfl hsz
end Go.Proofs.YtddpjahoeldleaaGreatDoor
