/- The reference's methods: Write, settle, Flush, Mount, Rot. -/
import Derived.Test.YtibhnjnfifpepaaRefOps
import Derived.StillTailTactics
namespace Go.Proofs.Ytibhnjnfifpepaa
open Go.RowKit Go.Maps

theorem mk_sz (b : Bs) : (⟨b.toArray⟩ : ByteArray).size = b.length := by simp [ByteArray.size]
theorem rstep_s (T : RSt) : (rStepS T).s = T.s := by
  unfold rStepS
  split
  · rfl
  · split
    · rfl
    · rfl
set_option maxRecDepth 100000 in
theorem rwrite_any (w : World) (r gs : Nat) (T : RSt) (h : RefAt w r gs T) (i : Int) (s : ByteArray) (_hs : s.size ≤ 9223372036854775807) :
    Calls Try.prog 38 #[.pointer (some ⟨r, 0, none⟩), .int .i64 i, .string s] w (RPost (.int .i64 (rWriteE T i s.data.toList)) r gs (rWriteS T i s.data.toList) w) := by
  have hls : s.data.toList.length = s.size := by simp
  have n2 := h.n2
  have H := Lib.hid h
  obtain ⟨c0, c1, c2⟩ := h.heads
  cases ho : T.off
  · rw [ho] at c1
    cases hi : rIs T i
    · have hE : rWriteE T i s.data.toList = 1 := by rw [rWriteE, ho, hi]; rfl
      have HS := Lib.hid (show T = rWriteS T i s.data.toList by rw [rWriteS, if_pos (by simp [hi])])
      rw [hE]
      have HI := Lib.hid hi
      clear h hi hE n2 hls ho
      go_enter Try.func38, Try.ntmps38
      go_wp2_with fail
      refine (is_any w r gs T H.out i false HI).mono ?_
      rintro e w' ⟨rfl, rfl⟩
      go_wp2_with fail
      go_ret
      exact RPost.ret HS.out H.out (Keep.refl _ _)
    · have HI := Lib.hid hi
      by_cases h64 : s.size = 64
      · have l64 : s.data.toList.length = 64 := by rw [hls, h64]
        have hE : rWriteE T i s.data.toList = rStepE T := by rw [rWriteE, ho, hi]; simp [l64]
        have hS : rWriteS T i s.data.toList = if rStepE T ≠ 0 then rStepS T else { rStepS T with s := T.s.set i.toNat { T.s.getD i.toNat zs with next := s.data.toList, dirty := true } } := by
          rw [rWriteS, if_neg (by simp [ho, hi, l64])]
        rw [hE]
        have HS := Lib.hid hS
        obtain ⟨b, hb⟩ : ∃ b, b = s.data.toList := ⟨_, rfl⟩
        rw [← hb] at l64 HS ⊢
        have HB := Lib.hid hb
        obtain ⟨E, hEE⟩ : ∃ E, E = rStepE T := ⟨_, rfl⟩
        rw [← hEE] at HS ⊢
        have HEE := Lib.hid hEE
        have hf : (s.size : Int) = 64 := by omega
        have HR := Lib.hid (is_range hi)
        have HTS := Lib.hid (show (rStepS T).s = T.s by exact rstep_s T)
        clear h hi hE hS hb hEE hls ho n2 c0 c2
        go_enter Try.func38, Try.ntmps38
        go_wp2_with fail
        refine (is_any w r gs T H.out i true HI).mono ?_
        rintro e w' ⟨rfl, rfl⟩
        go_wp2_with fail
        refine (rstep_any w r gs T H.out).mono ?_
        rintro e w2 ⟨rfl, h2, k2⟩
        rw [← HEE.out]
        by_cases hE0 : E = 0
        · subst hE0
          have hr := HR.out
          obtain ⟨m, rfl⟩ : ∃ m : Nat, i = m := ⟨i.toNat, by omega⟩
          have hm : m < T.s.length := by omega
          obtain ⟨x, hx⟩ : ∃ x, T.s[m]? = some x := ⟨_, List.getElem?_eq_getElem hm⟩
          have hx2 : (rStepS T).s[m]? = some x := by rw [HTS.out]; exact hx
          obtain ⟨d0, d1, d2, d3⟩ := h2.sec hx2
          have hxm := List.mem_of_getElem? hx2
          have f1 := h2.rows.frozen (m * 4 + 1)
          obtain ⟨e0, e1, e2⟩ := h2.heads
          have n2 := h2.n2
          have h3 := h2.setSec (c := 1) hx2 (by omega) { x with next := b } (.string s) (by rw [HB.out]; cases s; simp [secCells, str]) (h2.t64 x hxm) (fun _ => l64)
          have hx3 : ((rStepS T).s.set m { x with next := b })[m]? = some { x with next := b } := List.getElem?_set_self (by rw [HTS.out]; exact hm)
          obtain ⟨g0, g1, g2, g3⟩ := h3.sec hx3
          have f2 := h3.rows.frozen (m * 4 + 2)
          obtain ⟨k0, _, _⟩ := h3.heads
          have h4 := h3.setSec (c := 2) hx3 (by omega) { x with next := b, dirty := true } (.bool true) rfl (h2.t64 x hxm) (fun _ => l64)
          have HK := Lib.hid ((k2.setCell (a := ⟨gs, m * 4 + 1, none⟩) (by simp) (.string s)).setCell (a := ⟨gs, m * 4 + 2, none⟩) (by simp) (.bool true))
          rw [Int.toNat_natCast, getD_some hx] at HS
          have H4 := Lib.hid h4
          obtain ⟨n, hn⟩ : ∃ n, n = (rStepS T).s.length := ⟨_, rfl⟩
          rw [show ({ rStepS T with s := (rStepS T).s.set m { x with next := b } } : RSt).s.length = n from by rw [hn]; exact List.length_set] at k0
          rw [← hn] at e0 n2
          have j1 : (m : Int) < (n : Int) := by rw [hn, HTS.out]; omega
          have j0 : (0 : Int) ≤ (m : Int) := by omega
          clear h2 h3 h4 k2 hx hx2 hx3 hxm hn hr hm HR d2 g0 g3
          go_wp2_with fail
          go_ret
          refine RPost.ret ?_ H4.out HK.out
          rw [HS.out, if_neg (by simp)]
          show ({ rStepS T with s := ((rStepS T).s.set m _).set m _ } : RSt) = _
          rw [List.set_set, HTS.out]
        · have hb : (E == 0) = false := beq_eq_false_iff_ne.2 hE0
          have H2 := Lib.hid h2
          have K2 := Lib.hid k2
          clear h2 k2
          go_wp2_with fail
          go_ret
          exact RPost.ret (by rw [HS.out, if_pos hE0]) H2.out K2.out
      · have hne : s.data.toList.length ≠ 64 := by rw [hls]; exact h64
        have hE : rWriteE T i s.data.toList = 1 := by rw [rWriteE, ho, hi, decide_eq_true hne]; rfl
        have HS := Lib.hid (show T = rWriteS T i s.data.toList by rw [rWriteS, if_pos (.inr (by rw [decide_eq_true hne]; simp))])
        rw [hE]
        have hf : ((s.size : Int) == 64) = false := beq_eq_false_iff_ne.2 (by omega)
        clear h hi hE n2 hls h64 ho hne
        go_enter Try.func38, Try.ntmps38
        go_wp2_with fail
        refine (is_any w r gs T H.out i true HI).mono ?_
        rintro e w' ⟨rfl, rfl⟩
        go_wp2_with fail
        go_ret
        exact RPost.ret HS.out H.out (Keep.refl _ _)
  · rw [ho] at c1
    have hE : rWriteE T i s.data.toList = 24 := by rw [rWriteE, ho]; rfl
    have HS := Lib.hid (show T = rWriteS T i s.data.toList by rw [rWriteS, if_pos (.inl ho)])
    rw [hE]
    clear h hE n2 hls ho
    go_enter Try.func38, Try.ntmps38
    go_wp2_with fail
    go_ret
    exact RPost.ret HS.out H.out (Keep.refl _ _)

theorem torn_bytes (a b : Bs) (q : Nat) (hb : b.length = 64) : (⟨a.toArray⟩ : ByteArray).extract 0 q ++ (⟨b.toArray⟩ : ByteArray).extract q 64 = ⟨(tornB a b q).toArray⟩ := by
  apply ByteArray.ext
  rw [ByteArray.data_append, ByteArray.data_extract, ByteArray.data_extract]
  apply Array.toList_inj.1
  rw [Array.toList_append, Array.toList_extract, Array.toList_extract]
  simp only [tornB, List.extract_eq_take_drop, List.drop_zero, Nat.sub_zero]
  rw [List.take_of_length_le (i := 64 - q) (by rw [List.length_drop]; omega)]
theorem rows4 (l : List Sec) (E : List Value) (m : Nat) (x : Sec) (hx : l[m]? = some x) (V : Bs) :
    ((((secsCells l ++ E).toArray.setIfInBounds (m * 4) (str V)).setIfInBounds (m * 4 + 1) (str [])).setIfInBounds (m * 4 + 2) (.bool false)).setIfInBounds (m * 4 + 3) (.bool x.worn) = (secsCells (l.set m ⟨V, [], false, x.worn⟩) ++ E).toArray := by
  have hm := (List.getElem?_eq_some_iff.1 hx).1
  have hl : (secsCells l).length = l.length * 4 := secsCells_length l
  simp only [List.setIfInBounds_toArray]
  congr 1
  rw [List.set_append_left _ _ (by rw [hl]; omega), List.set_append_left _ _ (by rw [List.length_set, hl]; omega), List.set_append_left _ _ (by rw [List.length_set, List.length_set, hl]; omega), List.set_append_left _ _ (by rw [List.length_set, List.length_set, List.length_set, hl]; omega)]
  congr 1
  have e0 := secs_set l m 0 x { x with text := V } (str V) hx (by omega) rfl
  have e1 := secs_set (l.set m { x with text := V }) m 1 _ { x with text := V, next := [] } (str []) (List.getElem?_set_self hm) (by omega) rfl
  have e2 := secs_set ((l.set m { x with text := V }).set m { x with text := V, next := [] }) m 2 _ ⟨V, [], false, x.worn⟩ (.bool false) (List.getElem?_set_self (by rw [List.length_set]; exact hm)) (by omega) rfl
  have e3 := secs_set (((l.set m { x with text := V }).set m { x with text := V, next := [] }).set m ⟨V, [], false, x.worn⟩) m 3 _ ⟨V, [], false, x.worn⟩ (.bool x.worn) (List.getElem?_set_self (by rw [List.length_set, List.length_set]; exact hm)) (by omega) rfl
  rw [Nat.add_zero] at e0
  rw [e0, e1, e2, e3, List.set_set, List.set_set, List.set_set]

/-- a sector stored whole -/
theorem RefAt.store {w : World} {r gs : Nat} {T : RSt} (h : RefAt w r gs T) {m : Nat} {x : Sec} (hx : T.s[m]? = some x) (V : Bs) (hV : V.length = 64) (sV : ByteArray) (hs : sV = ⟨V.toArray⟩) (b : Bool) (hb : b = x.worn) :
    RefAt ((((w.setCell ⟨gs, m * 4, none⟩ (.string sV)).setCell ⟨gs, m * 4 + 1, none⟩ (.string ⟨#[]⟩)).setCell ⟨gs, m * 4 + 2, none⟩ (.bool false)).setCell ⟨gs, m * 4 + 3, none⟩ (.bool b)) r gs { T with s := T.s.set m ⟨V, [], false, x.worn⟩ } := by
  subst hs hb
  have h1 := (((h.rows.set_ (m * 4) (str V)).set_ (m * 4 + 1) (str [])).set_ (m * 4 + 2) (.bool false)).set_ (m * 4 + 3) (.bool x.worn)
  rw [rows4 T.s T.ext m x hx V] at h1
  refine h.turned h1 ?_ List.length_set (mem_set_or h.t64 hV) (mem_set_or (P := fun x => x.dirty = true → x.next.length = 64) h.n64 (fun e => by cases e))
  rw [Below.heap_setCell _ _ _ _ h.ne, Below.heap_setCell _ _ _ _ h.ne, Below.heap_setCell _ _ _ _ h.ne, Below.heap_setCell _ _ _ _ h.ne]
/-- what the walk asks of the four stores -/
theorem RefAt.four {w : World} {r gs : Nat} {T : RSt} (h : RefAt w r gs T) {m : Nat} (hm : m < T.s.length) (u0 u1 u2 : Value) :
    (∃ v, w.cell? ⟨gs, m * 4, none⟩ = some v) ∧ w.frozen? ⟨gs, m * 4, none⟩ = false ∧
    (∃ v, (w.setCell ⟨gs, m * 4, none⟩ u0).cell? ⟨gs, m * 4 + 1, none⟩ = some v) ∧ (w.setCell ⟨gs, m * 4, none⟩ u0).frozen? ⟨gs, m * 4 + 1, none⟩ = false ∧
    (∃ v, ((w.setCell ⟨gs, m * 4, none⟩ u0).setCell ⟨gs, m * 4 + 1, none⟩ u1).cell? ⟨gs, m * 4 + 2, none⟩ = some v) ∧ ((w.setCell ⟨gs, m * 4, none⟩ u0).setCell ⟨gs, m * 4 + 1, none⟩ u1).frozen? ⟨gs, m * 4 + 2, none⟩ = false ∧
    (∃ v, (((w.setCell ⟨gs, m * 4, none⟩ u0).setCell ⟨gs, m * 4 + 1, none⟩ u1).setCell ⟨gs, m * 4 + 2, none⟩ u2).cell? ⟨gs, m * 4 + 3, none⟩ = some v) ∧ (((w.setCell ⟨gs, m * 4, none⟩ u0).setCell ⟨gs, m * 4 + 1, none⟩ u1).setCell ⟨gs, m * 4 + 2, none⟩ u2).frozen? ⟨gs, m * 4 + 3, none⟩ = false := by
  have h0 := h.rows
  have h1 := h0.set_ (m * 4) u0
  have h2 := h1.set_ (m * 4 + 1) u1
  have h3 := h2.set_ (m * 4 + 2) u2
  have hl : (secsCells T.s).length = T.s.length * 4 := secsCells_length T.s
  refine ⟨?_, h0.frozen _, ?_, h1.frozen _, ?_, h2.frozen _, ?_, h3.frozen _⟩
  · rw [h0.cell]; exact ⟨_, Array.getElem?_eq_getElem (by simp [hl]; omega)⟩
  · rw [h1.cell]; exact ⟨_, Array.getElem?_eq_getElem (by simp [hl]; omega)⟩
  · rw [h2.cell]; exact ⟨_, Array.getElem?_eq_getElem (by simp [hl]; omega)⟩
  · rw [h3.cell]; exact ⟨_, Array.getElem?_eq_getElem (by simp [hl]; omega)⟩

set_option maxHeartbeats 4000000 in
set_option maxRecDepth 100000 in
theorem rsettle_any (w : World) (r gs : Nat) (T : RSt) (h : RefAt w r gs T) (m : Nat) (x : Sec) (hx : T.s[m]? = some x) (hd : x.dirty = true) (p : Int) :
    Calls Try.prog 60 #[.pointer (some ⟨r, 0, none⟩), .int .i64 (m : Int), .int .i64 p] w (RPost (.tuple #[]) r gs { T with s := T.s.set m (settleX x p) } w) := by
  have n2 := h.n2
  have hm := (List.getElem?_eq_some_iff.1 hx).1
  obtain ⟨c0, c1, c2⟩ := h.heads
  obtain ⟨d0, d1, d2, d3⟩ := h.sec hx
  rw [hd] at d2
  have hxm := List.mem_of_getElem? hx
  have t64 := h.t64 x hxm
  have x64 := h.n64 x hxm hd
  obtain ⟨sT, hsT⟩ : ∃ sT : ByteArray, sT = ⟨x.text.toArray⟩ := ⟨_, rfl⟩
  obtain ⟨sN, hsN⟩ : ∃ sN : ByteArray, sN = ⟨x.next.toArray⟩ := ⟨_, rfl⟩
  have zT : sT.size = 64 := by rw [hsT, mk_sz, t64]
  have zN : sN.size = 64 := by rw [hsN, mk_sz, x64]
  rw [show str x.text = .string sT by rw [hsT]] at d0
  rw [show str x.next = .string sN by rw [hsN]] at d1
  obtain ⟨q, hq⟩ : ∃ q, q = pq p := ⟨_, rfl⟩
  have q64 : q ≤ 64 := by rw [hq]; exact pq_le p
  have hmx : max 0 (min p 64) = (q : Int) := by rw [hq, pq]; omega
  have q1 : (q : Int) ≤ 64 := by omega
  have q0 : (0 : Int) ≤ (q : Int) := by omega
  obtain ⟨n, hn⟩ : ∃ n, n = T.s.length := ⟨_, rfl⟩
  rw [← hn] at c0 hm n2
  have j1 : (m : Int) < (n : Int) := by omega
  have j0 : (0 : Int) ≤ (m : Int) := by omega
  have H := Lib.hid h
  have hx' := hx
  have hn' := hn
  clear h hx hxm hn
  obtain ⟨w1, hw1⟩ : ∃ w1, w1 = w.alloc (.cells #[.string sT, .string sN, .bool true, .bool x.worn] 52) := ⟨_, rfl⟩
  have hB := Blk.new w 52 #[.string sT, .string sN, .bool true, .bool x.worn]
  rw [← hw1] at hB
  have HB := Lib.hid hB
  have HBE := Lib.hid (show Below w.heap.size w w1 by rw [hw1]; exact below_new w _)
  have HT := Lib.hid hsT
  have HN := Lib.hid hsN
  have HQ := Lib.hid hq
  have HX := Lib.hid hx'
  have HLN := Lib.hid hn'
  have f0 : w1.cell? ⟨w.heap.size, 0, none⟩ = some (.string sT) := hB.cell 0
  have f1 : w1.cell? ⟨w.heap.size, 1, none⟩ = some (.string sN) := hB.cell 1
  have f2 : w1.cell? ⟨w.heap.size, 2, none⟩ = some (.bool true) := hB.cell 2
  have f3 : w1.cell? ⟨w.heap.size, 3, none⟩ = some (.bool x.worn) := hB.cell 3
  clear hsT hsN hq hB hx' hn'
  cases hw : x.worn
  · rw [hw] at d3 f3
    rw [hw] at hw1
    go_enter Try.func60, Try.ntmps60
    go_wp2_with fail
    rw [← hw1]
    clear hw1
    go_still_tail 10, (by kernel_rfl)
    change wpList _ _ _ _ _ w1.drew
    obtain ⟨sV, hsV⟩ : ∃ sV, sV = sN.extract 0 q ++ sT.extract q 64 := ⟨_, rfl⟩
    rw [← hsV]
    have hBd : Blk w1.drew w.heap.size 52 #[.string sT, .string sN, .bool true, .bool x.worn] := HB.out
    have HBd := Lib.hid (show Below w.heap.size w w1.drew from HBE.out.drew)
    clear f0 f1 f2 f3 HB HBE
    generalize w1.drew = w2 at *
    have k1 := hBd.frozen 0
    have hB1 := hBd.set_ 0 (.string sV)
    have k2 := hB1.frozen 1
    have hB2 := hB1.set_ 1 (.string ⟨#[]⟩)
    have k3 := hB2.frozen 2
    have hB3 := hB2.set_ 2 (.bool false)
    have o1 := hBd.cell 0
    have o2 := hB1.cell 1
    have o3 := hB2.cell 2
    obtain ⟨w3, hw3⟩ : ∃ w3, w3 = ((w2.setCell ⟨w.heap.size, 0, none⟩ (.string sV)).setCell ⟨w.heap.size, 1, none⟩ (.string ⟨#[]⟩)).setCell ⟨w.heap.size, 2, none⟩ (.bool false) := ⟨_, rfl⟩
    have HE := Lib.hid (show Below w.heap.size w w3.drew by rw [hw3]; exact (((HBd.out.setCell (Nat.le_refl _) (.string sV)).setCell (Nat.le_refl _) (.string ⟨#[]⟩)).setCell (Nat.le_refl _) (.bool false)).drew)
    have HB3 := Lib.hid (show Blk w3.drew w.heap.size 52 #[.string sV, .string ⟨#[]⟩, .bool false, .bool x.worn] by rw [hw3]; exact hB3)
    have HV := Lib.hid hsV
    clear hB1 hB2 hB3 hBd hsV HBd
    go_wp2_with fail
    rw [← hw3]
    clear hw3 k1 k2 k3 o1 o2 o3
    have H3 := Lib.hid (H.out.below HE.out H.out.lt.1 H.out.lt.2)
    obtain ⟨e0, -, -⟩ := H3.out.heads
    have o0 := HB3.out.cell 0
    have o1 := HB3.out.cell 1
    have o2 := HB3.out.cell 2
    have o3 := HB3.out.cell 3
    have LN := Lib.hid (show T.s.length = n by rw [HLN.out])
    rw [LN.out] at e0
    rw [show (#[Value.string sV, .string ⟨#[]⟩, .bool false, .bool x.worn] : Array Value)[3]? = some (.bool false) by rw [hw]; rfl] at o3
    have HMS := Lib.hid (show m < T.s.length by rw [LN.out]; exact hm)
    obtain ⟨⟨v0, z0⟩, y0, ⟨v1, z1⟩, y1, ⟨v2, z2⟩, y2, ⟨v3, z3⟩, y3⟩ := H3.out.four HMS.out (.string sV) (.string ⟨#[]⟩) (.bool false)
    have HF := Lib.hid (H3.out.store HX.out (tornB x.next x.text q) (torn_length x64 t64 q64) sV (by rw [HV.out, HN.out, HT.out]; exact torn_bytes _ _ _ t64) false hw.symm)
    have HK := Lib.hid (((((Keep.of_below HE.out [r, gs]).setCell (a := ⟨gs, m * 4, none⟩) (by simp) (.string sV)).setCell (a := ⟨gs, m * 4 + 1, none⟩) (by simp) (.string ⟨#[]⟩)).setCell (a := ⟨gs, m * 4 + 2, none⟩) (by simp) (.bool false)).setCell (a := ⟨gs, m * 4 + 3, none⟩) (by simp) (.bool false))
    go_still_tail 7, (by kernel_rfl)
    change wpList _ _ _ _ _ w3.drew
    clear H3 HB3 HE d0 d1 d2 d3 c0 c1 c2 o0 o1 o2 o3 e0
    generalize w3.drew = w4 at *
    go_wp2_with fail
    go_end0
    refine ⟨rfl, ?_, HK.out⟩
    have he : settleX x p = ⟨tornB x.next x.text q, [], false, x.worn⟩ := by
      unfold settleX
      rw [hw, HQ.out]
      rfl
    rw [he]
    exact HF.out
  · rw [hw] at d3
    clear hw1 f0 f1 f2 f3 HB HBE
    obtain ⟨w3, hw3⟩ : ∃ w3, w3 = w.alloc (.cells #[.string sT, .string ⟨#[]⟩, .bool false, .bool true] 52) := ⟨_, rfl⟩
    have HE := Lib.hid (show Below w.heap.size w w3.drew by rw [hw3]; exact (below_new w _).drew)
    have HB3 := Lib.hid (show Blk w3.drew w.heap.size 52 #[.string sT, .string ⟨#[]⟩, .bool false, .bool x.worn] by rw [hw3, hw]; exact Blk.new w 52 _)
    go_enter Try.func60, Try.ntmps60
    go_wp2_with fail
    rw [← hw3]
    clear hw3
    have H3 := Lib.hid (H.out.below HE.out H.out.lt.1 H.out.lt.2)
    obtain ⟨e0, -, -⟩ := H3.out.heads
    have o0 := HB3.out.cell 0
    have o1 := HB3.out.cell 1
    have o2 := HB3.out.cell 2
    have o3 := HB3.out.cell 3
    have LN := Lib.hid (show T.s.length = n by rw [HLN.out])
    rw [LN.out] at e0
    rw [show (#[Value.string sT, .string ⟨#[]⟩, .bool false, .bool x.worn] : Array Value)[3]? = some (.bool true) by rw [hw]; rfl] at o3
    have HMS := Lib.hid (show m < T.s.length by rw [LN.out]; exact hm)
    obtain ⟨⟨v0, z0⟩, y0, ⟨v1, z1⟩, y1, ⟨v2, z2⟩, y2, ⟨v3, z3⟩, y3⟩ := H3.out.four HMS.out (.string sT) (.string ⟨#[]⟩) (.bool false)
    have HF := Lib.hid (H3.out.store HX.out x.text t64 sT HT.out true hw.symm)
    have HK := Lib.hid (((((Keep.of_below HE.out [r, gs]).setCell (a := ⟨gs, m * 4, none⟩) (by simp) (.string sT)).setCell (a := ⟨gs, m * 4 + 1, none⟩) (by simp) (.string ⟨#[]⟩)).setCell (a := ⟨gs, m * 4 + 2, none⟩) (by simp) (.bool false)).setCell (a := ⟨gs, m * 4 + 3, none⟩) (by simp) (.bool true))
    go_still_tail 7, (by kernel_rfl)
    change wpList _ _ _ _ _ w3.drew
    clear H3 HB3 HE d0 d1 d2 d3 c0 c1 c2 o0 o1 o2 o3 e0
    generalize w3.drew = w4 at *
    go_wp2_with fail
    go_end0
    refine ⟨rfl, ?_, HK.out⟩
    have he : settleX x p = ⟨x.text, [], false, x.worn⟩ := by
      unfold settleX
      rw [hw]
      rfl
    rw [he]
    exact HF.out

set_option maxHeartbeats 4000000 in
set_option maxRecDepth 100000 in
theorem rrot_any (w : World) (r gs : Nat) (T : RSt) (h : RefAt w r gs T) (i bit : Int) :
    Calls Try.prog 43 #[.pointer (some ⟨r, 0, none⟩), .int .i64 i, .int .i64 bit] w (RPost (.int .i64 (rRotE T i bit)) r gs (rRotS T i bit) w) := by
  have n2 := h.n2
  have H := Lib.hid h
  cases hr : rRotOK T i bit
  · have hE : rRotE T i bit = 1 := by rw [rRotE, hr]; rfl
    have HS := Lib.hid (show T = rRotS T i bit by rw [rRotS, hr]; rfl)
    rw [hE]
    cases hi : rIs T i
    · have HI := Lib.hid hi
      clear h hi hE n2 hr
      go_enter Try.func43, Try.ntmps43
      go_wp2_with fail
      refine (is_any w r gs T H.out i false HI).mono ?_
      rintro e w' ⟨rfl, rfl⟩
      go_wp2_with fail
      go_ret
      exact RPost.ret HS.out H.out (Keep.refl _ _)
    · have HI := Lib.hid hi
      have hb : bit < 0 ∨ (0 ≤ bit ∧ 511 < bit) := by
        unfold rRotOK at hr
        rw [hi] at hr
        simp at hr
        omega
      clear h hi hE n2 hr
      rcases hb with hb | ⟨hb0, hb⟩
      all_goals
        go_enter Try.func43, Try.ntmps43
        go_wp2_with fail
        refine (is_any w r gs T H.out i true HI).mono ?_
        rintro e w' ⟨rfl, rfl⟩
        go_wp2_with fail
        go_ret
        exact RPost.ret HS.out H.out (Keep.refl _ _)
  · have hE : rRotE T i bit = 0 := by rw [rRotE, hr]; rfl
    have HS := Lib.hid (show { T with s := T.s.set i.toNat { T.s.getD i.toNat zs with text := flipB (T.s.getD i.toNat zs).text bit.toNat } } = rRotS T i bit by rw [rRotS, hr]; rfl)
    rw [hE]
    have hi : rIs T i = true := (Bool.and_eq_true_iff.1 hr).1
    have hb : 0 ≤ bit ∧ bit < 512 := by simpa using (Bool.and_eq_true_iff.1 hr).2
    have HI := Lib.hid hi
    have hR := is_range hi
    obtain ⟨m, rfl⟩ : ∃ m : Nat, i = m := ⟨i.toNat, by omega⟩
    obtain ⟨q, rfl⟩ : ∃ q : Nat, bit = q := ⟨bit.toNat, by omega⟩
    have hm : m < T.s.length := by omega
    obtain ⟨x, hx⟩ : ∃ x, T.s[m]? = some x := ⟨_, List.getElem?_eq_getElem hm⟩
    obtain ⟨d0, d1, d2, d3⟩ := h.sec hx
    have hxm := List.mem_of_getElem? hx
    have t64 := h.t64 x hxm
    have x64 := h.n64 x hxm
    obtain ⟨c0, c1, c2⟩ := h.heads
    obtain ⟨sT, hsT⟩ : ∃ sT : ByteArray, sT = ⟨x.text.toArray⟩ := ⟨_, rfl⟩
    have zT : sT.size = 64 := by rw [hsT, mk_sz, t64]
    rw [show str x.text = .string sT by rw [hsT]] at d0
    have hcv := Lib.run_convert_string_bytes (P := Try.prog) w 9 68 5 sT Try.underlying9 Try.underlying68 Try.underlying5
    rw [zT] at hcv
    have hbn := Lib.bytesWorld_at_new w 5 sT
    have hbl : Below w.heap.size w (Lib.bytesWorld w 5 sT) := ⟨rfl, rfl, rfl, by rw [Lib.bytesWorld_size]; exact Nat.le_succ _, fun k hk => Lib.bytesWorld_at_old w 5 sT k hk⟩
    have hbc : ∀ j, j < 64 → (Lib.bytesCells w 5 sT)[j]? = some (.int .u8 ((x.text.getD j 0).toNat : Int)) := fun j hj => by
      have := Lib.bytesWorld_cell w 5 sT j (by omega)
      rw [cell_of_row _ _ _ _ _ _ hbn] at this
      rw [this, hsT]
    generalize Lib.bytesWorld w 5 sT = w1 at *
    generalize grownCap w 64 0 5 = cp at *
    generalize Lib.bytesCells w 5 sT = CB at *
    have hCs : 64 ≤ CB.size := by
      have := (Array.getElem?_eq_some_iff.1 (hbc 63 (by omega))).1
      omega
    obtain ⟨d, hd⟩ : ∃ d, d = q / 8 := ⟨_, rfl⟩
    obtain ⟨rr, hrr⟩ : ∃ rr, rr = q % 8 := ⟨_, rfl⟩
    have hdm : d < 64 := by omega
    obtain ⟨y, hy⟩ : ∃ y, y = x.text.getD d 0 := ⟨_, rfl⟩
    have hby : w1.drew.cell? ⟨w.heap.size, d, none⟩ = some (.int .u8 (y.toNat : Int)) := by
      show w1.cell? _ = _
      rw [cell_of_row _ _ _ _ _ _ hbn, hbc d hdm, hy]
    have hfz : w1.drew.frozen? ⟨w.heap.size, d, none⟩ = false := by
      show w1.frozen? _ = false
      unfold World.frozen?
      rw [hbn]
      simp
      omega
    have hxr := xor_u8 y (bitOf q)
    have hsh := shl_one rr (by omega)
    rw [show ((1 : UInt8) <<< (UInt8.ofNat rr)) = bitOf q from by rw [hrr]; rfl] at hsh
    have q1 : IntKind.i64.wrap ((q : Int) / 8) = (d : Int) := by rw [IntWalk.i64_in _ (by omega)]; omega
    have q2 : IntKind.i64.wrap ((q : Int) % 8) = (rr : Int) := by rw [IntWalk.i64_in _ (by omega)]; omega
    have q4 : ((q : Int) % 8) = (rr : Int) := by omega
    have q7 : ((q : Int).tmod 8) = (rr : Int) := by rw [Int.tmod_eq_emod_of_nonneg (by omega)]; omega
    have q8 : ((q : Int).tdiv 8) = (d : Int) := by rw [Int.tdiv_eq_ediv_of_nonneg (by omega)]; omega
    have q9 : IntKind.i64.wrap (d : Int) = (d : Int) := IntWalk.i64_in _ (by omega)
    have q10 : IntKind.i64.wrap (rr : Int) = (rr : Int) := IntWalk.i64_in _ (by omega)
    have q5 : (d : Int) < 64 := by omega
    have q6 : (rr : Int) ≤ 8 := by omega
    have p1 : (0 : Int) ≤ (d : Int) := by omega
    have p2 : (0 : Int) ≤ (rr : Int) := by omega
    have b1 : decide ((q : Int) < 0) = false := by simp
    have b2 : decide (511 < (q : Int)) = false := by simp; omega
    obtain ⟨z, hz⟩ : ∃ z, z = y ^^^ bitOf q := ⟨_, rfl⟩
    obtain ⟨yy, hyy⟩ : ∃ yy, yy = bitOf q := ⟨_, rfl⟩
    rw [← hz, ← hyy] at hxr
    rw [← hyy] at hsh
    obtain ⟨w3, hw3⟩ : ∃ w3, w3 = w1.drew.setCell ⟨w.heap.size, d, none⟩ (.int .u8 (z.toNat : Int)) := ⟨_, rfl⟩
    have hB3 : w3.heap[w.heap.size]? = some (.cells (CB.setIfInBounds d (.int .u8 (z.toNat : Int))) 5 (CB.size, CB.size + 1)) := by
      rw [hw3]
      have e : w1.drew.heap[w.heap.size]? = _ := hbn
      simp [World.setCell, Array.getElem?_modify, e]
    have hE3 : Below w.heap.size w w3.drew := by rw [hw3]; exact (hbl.drew.setCell (Nat.le_refl _) _).drew
    have hfl : flipB x.text q = x.text.set d z := by rw [flipB, ← hd, hz, hy]
    have f64 : (flipB x.text q).length = 64 := by rw [flip_length, t64]
    have hcv2 := conv_bytes w3.drew w.heap.size 0 (flipB x.text q) f64 (fun k hk => by
      show w3.cell? _ = _
      rw [Nat.zero_add, cell_of_row _ _ _ _ _ _ hB3, hfl, Array.getElem?_setIfInBounds, List.getD_eq_getElem?_getD, List.getElem?_set]
      by_cases e : d = k
      · rw [if_pos e, if_pos e, if_pos (by omega), if_pos (by omega)]; rfl
      · rw [if_neg e, if_neg e, hbc k hk, List.getD_eq_getElem?_getD]) cp
    have h4 := h.below hE3 h.lt.1 h.lt.2
    obtain ⟨e0, -, -⟩ := h4.heads
    obtain ⟨g0, -, -, -⟩ := h4.sec hx
    have hf4 := h4.rows.frozen (m * 4)
    obtain ⟨sF, hsF⟩ : ∃ sF : ByteArray, sF = ⟨(flipB x.text q).toArray⟩ := ⟨_, rfl⟩
    rw [← hsF] at hcv2
    have H4 := Lib.hid (h4.setSec (c := 0) hx (by omega) { x with text := flipB x.text q } (.string sF) (by rw [hsF]; rfl) f64 x64)
    have HK := Lib.hid ((Keep.of_below hE3 [r, gs]).setCell (a := ⟨gs, m * 4, none⟩) (by simp) (.string sF))
    rw [Int.toNat_natCast, Int.toNat_natCast, getD_some hx] at HS
    rw [show str x.text = .string sT by rw [hsT]] at g0
    obtain ⟨n, hn⟩ : ∃ n, n = T.s.length := ⟨_, rfl⟩
    rw [← hn] at c0 hm n2 e0
    have j1 : (m : Int) < (n : Int) := by omega
    have j0 : (0 : Int) ≤ (m : Int) := by omega
    have c0' : w1.cell? ⟨r, 0, none⟩ = some (.slice (some ⟨gs, 0, none⟩) n T.cap) := by rw [hbl.cell (p := ⟨r, 0, none⟩) h.lt.1]; exact c0
    clear h4 hsF hfl hbc hbn hB3 hE3 hsT hxm t64 x64 f64 hR hi hr hE h hx hn hd hrr hy hz hyy hbl d1 d2 d3 c1 c2 hCs hb
    go_enter Try.func43, Try.ntmps43
    go_wp2_with fail
    refine (is_any w r gs T H.out m true HI).mono ?_
    rintro e w' ⟨rfl, rfl⟩
    go_wp2_with fail
    go_still_tail 13, (by kernel_rfl)
    change wpList _ _ _ _ _ w1.drew
    go_wp2_with fail
    rw [show (w1.setCell ⟨w.heap.size, d, none⟩ (.int .u8 (z.toNat : Int))).drew = w3 from hw3.symm]
    clear hw3 hby hfz hcv c0 c0' d0
    go_still_tail 9, (by kernel_rfl)
    change wpList _ _ _ _ _ w3.drew
    clear e0 hcv2
    generalize w3.drew = w4 at *
    go_wp2_with fail
    go_ret
    exact RPost.ret HS.out H4.out HK.out
end Go.Proofs.Ytibhnjnfifpepaa
