/- The walk of DiskRefusesSizes. -/
import Derived.Test.YtibhnjnfifpepaaSanity
namespace Go.Proofs.Ytibhnjnfifpepaa
open Go.RowKit Go.Maps Go.Sort Go.Shelf

theorem Rd.keepK {F : List Nat} {w w' : World} {size n : Nat} {A : Option Addr} {xs : List Value} (h : Rd w w.heap.size size A n xs) (hk : Keep F w w') (hne : ∀ b o, A = some ⟨b, o, none⟩ → b ∉ F) : Rd w' w'.heap.size size A n xs := by
  refine ⟨h.1, fun hn => ?_⟩
  obtain ⟨b, o, e, hb, hc⟩ := h.2 hn
  exact ⟨b, o, e, Nat.lt_of_lt_of_le hb hk.size, fun j u hu => (hk.cell (p := ⟨b, o + j, none⟩) hb (hne b o e)).trans (hc j u hu)⟩
theorem t_check (i : Int) (h : i < 0 ∨ 2 < i) : checkE (newS 3) i = 1 := by
  have hl : (newS 3).bl.length = 3 := List.length_replicate
  unfold checkE
  rw [show (newS 3).off = false from rfl, hl]
  simp only [Bool.false_eq_true, if_false]
  rw [if_neg (by omega)]
theorem t_zero : checkE (newS 3) 0 = 0 := by decide +kernel
theorem t_read (i : Int) (h : i < 0 ∨ 2 < i) : readB (newS 3) i = [] := by unfold readB; rw [if_pos (by rw [t_check i h]; decide)]
theorem t_we (i : Int) (h : i < 0 ∨ 2 < i) (b : Bs) : writeE (newS 3) i b = 1 ∧ writeS (newS 3) i b = newS 3 := by
  have hc := t_check i h
  exact ⟨by unfold writeE; rw [if_pos (by rw [hc]; decide), hc], by unfold writeS; rw [if_pos (.inl (by rw [hc]; decide))]⟩
theorem t_ws (b : Bs) (h : b.length ≠ 64) : writeE (newS 3) 0 b = 1 ∧ writeS (newS 3) 0 b = newS 3 :=
  ⟨by unfold writeE; rw [if_neg (by rw [t_zero]; decide), if_pos h], by unfold writeS; rw [if_pos (.inr h)]⟩
theorem t_is (i : Int) (h : i < 0 ∨ 2 < i) : isB (newS 3) i = false := by
  have hl : (newS 3).bl.length = 3 := List.length_replicate
  simp only [isB, hl, decide_eq_false_iff_not]
  omega
theorem t_rot (i : Int) (h : i < 0 ∨ 2 < i) : rotE (newS 3) i 0 = 1 ∧ rotS (newS 3) i 0 = newS 3 := by
  have : rotOK (newS 3) i 0 = false := by rw [rotOK, t_is i h]; rfl
  exact ⟨by rw [rotE, this]; rfl, by rw [rotS, this]; rfl⟩
theorem t_wear (i : Int) (h : i < 0 ∨ 2 < i) : wearE (newS 3) i = 1 ∧ wearS (newS 3) i = newS 3 := by
  have := t_is i h
  exact ⟨by rw [wearE, this]; rfl, by rw [wearS, this]; rfl⟩
theorem t_keys : keysOf (newS 3).pend = [] ∧ keysOf (newS 3).worn = [] := by
  have : ∀ D : Dt, intKeys D = [] → keysOf D = [] := fun D h => by rw [keysOf, h, List.mergeSort_nil]
  exact ⟨this _ rfl, this _ rfl⟩
theorem t_len : (strCells (newS 3).bl).length = 3 := by rw [strCells, List.length_map]; exact List.length_replicate

set_option maxHeartbeats 16000000 in
set_option maxRecDepth 100000 in
theorem refuses_lo_lo_bad (w : World) (sec i : Int) (s : ByteArray) (hs1 : -9223372036854775808 ≤ sec) (hs2 : sec ≤ 9223372036854775807) (hi1 : -9223372036854775808 ≤ i) (hi2 : i ≤ 9223372036854775807) (hss : s.size ≤ 9223372036854775807) (hq : sec < 1) (hj : i < 0) (hsb : Hid (s.size ≠ 64)) :
    Calls Try.prog 3 #[.int .i64 sec, .int .i64 i, .string s] w (RetB (.bool true) w) := by
  have hsec : Hid (sec < 1 ∨ 4096 < sec) := Lib.hid (.inl hq)
  have N3 : ∀ W : World, Calls Try.prog 9 #[.int .i64 3] W (NewPost 3 W) := fun W => new_any W 3 (by omega) (by omega)
  have hib : Hid (i < 0 ∨ 2 < i) := Lib.hid (.inl hj)
  obtain ⟨fx, hfx⟩ : ∃ fx : ByteArray, fx = ⟨(fullB 120).toArray⟩ := ⟨_, rfl⟩
  have FX : ∀ W : World, Calls Try.prog 13 #[.int .u8 120] W (RetB (.string fx) W) := fun W => by rw [hfx]; exact full_any W 120
  have RD : ∀ (W : World) (g gb gp gw K : Nat), DiskAt W g gb gp gw K (newS 3) → Calls Try.prog 11 #[.pointer (some ⟨g, 0, none⟩), .int .i64 i] W (RetB (.tuple #[.string ⟨#[]⟩, .int .i64 1]) W) := fun W g gb gp gw K h => read_is W g gb gp gw K _ h i hi1 hi2 [] 1 (t_read i hib.out) (t_check i hib.out) ⟨#[]⟩ rfl
  have WR : ∀ (W : World) (g gb gp gw K : Nat), K ≤ 100000 → DiskAt W g gb gp gw K (newS 3) → Calls Try.prog 12 #[.pointer (some ⟨g, 0, none⟩), .int .i64 i, .string fx] W (DPost (.int .i64 1) g gb gp gw (K + 1) (newS 3) W) := fun W g gb gp gw K hK h => by
    have := write_full W g gb gp gw K _ h hK i hi1 hi2 120 fx hfx 1 (t_we i hib.out _).1
    rwa [(t_we i hib.out _).2] at this
  have RT : ∀ (W : World) (g gb gp gw K : Nat), DiskAt W g gb gp gw K (newS 3) → Calls Try.prog 14 #[.pointer (some ⟨g, 0, none⟩), .int .i64 i, .int .i64 0] W (DPost (.int .i64 1) g gb gp gw K (newS 3) W) := fun W g gb gp gw K h => by
    have := rot_any W g gb gp gw K _ h i 0
    rwa [(t_rot i hib.out).1, (t_rot i hib.out).2] at this
  have WE : ∀ (W : World) (g gb gp gw K : Nat), K ≤ 100000 → DiskAt W g gb gp gw K (newS 3) → Calls Try.prog 15 #[.pointer (some ⟨g, 0, none⟩), .int .i64 i] W (DPost (.int .i64 1) g gb gp gw (K + 1) (newS 3) W) := fun W g gb gp gw K hK h => by
    have := wear_any W g gb gp gw K _ h hK i hi1 hi2
    rwa [(t_wear i hib.out).1, (t_wear i hib.out).2] at this
  clear hfx
  have WS : ∀ (W : World) (g gb gp gw K : Nat), K ≤ 100000 → DiskAt W g gb gp gw K (newS 3) → Calls Try.prog 12 #[.pointer (some ⟨g, 0, none⟩), .int .i64 0, .string s] W (DPost (.int .i64 1) g gb gp gw (K + 1) (newS 3) W) := fun W g gb gp gw K hK h => by
    have := write_any W g gb gp gw K _ h hK 0 (by omega) (by omega) s hss
    have hl : s.data.toList.length ≠ 64 := by rw [show s.data.toList.length = s.size from by simp]; exact hsb.out
    rwa [(t_ws _ hl).1, (t_ws _ hl).2] at this
  have x1 : ((s.size : Int) != 64) = true := by rw [bne_iff_ne]; have := hsb.out; omega
  have x2 : ((s.size : Int) == 64) = false := beq_eq_false_iff_ne.2 (by have := hsb.out; omega)
  go_enter Try.func3, Try.ntmps3
  go_wp2_with fail
  refine (sanity_any _).mono ?_
  rintro e w0 ⟨rfl, b0⟩
  have B0 := Lib.hid b0
  clear b0
  go_wp2_with fail
  refine (new_bad _ sec hs1 hs2 hsec.out).mono ?_
  rintro e wq ⟨rfl, rfl⟩
  go_wp2_with fail
  refine (N3 _).mono ?_
  rintro e w1 ⟨g, gb, gp, gw, rfl, d1, b1, l1, l2, l3, l4⟩
  have HF : Hid (∀ k, k ∈ [g, gb, gp, gw] → w.heap.size ≤ k) := Lib.hid (by
    intro k hk
    have hz := B0.out.size
    simp only [List.mem_cons, List.not_mem_nil, or_false] at hk
    rcases hk with rfl | rfl | rfl | rfl <;> omega)
  have D1 := Lib.hid d1
  have B1 := Lib.hid (B0.out.trans (b1.mono B0.out.size))
  have FLi : Hid (∀ k, k ∈ [g, gb, gp, gw] → k < w1.heap.size) := Lib.hid (by
    intro k hk
    have := d1.lt
    simp only [List.mem_cons, List.not_mem_nil, or_false] at hk
    rcases hk with rfl | rfl | rfl | rfl <;> omega)
  clear d1 b1 l1 l2 l3 l4 B0
  go_wp2_with fail
  refine (image_any _ g gb gp gw _ _ D1.out).mono ?_
  rintro e w2 ⟨A6, c6, rfl, i6, -, b2, li6⟩
  have D2 := Lib.hid (D1.out.below b2)
  have B2 := Lib.hid (B1.out.trans (b2.mono B1.out.size))
  clear D1 B1
  rw [t_len] at i6 ⊢
  have I6 := Lib.hid i6
  have LI6 : Hid (∀ b o, A6 = some ⟨b, o, none⟩ → b ∉ [g, gb, gp, gw]) := Lib.hid (fun b o e hm => by
    have h1 := li6 b o e
    have h2 := FLi.out b hm
    omega)
  have T2 : Hid (Keep [g, gb, gp, gw] w2 w2) := Lib.hid (Keep.refl _ _)
  clear i6 li6 b2 FLi
  go_wp2_with fail
  refine (RD _ g gb gp gw _ D2.out).mono ?_
  rintro e w3 ⟨rfl, b3⟩
  have D3 := Lib.hid (D2.out.below b3)
  have B3 := Lib.hid (B2.out.trans (b3.mono B2.out.size))
  have T3 := Lib.hid (T2.out.trans (Keep.of_below b3 [g, gb, gp, gw]))
  clear T2
  clear D2 B2
  clear b3
  go_wp2_with fail
  refine (FX _).mono ?_
  rintro e w4 ⟨rfl, b4⟩
  have D4 := Lib.hid (D3.out.below b4)
  have B4 := Lib.hid (B3.out.trans (b4.mono B3.out.size))
  have T4 := Lib.hid (T3.out.trans (Keep.of_below b4 [g, gb, gp, gw]))
  clear T3
  clear D3 B3
  clear b4
  go_wp2_with fail
  refine (WR _ g gb gp gw _ (by omega) D4.out).mono ?_
  rintro e w5 ⟨rfl, d5, k5⟩
  have D5 : Hid (DiskAt w5 g gb gp gw 1 (newS 3)) := Lib.hid d5
  have B5 := Lib.hid (B4.out.trans (k5.below B4.out.size HF.out))
  have T5 := Lib.hid (T4.out.trans k5)
  clear T4
  clear D4 B4 d5 k5
  go_wp2_with fail
  refine (RT _ g gb gp gw _ D5.out).mono ?_
  rintro e w6 ⟨rfl, d6, k6⟩
  have D6 : Hid (DiskAt w6 g gb gp gw 1 (newS 3)) := Lib.hid d6
  have B6 := Lib.hid (B5.out.trans (k6.below B5.out.size HF.out))
  have T6 := Lib.hid (T5.out.trans k6)
  clear T5
  clear D5 B5 d6 k6
  go_wp2_with fail
  refine (WE _ g gb gp gw _ (by omega) D6.out).mono ?_
  rintro e w7 ⟨rfl, d7, k7⟩
  have D7 : Hid (DiskAt w7 g gb gp gw 2 (newS 3)) := Lib.hid d7
  have B7 := Lib.hid (B6.out.trans (k7.below B6.out.size HF.out))
  have T7 := Lib.hid (T6.out.trans k7)
  clear T6
  clear D6 B6 d7 k7
  go_wp2_with fail
  refine (WS _ g gb gp gw _ (by omega) D7.out).mono ?_
  rintro e w8 ⟨rfl, d8, k8⟩
  have D8 : Hid (DiskAt w8 g gb gp gw 3 (newS 3)) := Lib.hid d8
  have B8 := Lib.hid (B7.out.trans (k8.below B7.out.size HF.out))
  have T8 := Lib.hid (T7.out.trans k8)
  clear T7
  clear D7 B7 d8 k8
  go_wp2_with fail
  refine (image_any _ g gb gp gw _ _ D8.out).mono ?_
  rintro e w9 ⟨A8, c8, rfl, i8, -, b9, -⟩
  have D9 := Lib.hid (D8.out.below b9)
  have B9 := Lib.hid (B8.out.trans (b9.mono B8.out.size))
  have T9 := Lib.hid (T8.out.trans (Keep.of_below b9 [g, gb, gp, gw]))
  clear T8
  clear D8 B8
  rw [t_len] at i8 ⊢
  have r6 := Rd.keepK I6.out T9.out LI6.out
  clear I6 LI6 b9 T9
  go_wp2_with fail
  refine (sameTexts_any _ _ 3 3 c6 c8 (newS 3).bl (newS 3).bl _ r6 i8 List.length_replicate List.length_replicate (by omega) true (Lib.hid (by simp))).mono ?_
  rintro e w10 ⟨rfl, b10⟩
  have D10 := Lib.hid (D9.out.below b10)
  have B10 := Lib.hid (B9.out.trans (b10.mono B9.out.size))
  clear D9 B9
  clear b10 r6 i8
  go_wp2_with fail
  refine (pending_any _ g gb gp gw _ _ D10.out (by omega)).mono ?_
  rintro e w11 ⟨v9, rfl, p9, b11⟩
  have D11 := Lib.hid (D10.out.below b11)
  have B11 := Lib.hid (B10.out.trans (b11.mono B10.out.size))
  clear D10 B10
  rw [t_keys.1] at p9
  obtain ⟨A9, c9, rfl, -⟩ := own_slice p9
  clear p9 b11
  go_wp2_with fail
  refine (worn_any _ g gb gp gw _ _ D11.out (by omega)).mono ?_
  rintro e w12 ⟨v10, rfl, p10, b12⟩
  have D12 := Lib.hid (D11.out.below b12)
  have B12 := Lib.hid (B11.out.trans (b12.mono B11.out.size))
  clear D11 B11
  rw [t_keys.2] at p10
  obtain ⟨A10, c10, rfl, -⟩ := own_slice p10
  clear p10 b12
  go_wp2_with fail
  go_ret
  exact ⟨rfl, B12.out⟩

set_option maxHeartbeats 16000000 in
set_option maxRecDepth 100000 in
theorem refuses_lo_lo_ok (w : World) (sec i : Int) (s : ByteArray) (hs1 : -9223372036854775808 ≤ sec) (hs2 : sec ≤ 9223372036854775807) (hi1 : -9223372036854775808 ≤ i) (hi2 : i ≤ 9223372036854775807) (_hss : s.size ≤ 9223372036854775807) (hq : sec < 1) (hj : i < 0) (hsb : Hid (s.size = 64)) :
    Calls Try.prog 3 #[.int .i64 sec, .int .i64 i, .string s] w (RetB (.bool true) w) := by
  have hsec : Hid (sec < 1 ∨ 4096 < sec) := Lib.hid (.inl hq)
  have N3 : ∀ W : World, Calls Try.prog 9 #[.int .i64 3] W (NewPost 3 W) := fun W => new_any W 3 (by omega) (by omega)
  have hib : Hid (i < 0 ∨ 2 < i) := Lib.hid (.inl hj)
  obtain ⟨fx, hfx⟩ : ∃ fx : ByteArray, fx = ⟨(fullB 120).toArray⟩ := ⟨_, rfl⟩
  have FX : ∀ W : World, Calls Try.prog 13 #[.int .u8 120] W (RetB (.string fx) W) := fun W => by rw [hfx]; exact full_any W 120
  have RD : ∀ (W : World) (g gb gp gw K : Nat), DiskAt W g gb gp gw K (newS 3) → Calls Try.prog 11 #[.pointer (some ⟨g, 0, none⟩), .int .i64 i] W (RetB (.tuple #[.string ⟨#[]⟩, .int .i64 1]) W) := fun W g gb gp gw K h => read_is W g gb gp gw K _ h i hi1 hi2 [] 1 (t_read i hib.out) (t_check i hib.out) ⟨#[]⟩ rfl
  have WR : ∀ (W : World) (g gb gp gw K : Nat), K ≤ 100000 → DiskAt W g gb gp gw K (newS 3) → Calls Try.prog 12 #[.pointer (some ⟨g, 0, none⟩), .int .i64 i, .string fx] W (DPost (.int .i64 1) g gb gp gw (K + 1) (newS 3) W) := fun W g gb gp gw K hK h => by
    have := write_full W g gb gp gw K _ h hK i hi1 hi2 120 fx hfx 1 (t_we i hib.out _).1
    rwa [(t_we i hib.out _).2] at this
  have RT : ∀ (W : World) (g gb gp gw K : Nat), DiskAt W g gb gp gw K (newS 3) → Calls Try.prog 14 #[.pointer (some ⟨g, 0, none⟩), .int .i64 i, .int .i64 0] W (DPost (.int .i64 1) g gb gp gw K (newS 3) W) := fun W g gb gp gw K h => by
    have := rot_any W g gb gp gw K _ h i 0
    rwa [(t_rot i hib.out).1, (t_rot i hib.out).2] at this
  have WE : ∀ (W : World) (g gb gp gw K : Nat), K ≤ 100000 → DiskAt W g gb gp gw K (newS 3) → Calls Try.prog 15 #[.pointer (some ⟨g, 0, none⟩), .int .i64 i] W (DPost (.int .i64 1) g gb gp gw (K + 1) (newS 3) W) := fun W g gb gp gw K hK h => by
    have := wear_any W g gb gp gw K _ h hK i hi1 hi2
    rwa [(t_wear i hib.out).1, (t_wear i hib.out).2] at this
  clear hfx
  have x1 : ((s.size : Int) != 64) = false := by rw [bne_eq_false_iff_eq]; have := hsb.out; omega
  have x2 : ((s.size : Int) == 64) = true := by rw [beq_iff_eq]; have := hsb.out; omega
  go_enter Try.func3, Try.ntmps3
  go_wp2_with fail
  refine (sanity_any _).mono ?_
  rintro e w0 ⟨rfl, b0⟩
  have B0 := Lib.hid b0
  clear b0
  go_wp2_with fail
  refine (new_bad _ sec hs1 hs2 hsec.out).mono ?_
  rintro e wq ⟨rfl, rfl⟩
  go_wp2_with fail
  refine (N3 _).mono ?_
  rintro e w1 ⟨g, gb, gp, gw, rfl, d1, b1, l1, l2, l3, l4⟩
  have HF : Hid (∀ k, k ∈ [g, gb, gp, gw] → w.heap.size ≤ k) := Lib.hid (by
    intro k hk
    have hz := B0.out.size
    simp only [List.mem_cons, List.not_mem_nil, or_false] at hk
    rcases hk with rfl | rfl | rfl | rfl <;> omega)
  have D1 := Lib.hid d1
  have B1 := Lib.hid (B0.out.trans (b1.mono B0.out.size))
  have FLi : Hid (∀ k, k ∈ [g, gb, gp, gw] → k < w1.heap.size) := Lib.hid (by
    intro k hk
    have := d1.lt
    simp only [List.mem_cons, List.not_mem_nil, or_false] at hk
    rcases hk with rfl | rfl | rfl | rfl <;> omega)
  clear d1 b1 l1 l2 l3 l4 B0
  go_wp2_with fail
  refine (image_any _ g gb gp gw _ _ D1.out).mono ?_
  rintro e w2 ⟨A6, c6, rfl, i6, -, b2, li6⟩
  have D2 := Lib.hid (D1.out.below b2)
  have B2 := Lib.hid (B1.out.trans (b2.mono B1.out.size))
  clear D1 B1
  rw [t_len] at i6 ⊢
  have I6 := Lib.hid i6
  have LI6 : Hid (∀ b o, A6 = some ⟨b, o, none⟩ → b ∉ [g, gb, gp, gw]) := Lib.hid (fun b o e hm => by
    have h1 := li6 b o e
    have h2 := FLi.out b hm
    omega)
  have T2 : Hid (Keep [g, gb, gp, gw] w2 w2) := Lib.hid (Keep.refl _ _)
  clear i6 li6 b2 FLi
  go_wp2_with fail
  refine (RD _ g gb gp gw _ D2.out).mono ?_
  rintro e w3 ⟨rfl, b3⟩
  have D3 := Lib.hid (D2.out.below b3)
  have B3 := Lib.hid (B2.out.trans (b3.mono B2.out.size))
  have T3 := Lib.hid (T2.out.trans (Keep.of_below b3 [g, gb, gp, gw]))
  clear T2
  clear D2 B2
  clear b3
  go_wp2_with fail
  refine (FX _).mono ?_
  rintro e w4 ⟨rfl, b4⟩
  have D4 := Lib.hid (D3.out.below b4)
  have B4 := Lib.hid (B3.out.trans (b4.mono B3.out.size))
  have T4 := Lib.hid (T3.out.trans (Keep.of_below b4 [g, gb, gp, gw]))
  clear T3
  clear D3 B3
  clear b4
  go_wp2_with fail
  refine (WR _ g gb gp gw _ (by omega) D4.out).mono ?_
  rintro e w5 ⟨rfl, d5, k5⟩
  have D5 : Hid (DiskAt w5 g gb gp gw 1 (newS 3)) := Lib.hid d5
  have B5 := Lib.hid (B4.out.trans (k5.below B4.out.size HF.out))
  have T5 := Lib.hid (T4.out.trans k5)
  clear T4
  clear D4 B4 d5 k5
  go_wp2_with fail
  refine (RT _ g gb gp gw _ D5.out).mono ?_
  rintro e w6 ⟨rfl, d6, k6⟩
  have D6 : Hid (DiskAt w6 g gb gp gw 1 (newS 3)) := Lib.hid d6
  have B6 := Lib.hid (B5.out.trans (k6.below B5.out.size HF.out))
  have T6 := Lib.hid (T5.out.trans k6)
  clear T5
  clear D5 B5 d6 k6
  go_wp2_with fail
  refine (WE _ g gb gp gw _ (by omega) D6.out).mono ?_
  rintro e w7 ⟨rfl, d7, k7⟩
  have D7 : Hid (DiskAt w7 g gb gp gw 2 (newS 3)) := Lib.hid d7
  have B7 := Lib.hid (B6.out.trans (k7.below B6.out.size HF.out))
  have T7 := Lib.hid (T6.out.trans k7)
  clear T6
  clear D6 B6 d7 k7
  go_wp2_with fail
  refine (image_any _ g gb gp gw _ _ D7.out).mono ?_
  rintro e w8 ⟨A8, c8, rfl, i8, -, b8, -⟩
  have D8 := Lib.hid (D7.out.below b8)
  have B8 := Lib.hid (B7.out.trans (b8.mono B7.out.size))
  have T8 := Lib.hid (T7.out.trans (Keep.of_below b8 [g, gb, gp, gw]))
  clear T7
  clear D7 B7
  rw [t_len] at i8 ⊢
  have r6 := Rd.keepK I6.out T8.out LI6.out
  clear I6 LI6 b8 T8
  go_wp2_with fail
  refine (sameTexts_any _ _ 3 3 c6 c8 (newS 3).bl (newS 3).bl _ r6 i8 List.length_replicate List.length_replicate (by omega) true (Lib.hid (by simp))).mono ?_
  rintro e w9 ⟨rfl, b9⟩
  have D9 := Lib.hid (D8.out.below b9)
  have B9 := Lib.hid (B8.out.trans (b9.mono B8.out.size))
  clear D8 B8
  clear b9 r6 i8
  go_wp2_with fail
  refine (pending_any _ g gb gp gw _ _ D9.out (by omega)).mono ?_
  rintro e w10 ⟨v9, rfl, p9, b10⟩
  have D10 := Lib.hid (D9.out.below b10)
  have B10 := Lib.hid (B9.out.trans (b10.mono B9.out.size))
  clear D9 B9
  rw [t_keys.1] at p9
  obtain ⟨A9, c9, rfl, -⟩ := own_slice p9
  clear p9 b10
  go_wp2_with fail
  refine (worn_any _ g gb gp gw _ _ D10.out (by omega)).mono ?_
  rintro e w11 ⟨v10, rfl, p10, b11⟩
  have D11 := Lib.hid (D10.out.below b11)
  have B11 := Lib.hid (B10.out.trans (b11.mono B10.out.size))
  clear D10 B10
  rw [t_keys.2] at p10
  obtain ⟨A10, c10, rfl, -⟩ := own_slice p10
  clear p10 b11
  go_wp2_with fail
  go_ret
  exact ⟨rfl, B11.out⟩

set_option maxHeartbeats 16000000 in
set_option maxRecDepth 100000 in
theorem refuses_lo_hi_bad (w : World) (sec i : Int) (s : ByteArray) (hs1 : -9223372036854775808 ≤ sec) (hs2 : sec ≤ 9223372036854775807) (hi1 : -9223372036854775808 ≤ i) (hi2 : i ≤ 9223372036854775807) (hss : s.size ≤ 9223372036854775807) (hq : sec < 1) (hj : 2 < i) (hsb : Hid (s.size ≠ 64)) :
    Calls Try.prog 3 #[.int .i64 sec, .int .i64 i, .string s] w (RetB (.bool true) w) := by
  have hsec : Hid (sec < 1 ∨ 4096 < sec) := Lib.hid (.inl hq)
  have N3 : ∀ W : World, Calls Try.prog 9 #[.int .i64 3] W (NewPost 3 W) := fun W => new_any W 3 (by omega) (by omega)
  have hib : Hid (i < 0 ∨ 2 < i) := Lib.hid (.inr hj)
  have hj0 : decide (i < 0) = false := by simp; omega
  obtain ⟨fx, hfx⟩ : ∃ fx : ByteArray, fx = ⟨(fullB 120).toArray⟩ := ⟨_, rfl⟩
  have FX : ∀ W : World, Calls Try.prog 13 #[.int .u8 120] W (RetB (.string fx) W) := fun W => by rw [hfx]; exact full_any W 120
  have RD : ∀ (W : World) (g gb gp gw K : Nat), DiskAt W g gb gp gw K (newS 3) → Calls Try.prog 11 #[.pointer (some ⟨g, 0, none⟩), .int .i64 i] W (RetB (.tuple #[.string ⟨#[]⟩, .int .i64 1]) W) := fun W g gb gp gw K h => read_is W g gb gp gw K _ h i hi1 hi2 [] 1 (t_read i hib.out) (t_check i hib.out) ⟨#[]⟩ rfl
  have WR : ∀ (W : World) (g gb gp gw K : Nat), K ≤ 100000 → DiskAt W g gb gp gw K (newS 3) → Calls Try.prog 12 #[.pointer (some ⟨g, 0, none⟩), .int .i64 i, .string fx] W (DPost (.int .i64 1) g gb gp gw (K + 1) (newS 3) W) := fun W g gb gp gw K hK h => by
    have := write_full W g gb gp gw K _ h hK i hi1 hi2 120 fx hfx 1 (t_we i hib.out _).1
    rwa [(t_we i hib.out _).2] at this
  have RT : ∀ (W : World) (g gb gp gw K : Nat), DiskAt W g gb gp gw K (newS 3) → Calls Try.prog 14 #[.pointer (some ⟨g, 0, none⟩), .int .i64 i, .int .i64 0] W (DPost (.int .i64 1) g gb gp gw K (newS 3) W) := fun W g gb gp gw K h => by
    have := rot_any W g gb gp gw K _ h i 0
    rwa [(t_rot i hib.out).1, (t_rot i hib.out).2] at this
  have WE : ∀ (W : World) (g gb gp gw K : Nat), K ≤ 100000 → DiskAt W g gb gp gw K (newS 3) → Calls Try.prog 15 #[.pointer (some ⟨g, 0, none⟩), .int .i64 i] W (DPost (.int .i64 1) g gb gp gw (K + 1) (newS 3) W) := fun W g gb gp gw K hK h => by
    have := wear_any W g gb gp gw K _ h hK i hi1 hi2
    rwa [(t_wear i hib.out).1, (t_wear i hib.out).2] at this
  clear hfx
  have WS : ∀ (W : World) (g gb gp gw K : Nat), K ≤ 100000 → DiskAt W g gb gp gw K (newS 3) → Calls Try.prog 12 #[.pointer (some ⟨g, 0, none⟩), .int .i64 0, .string s] W (DPost (.int .i64 1) g gb gp gw (K + 1) (newS 3) W) := fun W g gb gp gw K hK h => by
    have := write_any W g gb gp gw K _ h hK 0 (by omega) (by omega) s hss
    have hl : s.data.toList.length ≠ 64 := by rw [show s.data.toList.length = s.size from by simp]; exact hsb.out
    rwa [(t_ws _ hl).1, (t_ws _ hl).2] at this
  have x1 : ((s.size : Int) != 64) = true := by rw [bne_iff_ne]; have := hsb.out; omega
  have x2 : ((s.size : Int) == 64) = false := beq_eq_false_iff_ne.2 (by have := hsb.out; omega)
  go_enter Try.func3, Try.ntmps3
  go_wp2_with fail
  refine (sanity_any _).mono ?_
  rintro e w0 ⟨rfl, b0⟩
  have B0 := Lib.hid b0
  clear b0
  go_wp2_with fail
  refine (new_bad _ sec hs1 hs2 hsec.out).mono ?_
  rintro e wq ⟨rfl, rfl⟩
  go_wp2_with fail
  refine (N3 _).mono ?_
  rintro e w1 ⟨g, gb, gp, gw, rfl, d1, b1, l1, l2, l3, l4⟩
  have HF : Hid (∀ k, k ∈ [g, gb, gp, gw] → w.heap.size ≤ k) := Lib.hid (by
    intro k hk
    have hz := B0.out.size
    simp only [List.mem_cons, List.not_mem_nil, or_false] at hk
    rcases hk with rfl | rfl | rfl | rfl <;> omega)
  have D1 := Lib.hid d1
  have B1 := Lib.hid (B0.out.trans (b1.mono B0.out.size))
  have FLi : Hid (∀ k, k ∈ [g, gb, gp, gw] → k < w1.heap.size) := Lib.hid (by
    intro k hk
    have := d1.lt
    simp only [List.mem_cons, List.not_mem_nil, or_false] at hk
    rcases hk with rfl | rfl | rfl | rfl <;> omega)
  clear d1 b1 l1 l2 l3 l4 B0
  go_wp2_with fail
  refine (image_any _ g gb gp gw _ _ D1.out).mono ?_
  rintro e w2 ⟨A6, c6, rfl, i6, -, b2, li6⟩
  have D2 := Lib.hid (D1.out.below b2)
  have B2 := Lib.hid (B1.out.trans (b2.mono B1.out.size))
  clear D1 B1
  rw [t_len] at i6 ⊢
  have I6 := Lib.hid i6
  have LI6 : Hid (∀ b o, A6 = some ⟨b, o, none⟩ → b ∉ [g, gb, gp, gw]) := Lib.hid (fun b o e hm => by
    have h1 := li6 b o e
    have h2 := FLi.out b hm
    omega)
  have T2 : Hid (Keep [g, gb, gp, gw] w2 w2) := Lib.hid (Keep.refl _ _)
  clear i6 li6 b2 FLi
  go_wp2_with fail
  refine (RD _ g gb gp gw _ D2.out).mono ?_
  rintro e w3 ⟨rfl, b3⟩
  have D3 := Lib.hid (D2.out.below b3)
  have B3 := Lib.hid (B2.out.trans (b3.mono B2.out.size))
  have T3 := Lib.hid (T2.out.trans (Keep.of_below b3 [g, gb, gp, gw]))
  clear T2
  clear D2 B2
  clear b3
  go_wp2_with fail
  refine (FX _).mono ?_
  rintro e w4 ⟨rfl, b4⟩
  have D4 := Lib.hid (D3.out.below b4)
  have B4 := Lib.hid (B3.out.trans (b4.mono B3.out.size))
  have T4 := Lib.hid (T3.out.trans (Keep.of_below b4 [g, gb, gp, gw]))
  clear T3
  clear D3 B3
  clear b4
  go_wp2_with fail
  refine (WR _ g gb gp gw _ (by omega) D4.out).mono ?_
  rintro e w5 ⟨rfl, d5, k5⟩
  have D5 : Hid (DiskAt w5 g gb gp gw 1 (newS 3)) := Lib.hid d5
  have B5 := Lib.hid (B4.out.trans (k5.below B4.out.size HF.out))
  have T5 := Lib.hid (T4.out.trans k5)
  clear T4
  clear D4 B4 d5 k5
  go_wp2_with fail
  refine (RT _ g gb gp gw _ D5.out).mono ?_
  rintro e w6 ⟨rfl, d6, k6⟩
  have D6 : Hid (DiskAt w6 g gb gp gw 1 (newS 3)) := Lib.hid d6
  have B6 := Lib.hid (B5.out.trans (k6.below B5.out.size HF.out))
  have T6 := Lib.hid (T5.out.trans k6)
  clear T5
  clear D5 B5 d6 k6
  go_wp2_with fail
  refine (WE _ g gb gp gw _ (by omega) D6.out).mono ?_
  rintro e w7 ⟨rfl, d7, k7⟩
  have D7 : Hid (DiskAt w7 g gb gp gw 2 (newS 3)) := Lib.hid d7
  have B7 := Lib.hid (B6.out.trans (k7.below B6.out.size HF.out))
  have T7 := Lib.hid (T6.out.trans k7)
  clear T6
  clear D6 B6 d7 k7
  go_wp2_with fail
  refine (WS _ g gb gp gw _ (by omega) D7.out).mono ?_
  rintro e w8 ⟨rfl, d8, k8⟩
  have D8 : Hid (DiskAt w8 g gb gp gw 3 (newS 3)) := Lib.hid d8
  have B8 := Lib.hid (B7.out.trans (k8.below B7.out.size HF.out))
  have T8 := Lib.hid (T7.out.trans k8)
  clear T7
  clear D7 B7 d8 k8
  go_wp2_with fail
  refine (image_any _ g gb gp gw _ _ D8.out).mono ?_
  rintro e w9 ⟨A8, c8, rfl, i8, -, b9, -⟩
  have D9 := Lib.hid (D8.out.below b9)
  have B9 := Lib.hid (B8.out.trans (b9.mono B8.out.size))
  have T9 := Lib.hid (T8.out.trans (Keep.of_below b9 [g, gb, gp, gw]))
  clear T8
  clear D8 B8
  rw [t_len] at i8 ⊢
  have r6 := Rd.keepK I6.out T9.out LI6.out
  clear I6 LI6 b9 T9
  go_wp2_with fail
  refine (sameTexts_any _ _ 3 3 c6 c8 (newS 3).bl (newS 3).bl _ r6 i8 List.length_replicate List.length_replicate (by omega) true (Lib.hid (by simp))).mono ?_
  rintro e w10 ⟨rfl, b10⟩
  have D10 := Lib.hid (D9.out.below b10)
  have B10 := Lib.hid (B9.out.trans (b10.mono B9.out.size))
  clear D9 B9
  clear b10 r6 i8
  go_wp2_with fail
  refine (pending_any _ g gb gp gw _ _ D10.out (by omega)).mono ?_
  rintro e w11 ⟨v9, rfl, p9, b11⟩
  have D11 := Lib.hid (D10.out.below b11)
  have B11 := Lib.hid (B10.out.trans (b11.mono B10.out.size))
  clear D10 B10
  rw [t_keys.1] at p9
  obtain ⟨A9, c9, rfl, -⟩ := own_slice p9
  clear p9 b11
  go_wp2_with fail
  refine (worn_any _ g gb gp gw _ _ D11.out (by omega)).mono ?_
  rintro e w12 ⟨v10, rfl, p10, b12⟩
  have D12 := Lib.hid (D11.out.below b12)
  have B12 := Lib.hid (B11.out.trans (b12.mono B11.out.size))
  clear D11 B11
  rw [t_keys.2] at p10
  obtain ⟨A10, c10, rfl, -⟩ := own_slice p10
  clear p10 b12
  go_wp2_with fail
  go_ret
  exact ⟨rfl, B12.out⟩

set_option maxHeartbeats 16000000 in
set_option maxRecDepth 100000 in
theorem refuses_lo_hi_ok (w : World) (sec i : Int) (s : ByteArray) (hs1 : -9223372036854775808 ≤ sec) (hs2 : sec ≤ 9223372036854775807) (hi1 : -9223372036854775808 ≤ i) (hi2 : i ≤ 9223372036854775807) (_hss : s.size ≤ 9223372036854775807) (hq : sec < 1) (hj : 2 < i) (hsb : Hid (s.size = 64)) :
    Calls Try.prog 3 #[.int .i64 sec, .int .i64 i, .string s] w (RetB (.bool true) w) := by
  have hsec : Hid (sec < 1 ∨ 4096 < sec) := Lib.hid (.inl hq)
  have N3 : ∀ W : World, Calls Try.prog 9 #[.int .i64 3] W (NewPost 3 W) := fun W => new_any W 3 (by omega) (by omega)
  have hib : Hid (i < 0 ∨ 2 < i) := Lib.hid (.inr hj)
  have hj0 : decide (i < 0) = false := by simp; omega
  obtain ⟨fx, hfx⟩ : ∃ fx : ByteArray, fx = ⟨(fullB 120).toArray⟩ := ⟨_, rfl⟩
  have FX : ∀ W : World, Calls Try.prog 13 #[.int .u8 120] W (RetB (.string fx) W) := fun W => by rw [hfx]; exact full_any W 120
  have RD : ∀ (W : World) (g gb gp gw K : Nat), DiskAt W g gb gp gw K (newS 3) → Calls Try.prog 11 #[.pointer (some ⟨g, 0, none⟩), .int .i64 i] W (RetB (.tuple #[.string ⟨#[]⟩, .int .i64 1]) W) := fun W g gb gp gw K h => read_is W g gb gp gw K _ h i hi1 hi2 [] 1 (t_read i hib.out) (t_check i hib.out) ⟨#[]⟩ rfl
  have WR : ∀ (W : World) (g gb gp gw K : Nat), K ≤ 100000 → DiskAt W g gb gp gw K (newS 3) → Calls Try.prog 12 #[.pointer (some ⟨g, 0, none⟩), .int .i64 i, .string fx] W (DPost (.int .i64 1) g gb gp gw (K + 1) (newS 3) W) := fun W g gb gp gw K hK h => by
    have := write_full W g gb gp gw K _ h hK i hi1 hi2 120 fx hfx 1 (t_we i hib.out _).1
    rwa [(t_we i hib.out _).2] at this
  have RT : ∀ (W : World) (g gb gp gw K : Nat), DiskAt W g gb gp gw K (newS 3) → Calls Try.prog 14 #[.pointer (some ⟨g, 0, none⟩), .int .i64 i, .int .i64 0] W (DPost (.int .i64 1) g gb gp gw K (newS 3) W) := fun W g gb gp gw K h => by
    have := rot_any W g gb gp gw K _ h i 0
    rwa [(t_rot i hib.out).1, (t_rot i hib.out).2] at this
  have WE : ∀ (W : World) (g gb gp gw K : Nat), K ≤ 100000 → DiskAt W g gb gp gw K (newS 3) → Calls Try.prog 15 #[.pointer (some ⟨g, 0, none⟩), .int .i64 i] W (DPost (.int .i64 1) g gb gp gw (K + 1) (newS 3) W) := fun W g gb gp gw K hK h => by
    have := wear_any W g gb gp gw K _ h hK i hi1 hi2
    rwa [(t_wear i hib.out).1, (t_wear i hib.out).2] at this
  clear hfx
  have x1 : ((s.size : Int) != 64) = false := by rw [bne_eq_false_iff_eq]; have := hsb.out; omega
  have x2 : ((s.size : Int) == 64) = true := by rw [beq_iff_eq]; have := hsb.out; omega
  go_enter Try.func3, Try.ntmps3
  go_wp2_with fail
  refine (sanity_any _).mono ?_
  rintro e w0 ⟨rfl, b0⟩
  have B0 := Lib.hid b0
  clear b0
  go_wp2_with fail
  refine (new_bad _ sec hs1 hs2 hsec.out).mono ?_
  rintro e wq ⟨rfl, rfl⟩
  go_wp2_with fail
  refine (N3 _).mono ?_
  rintro e w1 ⟨g, gb, gp, gw, rfl, d1, b1, l1, l2, l3, l4⟩
  have HF : Hid (∀ k, k ∈ [g, gb, gp, gw] → w.heap.size ≤ k) := Lib.hid (by
    intro k hk
    have hz := B0.out.size
    simp only [List.mem_cons, List.not_mem_nil, or_false] at hk
    rcases hk with rfl | rfl | rfl | rfl <;> omega)
  have D1 := Lib.hid d1
  have B1 := Lib.hid (B0.out.trans (b1.mono B0.out.size))
  have FLi : Hid (∀ k, k ∈ [g, gb, gp, gw] → k < w1.heap.size) := Lib.hid (by
    intro k hk
    have := d1.lt
    simp only [List.mem_cons, List.not_mem_nil, or_false] at hk
    rcases hk with rfl | rfl | rfl | rfl <;> omega)
  clear d1 b1 l1 l2 l3 l4 B0
  go_wp2_with fail
  refine (image_any _ g gb gp gw _ _ D1.out).mono ?_
  rintro e w2 ⟨A6, c6, rfl, i6, -, b2, li6⟩
  have D2 := Lib.hid (D1.out.below b2)
  have B2 := Lib.hid (B1.out.trans (b2.mono B1.out.size))
  clear D1 B1
  rw [t_len] at i6 ⊢
  have I6 := Lib.hid i6
  have LI6 : Hid (∀ b o, A6 = some ⟨b, o, none⟩ → b ∉ [g, gb, gp, gw]) := Lib.hid (fun b o e hm => by
    have h1 := li6 b o e
    have h2 := FLi.out b hm
    omega)
  have T2 : Hid (Keep [g, gb, gp, gw] w2 w2) := Lib.hid (Keep.refl _ _)
  clear i6 li6 b2 FLi
  go_wp2_with fail
  refine (RD _ g gb gp gw _ D2.out).mono ?_
  rintro e w3 ⟨rfl, b3⟩
  have D3 := Lib.hid (D2.out.below b3)
  have B3 := Lib.hid (B2.out.trans (b3.mono B2.out.size))
  have T3 := Lib.hid (T2.out.trans (Keep.of_below b3 [g, gb, gp, gw]))
  clear T2
  clear D2 B2
  clear b3
  go_wp2_with fail
  refine (FX _).mono ?_
  rintro e w4 ⟨rfl, b4⟩
  have D4 := Lib.hid (D3.out.below b4)
  have B4 := Lib.hid (B3.out.trans (b4.mono B3.out.size))
  have T4 := Lib.hid (T3.out.trans (Keep.of_below b4 [g, gb, gp, gw]))
  clear T3
  clear D3 B3
  clear b4
  go_wp2_with fail
  refine (WR _ g gb gp gw _ (by omega) D4.out).mono ?_
  rintro e w5 ⟨rfl, d5, k5⟩
  have D5 : Hid (DiskAt w5 g gb gp gw 1 (newS 3)) := Lib.hid d5
  have B5 := Lib.hid (B4.out.trans (k5.below B4.out.size HF.out))
  have T5 := Lib.hid (T4.out.trans k5)
  clear T4
  clear D4 B4 d5 k5
  go_wp2_with fail
  refine (RT _ g gb gp gw _ D5.out).mono ?_
  rintro e w6 ⟨rfl, d6, k6⟩
  have D6 : Hid (DiskAt w6 g gb gp gw 1 (newS 3)) := Lib.hid d6
  have B6 := Lib.hid (B5.out.trans (k6.below B5.out.size HF.out))
  have T6 := Lib.hid (T5.out.trans k6)
  clear T5
  clear D5 B5 d6 k6
  go_wp2_with fail
  refine (WE _ g gb gp gw _ (by omega) D6.out).mono ?_
  rintro e w7 ⟨rfl, d7, k7⟩
  have D7 : Hid (DiskAt w7 g gb gp gw 2 (newS 3)) := Lib.hid d7
  have B7 := Lib.hid (B6.out.trans (k7.below B6.out.size HF.out))
  have T7 := Lib.hid (T6.out.trans k7)
  clear T6
  clear D6 B6 d7 k7
  go_wp2_with fail
  refine (image_any _ g gb gp gw _ _ D7.out).mono ?_
  rintro e w8 ⟨A8, c8, rfl, i8, -, b8, -⟩
  have D8 := Lib.hid (D7.out.below b8)
  have B8 := Lib.hid (B7.out.trans (b8.mono B7.out.size))
  have T8 := Lib.hid (T7.out.trans (Keep.of_below b8 [g, gb, gp, gw]))
  clear T7
  clear D7 B7
  rw [t_len] at i8 ⊢
  have r6 := Rd.keepK I6.out T8.out LI6.out
  clear I6 LI6 b8 T8
  go_wp2_with fail
  refine (sameTexts_any _ _ 3 3 c6 c8 (newS 3).bl (newS 3).bl _ r6 i8 List.length_replicate List.length_replicate (by omega) true (Lib.hid (by simp))).mono ?_
  rintro e w9 ⟨rfl, b9⟩
  have D9 := Lib.hid (D8.out.below b9)
  have B9 := Lib.hid (B8.out.trans (b9.mono B8.out.size))
  clear D8 B8
  clear b9 r6 i8
  go_wp2_with fail
  refine (pending_any _ g gb gp gw _ _ D9.out (by omega)).mono ?_
  rintro e w10 ⟨v9, rfl, p9, b10⟩
  have D10 := Lib.hid (D9.out.below b10)
  have B10 := Lib.hid (B9.out.trans (b10.mono B9.out.size))
  clear D9 B9
  rw [t_keys.1] at p9
  obtain ⟨A9, c9, rfl, -⟩ := own_slice p9
  clear p9 b10
  go_wp2_with fail
  refine (worn_any _ g gb gp gw _ _ D10.out (by omega)).mono ?_
  rintro e w11 ⟨v10, rfl, p10, b11⟩
  have D11 := Lib.hid (D10.out.below b11)
  have B11 := Lib.hid (B10.out.trans (b11.mono B10.out.size))
  clear D10 B10
  rw [t_keys.2] at p10
  obtain ⟨A10, c10, rfl, -⟩ := own_slice p10
  clear p10 b11
  go_wp2_with fail
  go_ret
  exact ⟨rfl, B11.out⟩

set_option maxHeartbeats 16000000 in
set_option maxRecDepth 100000 in
theorem refuses_lo_in_bad (w : World) (sec i : Int) (s : ByteArray) (hs1 : -9223372036854775808 ≤ sec) (hs2 : sec ≤ 9223372036854775807) (_hi1 : -9223372036854775808 ≤ i) (_hi2 : i ≤ 9223372036854775807) (hss : s.size ≤ 9223372036854775807) (hq : sec < 1) (hj : 0 ≤ i ∧ i ≤ 2) (hsb : Hid (s.size ≠ 64)) :
    Calls Try.prog 3 #[.int .i64 sec, .int .i64 i, .string s] w (RetB (.bool true) w) := by
  have hsec : Hid (sec < 1 ∨ 4096 < sec) := Lib.hid (.inl hq)
  have N3 : ∀ W : World, Calls Try.prog 9 #[.int .i64 3] W (NewPost 3 W) := fun W => new_any W 3 (by omega) (by omega)
  obtain ⟨hj1, hj2⟩ := hj
  have e3 : decide (i < 0) = false := by simp; omega
  have e4 : decide (2 < i) = false := by simp; omega
  have WS : ∀ (W : World) (g gb gp gw K : Nat), K ≤ 100000 → DiskAt W g gb gp gw K (newS 3) → Calls Try.prog 12 #[.pointer (some ⟨g, 0, none⟩), .int .i64 0, .string s] W (DPost (.int .i64 1) g gb gp gw (K + 1) (newS 3) W) := fun W g gb gp gw K hK h => by
    have := write_any W g gb gp gw K _ h hK 0 (by omega) (by omega) s hss
    have hl : s.data.toList.length ≠ 64 := by rw [show s.data.toList.length = s.size from by simp]; exact hsb.out
    rwa [(t_ws _ hl).1, (t_ws _ hl).2] at this
  have x1 : ((s.size : Int) != 64) = true := by rw [bne_iff_ne]; have := hsb.out; omega
  have x2 : ((s.size : Int) == 64) = false := beq_eq_false_iff_ne.2 (by have := hsb.out; omega)
  go_enter Try.func3, Try.ntmps3
  go_wp2_with fail
  refine (sanity_any _).mono ?_
  rintro e w0 ⟨rfl, b0⟩
  have B0 := Lib.hid b0
  clear b0
  go_wp2_with fail
  refine (new_bad _ sec hs1 hs2 hsec.out).mono ?_
  rintro e wq ⟨rfl, rfl⟩
  go_wp2_with fail
  refine (N3 _).mono ?_
  rintro e w1 ⟨g, gb, gp, gw, rfl, d1, b1, l1, l2, l3, l4⟩
  have HF : Hid (∀ k, k ∈ [g, gb, gp, gw] → w.heap.size ≤ k) := Lib.hid (by
    intro k hk
    have hz := B0.out.size
    simp only [List.mem_cons, List.not_mem_nil, or_false] at hk
    rcases hk with rfl | rfl | rfl | rfl <;> omega)
  have D1 := Lib.hid d1
  have B1 := Lib.hid (B0.out.trans (b1.mono B0.out.size))
  have FLi : Hid (∀ k, k ∈ [g, gb, gp, gw] → k < w1.heap.size) := Lib.hid (by
    intro k hk
    have := d1.lt
    simp only [List.mem_cons, List.not_mem_nil, or_false] at hk
    rcases hk with rfl | rfl | rfl | rfl <;> omega)
  clear d1 b1 l1 l2 l3 l4 B0
  go_wp2_with fail
  refine (image_any _ g gb gp gw _ _ D1.out).mono ?_
  rintro e w2 ⟨A6, c6, rfl, i6, -, b2, li6⟩
  have D2 := Lib.hid (D1.out.below b2)
  have B2 := Lib.hid (B1.out.trans (b2.mono B1.out.size))
  clear D1 B1
  rw [t_len] at i6 ⊢
  have I6 := Lib.hid i6
  have LI6 : Hid (∀ b o, A6 = some ⟨b, o, none⟩ → b ∉ [g, gb, gp, gw]) := Lib.hid (fun b o e hm => by
    have h1 := li6 b o e
    have h2 := FLi.out b hm
    omega)
  have T2 : Hid (Keep [g, gb, gp, gw] w2 w2) := Lib.hid (Keep.refl _ _)
  clear i6 li6 b2 FLi
  go_wp2_with fail
  refine (WS _ g gb gp gw _ (by omega) D2.out).mono ?_
  rintro e w3 ⟨rfl, d3, k3⟩
  have D3 : Hid (DiskAt w3 g gb gp gw 1 (newS 3)) := Lib.hid d3
  have B3 := Lib.hid (B2.out.trans (k3.below B2.out.size HF.out))
  have T3 := Lib.hid (T2.out.trans k3)
  clear T2
  clear D2 B2 d3 k3
  go_wp2_with fail
  refine (image_any _ g gb gp gw _ _ D3.out).mono ?_
  rintro e w4 ⟨A8, c8, rfl, i8, -, b4, -⟩
  have D4 := Lib.hid (D3.out.below b4)
  have B4 := Lib.hid (B3.out.trans (b4.mono B3.out.size))
  have T4 := Lib.hid (T3.out.trans (Keep.of_below b4 [g, gb, gp, gw]))
  clear T3
  clear D3 B3
  rw [t_len] at i8 ⊢
  have r6 := Rd.keepK I6.out T4.out LI6.out
  clear I6 LI6 b4 T4
  go_wp2_with fail
  refine (sameTexts_any _ _ 3 3 c6 c8 (newS 3).bl (newS 3).bl _ r6 i8 List.length_replicate List.length_replicate (by omega) true (Lib.hid (by simp))).mono ?_
  rintro e w5 ⟨rfl, b5⟩
  have D5 := Lib.hid (D4.out.below b5)
  have B5 := Lib.hid (B4.out.trans (b5.mono B4.out.size))
  clear D4 B4
  clear b5 r6 i8
  go_wp2_with fail
  refine (pending_any _ g gb gp gw _ _ D5.out (by omega)).mono ?_
  rintro e w6 ⟨v9, rfl, p9, b6⟩
  have D6 := Lib.hid (D5.out.below b6)
  have B6 := Lib.hid (B5.out.trans (b6.mono B5.out.size))
  clear D5 B5
  rw [t_keys.1] at p9
  obtain ⟨A9, c9, rfl, -⟩ := own_slice p9
  clear p9 b6
  go_wp2_with fail
  refine (worn_any _ g gb gp gw _ _ D6.out (by omega)).mono ?_
  rintro e w7 ⟨v10, rfl, p10, b7⟩
  have D7 := Lib.hid (D6.out.below b7)
  have B7 := Lib.hid (B6.out.trans (b7.mono B6.out.size))
  clear D6 B6
  rw [t_keys.2] at p10
  obtain ⟨A10, c10, rfl, -⟩ := own_slice p10
  clear p10 b7
  go_wp2_with fail
  go_ret
  exact ⟨rfl, B7.out⟩

set_option maxHeartbeats 16000000 in
set_option maxRecDepth 100000 in
theorem refuses_lo_in_ok (w : World) (sec i : Int) (s : ByteArray) (hs1 : -9223372036854775808 ≤ sec) (hs2 : sec ≤ 9223372036854775807) (_hi1 : -9223372036854775808 ≤ i) (_hi2 : i ≤ 9223372036854775807) (_hss : s.size ≤ 9223372036854775807) (hq : sec < 1) (hj : 0 ≤ i ∧ i ≤ 2) (hsb : Hid (s.size = 64)) :
    Calls Try.prog 3 #[.int .i64 sec, .int .i64 i, .string s] w (RetB (.bool true) w) := by
  have hsec : Hid (sec < 1 ∨ 4096 < sec) := Lib.hid (.inl hq)
  have N3 : ∀ W : World, Calls Try.prog 9 #[.int .i64 3] W (NewPost 3 W) := fun W => new_any W 3 (by omega) (by omega)
  obtain ⟨hj1, hj2⟩ := hj
  have e3 : decide (i < 0) = false := by simp; omega
  have e4 : decide (2 < i) = false := by simp; omega
  have x1 : ((s.size : Int) != 64) = false := by rw [bne_eq_false_iff_eq]; have := hsb.out; omega
  have x2 : ((s.size : Int) == 64) = true := by rw [beq_iff_eq]; have := hsb.out; omega
  go_enter Try.func3, Try.ntmps3
  go_wp2_with fail
  refine (sanity_any _).mono ?_
  rintro e w0 ⟨rfl, b0⟩
  have B0 := Lib.hid b0
  clear b0
  go_wp2_with fail
  refine (new_bad _ sec hs1 hs2 hsec.out).mono ?_
  rintro e wq ⟨rfl, rfl⟩
  go_wp2_with fail
  refine (N3 _).mono ?_
  rintro e w1 ⟨g, gb, gp, gw, rfl, d1, b1, l1, l2, l3, l4⟩
  have HF : Hid (∀ k, k ∈ [g, gb, gp, gw] → w.heap.size ≤ k) := Lib.hid (by
    intro k hk
    have hz := B0.out.size
    simp only [List.mem_cons, List.not_mem_nil, or_false] at hk
    rcases hk with rfl | rfl | rfl | rfl <;> omega)
  have D1 := Lib.hid d1
  have B1 := Lib.hid (B0.out.trans (b1.mono B0.out.size))
  have FLi : Hid (∀ k, k ∈ [g, gb, gp, gw] → k < w1.heap.size) := Lib.hid (by
    intro k hk
    have := d1.lt
    simp only [List.mem_cons, List.not_mem_nil, or_false] at hk
    rcases hk with rfl | rfl | rfl | rfl <;> omega)
  clear d1 b1 l1 l2 l3 l4 B0
  go_wp2_with fail
  refine (image_any _ g gb gp gw _ _ D1.out).mono ?_
  rintro e w2 ⟨A6, c6, rfl, i6, -, b2, li6⟩
  have D2 := Lib.hid (D1.out.below b2)
  have B2 := Lib.hid (B1.out.trans (b2.mono B1.out.size))
  clear D1 B1
  rw [t_len] at i6 ⊢
  have I6 := Lib.hid i6
  have LI6 : Hid (∀ b o, A6 = some ⟨b, o, none⟩ → b ∉ [g, gb, gp, gw]) := Lib.hid (fun b o e hm => by
    have h1 := li6 b o e
    have h2 := FLi.out b hm
    omega)
  have T2 : Hid (Keep [g, gb, gp, gw] w2 w2) := Lib.hid (Keep.refl _ _)
  clear i6 li6 b2 FLi
  go_wp2_with fail
  refine (image_any _ g gb gp gw _ _ D2.out).mono ?_
  rintro e w3 ⟨A8, c8, rfl, i8, -, b3, -⟩
  have D3 := Lib.hid (D2.out.below b3)
  have B3 := Lib.hid (B2.out.trans (b3.mono B2.out.size))
  have T3 := Lib.hid (T2.out.trans (Keep.of_below b3 [g, gb, gp, gw]))
  clear T2
  clear D2 B2
  rw [t_len] at i8 ⊢
  have r6 := Rd.keepK I6.out T3.out LI6.out
  clear I6 LI6 b3 T3
  go_wp2_with fail
  refine (sameTexts_any _ _ 3 3 c6 c8 (newS 3).bl (newS 3).bl _ r6 i8 List.length_replicate List.length_replicate (by omega) true (Lib.hid (by simp))).mono ?_
  rintro e w4 ⟨rfl, b4⟩
  have D4 := Lib.hid (D3.out.below b4)
  have B4 := Lib.hid (B3.out.trans (b4.mono B3.out.size))
  clear D3 B3
  clear b4 r6 i8
  go_wp2_with fail
  refine (pending_any _ g gb gp gw _ _ D4.out (by omega)).mono ?_
  rintro e w5 ⟨v9, rfl, p9, b5⟩
  have D5 := Lib.hid (D4.out.below b5)
  have B5 := Lib.hid (B4.out.trans (b5.mono B4.out.size))
  clear D4 B4
  rw [t_keys.1] at p9
  obtain ⟨A9, c9, rfl, -⟩ := own_slice p9
  clear p9 b5
  go_wp2_with fail
  refine (worn_any _ g gb gp gw _ _ D5.out (by omega)).mono ?_
  rintro e w6 ⟨v10, rfl, p10, b6⟩
  have D6 := Lib.hid (D5.out.below b6)
  have B6 := Lib.hid (B5.out.trans (b6.mono B5.out.size))
  clear D5 B5
  rw [t_keys.2] at p10
  obtain ⟨A10, c10, rfl, -⟩ := own_slice p10
  clear p10 b6
  go_wp2_with fail
  go_ret
  exact ⟨rfl, B6.out⟩

set_option maxHeartbeats 16000000 in
set_option maxRecDepth 100000 in
theorem refuses_hi_lo_bad (w : World) (sec i : Int) (s : ByteArray) (hs1 : -9223372036854775808 ≤ sec) (hs2 : sec ≤ 9223372036854775807) (hi1 : -9223372036854775808 ≤ i) (hi2 : i ≤ 9223372036854775807) (hss : s.size ≤ 9223372036854775807) (hq : 4096 < sec) (hj : i < 0) (hsb : Hid (s.size ≠ 64)) :
    Calls Try.prog 3 #[.int .i64 sec, .int .i64 i, .string s] w (RetB (.bool true) w) := by
  have hsec : Hid (sec < 1 ∨ 4096 < sec) := Lib.hid (.inr hq)
  have hq0 : decide (sec < 1) = false := by simp; omega
  have N3 : ∀ W : World, Calls Try.prog 9 #[.int .i64 3] W (NewPost 3 W) := fun W => new_any W 3 (by omega) (by omega)
  have hib : Hid (i < 0 ∨ 2 < i) := Lib.hid (.inl hj)
  obtain ⟨fx, hfx⟩ : ∃ fx : ByteArray, fx = ⟨(fullB 120).toArray⟩ := ⟨_, rfl⟩
  have FX : ∀ W : World, Calls Try.prog 13 #[.int .u8 120] W (RetB (.string fx) W) := fun W => by rw [hfx]; exact full_any W 120
  have RD : ∀ (W : World) (g gb gp gw K : Nat), DiskAt W g gb gp gw K (newS 3) → Calls Try.prog 11 #[.pointer (some ⟨g, 0, none⟩), .int .i64 i] W (RetB (.tuple #[.string ⟨#[]⟩, .int .i64 1]) W) := fun W g gb gp gw K h => read_is W g gb gp gw K _ h i hi1 hi2 [] 1 (t_read i hib.out) (t_check i hib.out) ⟨#[]⟩ rfl
  have WR : ∀ (W : World) (g gb gp gw K : Nat), K ≤ 100000 → DiskAt W g gb gp gw K (newS 3) → Calls Try.prog 12 #[.pointer (some ⟨g, 0, none⟩), .int .i64 i, .string fx] W (DPost (.int .i64 1) g gb gp gw (K + 1) (newS 3) W) := fun W g gb gp gw K hK h => by
    have := write_full W g gb gp gw K _ h hK i hi1 hi2 120 fx hfx 1 (t_we i hib.out _).1
    rwa [(t_we i hib.out _).2] at this
  have RT : ∀ (W : World) (g gb gp gw K : Nat), DiskAt W g gb gp gw K (newS 3) → Calls Try.prog 14 #[.pointer (some ⟨g, 0, none⟩), .int .i64 i, .int .i64 0] W (DPost (.int .i64 1) g gb gp gw K (newS 3) W) := fun W g gb gp gw K h => by
    have := rot_any W g gb gp gw K _ h i 0
    rwa [(t_rot i hib.out).1, (t_rot i hib.out).2] at this
  have WE : ∀ (W : World) (g gb gp gw K : Nat), K ≤ 100000 → DiskAt W g gb gp gw K (newS 3) → Calls Try.prog 15 #[.pointer (some ⟨g, 0, none⟩), .int .i64 i] W (DPost (.int .i64 1) g gb gp gw (K + 1) (newS 3) W) := fun W g gb gp gw K hK h => by
    have := wear_any W g gb gp gw K _ h hK i hi1 hi2
    rwa [(t_wear i hib.out).1, (t_wear i hib.out).2] at this
  clear hfx
  have WS : ∀ (W : World) (g gb gp gw K : Nat), K ≤ 100000 → DiskAt W g gb gp gw K (newS 3) → Calls Try.prog 12 #[.pointer (some ⟨g, 0, none⟩), .int .i64 0, .string s] W (DPost (.int .i64 1) g gb gp gw (K + 1) (newS 3) W) := fun W g gb gp gw K hK h => by
    have := write_any W g gb gp gw K _ h hK 0 (by omega) (by omega) s hss
    have hl : s.data.toList.length ≠ 64 := by rw [show s.data.toList.length = s.size from by simp]; exact hsb.out
    rwa [(t_ws _ hl).1, (t_ws _ hl).2] at this
  have x1 : ((s.size : Int) != 64) = true := by rw [bne_iff_ne]; have := hsb.out; omega
  have x2 : ((s.size : Int) == 64) = false := beq_eq_false_iff_ne.2 (by have := hsb.out; omega)
  go_enter Try.func3, Try.ntmps3
  go_wp2_with fail
  refine (sanity_any _).mono ?_
  rintro e w0 ⟨rfl, b0⟩
  have B0 := Lib.hid b0
  clear b0
  go_wp2_with fail
  refine (new_bad _ sec hs1 hs2 hsec.out).mono ?_
  rintro e wq ⟨rfl, rfl⟩
  go_wp2_with fail
  refine (N3 _).mono ?_
  rintro e w1 ⟨g, gb, gp, gw, rfl, d1, b1, l1, l2, l3, l4⟩
  have HF : Hid (∀ k, k ∈ [g, gb, gp, gw] → w.heap.size ≤ k) := Lib.hid (by
    intro k hk
    have hz := B0.out.size
    simp only [List.mem_cons, List.not_mem_nil, or_false] at hk
    rcases hk with rfl | rfl | rfl | rfl <;> omega)
  have D1 := Lib.hid d1
  have B1 := Lib.hid (B0.out.trans (b1.mono B0.out.size))
  have FLi : Hid (∀ k, k ∈ [g, gb, gp, gw] → k < w1.heap.size) := Lib.hid (by
    intro k hk
    have := d1.lt
    simp only [List.mem_cons, List.not_mem_nil, or_false] at hk
    rcases hk with rfl | rfl | rfl | rfl <;> omega)
  clear d1 b1 l1 l2 l3 l4 B0
  go_wp2_with fail
  refine (image_any _ g gb gp gw _ _ D1.out).mono ?_
  rintro e w2 ⟨A6, c6, rfl, i6, -, b2, li6⟩
  have D2 := Lib.hid (D1.out.below b2)
  have B2 := Lib.hid (B1.out.trans (b2.mono B1.out.size))
  clear D1 B1
  rw [t_len] at i6 ⊢
  have I6 := Lib.hid i6
  have LI6 : Hid (∀ b o, A6 = some ⟨b, o, none⟩ → b ∉ [g, gb, gp, gw]) := Lib.hid (fun b o e hm => by
    have h1 := li6 b o e
    have h2 := FLi.out b hm
    omega)
  have T2 : Hid (Keep [g, gb, gp, gw] w2 w2) := Lib.hid (Keep.refl _ _)
  clear i6 li6 b2 FLi
  go_wp2_with fail
  refine (RD _ g gb gp gw _ D2.out).mono ?_
  rintro e w3 ⟨rfl, b3⟩
  have D3 := Lib.hid (D2.out.below b3)
  have B3 := Lib.hid (B2.out.trans (b3.mono B2.out.size))
  have T3 := Lib.hid (T2.out.trans (Keep.of_below b3 [g, gb, gp, gw]))
  clear T2
  clear D2 B2
  clear b3
  go_wp2_with fail
  refine (FX _).mono ?_
  rintro e w4 ⟨rfl, b4⟩
  have D4 := Lib.hid (D3.out.below b4)
  have B4 := Lib.hid (B3.out.trans (b4.mono B3.out.size))
  have T4 := Lib.hid (T3.out.trans (Keep.of_below b4 [g, gb, gp, gw]))
  clear T3
  clear D3 B3
  clear b4
  go_wp2_with fail
  refine (WR _ g gb gp gw _ (by omega) D4.out).mono ?_
  rintro e w5 ⟨rfl, d5, k5⟩
  have D5 : Hid (DiskAt w5 g gb gp gw 1 (newS 3)) := Lib.hid d5
  have B5 := Lib.hid (B4.out.trans (k5.below B4.out.size HF.out))
  have T5 := Lib.hid (T4.out.trans k5)
  clear T4
  clear D4 B4 d5 k5
  go_wp2_with fail
  refine (RT _ g gb gp gw _ D5.out).mono ?_
  rintro e w6 ⟨rfl, d6, k6⟩
  have D6 : Hid (DiskAt w6 g gb gp gw 1 (newS 3)) := Lib.hid d6
  have B6 := Lib.hid (B5.out.trans (k6.below B5.out.size HF.out))
  have T6 := Lib.hid (T5.out.trans k6)
  clear T5
  clear D5 B5 d6 k6
  go_wp2_with fail
  refine (WE _ g gb gp gw _ (by omega) D6.out).mono ?_
  rintro e w7 ⟨rfl, d7, k7⟩
  have D7 : Hid (DiskAt w7 g gb gp gw 2 (newS 3)) := Lib.hid d7
  have B7 := Lib.hid (B6.out.trans (k7.below B6.out.size HF.out))
  have T7 := Lib.hid (T6.out.trans k7)
  clear T6
  clear D6 B6 d7 k7
  go_wp2_with fail
  refine (WS _ g gb gp gw _ (by omega) D7.out).mono ?_
  rintro e w8 ⟨rfl, d8, k8⟩
  have D8 : Hid (DiskAt w8 g gb gp gw 3 (newS 3)) := Lib.hid d8
  have B8 := Lib.hid (B7.out.trans (k8.below B7.out.size HF.out))
  have T8 := Lib.hid (T7.out.trans k8)
  clear T7
  clear D7 B7 d8 k8
  go_wp2_with fail
  refine (image_any _ g gb gp gw _ _ D8.out).mono ?_
  rintro e w9 ⟨A8, c8, rfl, i8, -, b9, -⟩
  have D9 := Lib.hid (D8.out.below b9)
  have B9 := Lib.hid (B8.out.trans (b9.mono B8.out.size))
  have T9 := Lib.hid (T8.out.trans (Keep.of_below b9 [g, gb, gp, gw]))
  clear T8
  clear D8 B8
  rw [t_len] at i8 ⊢
  have r6 := Rd.keepK I6.out T9.out LI6.out
  clear I6 LI6 b9 T9
  go_wp2_with fail
  refine (sameTexts_any _ _ 3 3 c6 c8 (newS 3).bl (newS 3).bl _ r6 i8 List.length_replicate List.length_replicate (by omega) true (Lib.hid (by simp))).mono ?_
  rintro e w10 ⟨rfl, b10⟩
  have D10 := Lib.hid (D9.out.below b10)
  have B10 := Lib.hid (B9.out.trans (b10.mono B9.out.size))
  clear D9 B9
  clear b10 r6 i8
  go_wp2_with fail
  refine (pending_any _ g gb gp gw _ _ D10.out (by omega)).mono ?_
  rintro e w11 ⟨v9, rfl, p9, b11⟩
  have D11 := Lib.hid (D10.out.below b11)
  have B11 := Lib.hid (B10.out.trans (b11.mono B10.out.size))
  clear D10 B10
  rw [t_keys.1] at p9
  obtain ⟨A9, c9, rfl, -⟩ := own_slice p9
  clear p9 b11
  go_wp2_with fail
  refine (worn_any _ g gb gp gw _ _ D11.out (by omega)).mono ?_
  rintro e w12 ⟨v10, rfl, p10, b12⟩
  have D12 := Lib.hid (D11.out.below b12)
  have B12 := Lib.hid (B11.out.trans (b12.mono B11.out.size))
  clear D11 B11
  rw [t_keys.2] at p10
  obtain ⟨A10, c10, rfl, -⟩ := own_slice p10
  clear p10 b12
  go_wp2_with fail
  go_ret
  exact ⟨rfl, B12.out⟩

set_option maxHeartbeats 16000000 in
set_option maxRecDepth 100000 in
theorem refuses_hi_lo_ok (w : World) (sec i : Int) (s : ByteArray) (hs1 : -9223372036854775808 ≤ sec) (hs2 : sec ≤ 9223372036854775807) (hi1 : -9223372036854775808 ≤ i) (hi2 : i ≤ 9223372036854775807) (_hss : s.size ≤ 9223372036854775807) (hq : 4096 < sec) (hj : i < 0) (hsb : Hid (s.size = 64)) :
    Calls Try.prog 3 #[.int .i64 sec, .int .i64 i, .string s] w (RetB (.bool true) w) := by
  have hsec : Hid (sec < 1 ∨ 4096 < sec) := Lib.hid (.inr hq)
  have hq0 : decide (sec < 1) = false := by simp; omega
  have N3 : ∀ W : World, Calls Try.prog 9 #[.int .i64 3] W (NewPost 3 W) := fun W => new_any W 3 (by omega) (by omega)
  have hib : Hid (i < 0 ∨ 2 < i) := Lib.hid (.inl hj)
  obtain ⟨fx, hfx⟩ : ∃ fx : ByteArray, fx = ⟨(fullB 120).toArray⟩ := ⟨_, rfl⟩
  have FX : ∀ W : World, Calls Try.prog 13 #[.int .u8 120] W (RetB (.string fx) W) := fun W => by rw [hfx]; exact full_any W 120
  have RD : ∀ (W : World) (g gb gp gw K : Nat), DiskAt W g gb gp gw K (newS 3) → Calls Try.prog 11 #[.pointer (some ⟨g, 0, none⟩), .int .i64 i] W (RetB (.tuple #[.string ⟨#[]⟩, .int .i64 1]) W) := fun W g gb gp gw K h => read_is W g gb gp gw K _ h i hi1 hi2 [] 1 (t_read i hib.out) (t_check i hib.out) ⟨#[]⟩ rfl
  have WR : ∀ (W : World) (g gb gp gw K : Nat), K ≤ 100000 → DiskAt W g gb gp gw K (newS 3) → Calls Try.prog 12 #[.pointer (some ⟨g, 0, none⟩), .int .i64 i, .string fx] W (DPost (.int .i64 1) g gb gp gw (K + 1) (newS 3) W) := fun W g gb gp gw K hK h => by
    have := write_full W g gb gp gw K _ h hK i hi1 hi2 120 fx hfx 1 (t_we i hib.out _).1
    rwa [(t_we i hib.out _).2] at this
  have RT : ∀ (W : World) (g gb gp gw K : Nat), DiskAt W g gb gp gw K (newS 3) → Calls Try.prog 14 #[.pointer (some ⟨g, 0, none⟩), .int .i64 i, .int .i64 0] W (DPost (.int .i64 1) g gb gp gw K (newS 3) W) := fun W g gb gp gw K h => by
    have := rot_any W g gb gp gw K _ h i 0
    rwa [(t_rot i hib.out).1, (t_rot i hib.out).2] at this
  have WE : ∀ (W : World) (g gb gp gw K : Nat), K ≤ 100000 → DiskAt W g gb gp gw K (newS 3) → Calls Try.prog 15 #[.pointer (some ⟨g, 0, none⟩), .int .i64 i] W (DPost (.int .i64 1) g gb gp gw (K + 1) (newS 3) W) := fun W g gb gp gw K hK h => by
    have := wear_any W g gb gp gw K _ h hK i hi1 hi2
    rwa [(t_wear i hib.out).1, (t_wear i hib.out).2] at this
  clear hfx
  have x1 : ((s.size : Int) != 64) = false := by rw [bne_eq_false_iff_eq]; have := hsb.out; omega
  have x2 : ((s.size : Int) == 64) = true := by rw [beq_iff_eq]; have := hsb.out; omega
  go_enter Try.func3, Try.ntmps3
  go_wp2_with fail
  refine (sanity_any _).mono ?_
  rintro e w0 ⟨rfl, b0⟩
  have B0 := Lib.hid b0
  clear b0
  go_wp2_with fail
  refine (new_bad _ sec hs1 hs2 hsec.out).mono ?_
  rintro e wq ⟨rfl, rfl⟩
  go_wp2_with fail
  refine (N3 _).mono ?_
  rintro e w1 ⟨g, gb, gp, gw, rfl, d1, b1, l1, l2, l3, l4⟩
  have HF : Hid (∀ k, k ∈ [g, gb, gp, gw] → w.heap.size ≤ k) := Lib.hid (by
    intro k hk
    have hz := B0.out.size
    simp only [List.mem_cons, List.not_mem_nil, or_false] at hk
    rcases hk with rfl | rfl | rfl | rfl <;> omega)
  have D1 := Lib.hid d1
  have B1 := Lib.hid (B0.out.trans (b1.mono B0.out.size))
  have FLi : Hid (∀ k, k ∈ [g, gb, gp, gw] → k < w1.heap.size) := Lib.hid (by
    intro k hk
    have := d1.lt
    simp only [List.mem_cons, List.not_mem_nil, or_false] at hk
    rcases hk with rfl | rfl | rfl | rfl <;> omega)
  clear d1 b1 l1 l2 l3 l4 B0
  go_wp2_with fail
  refine (image_any _ g gb gp gw _ _ D1.out).mono ?_
  rintro e w2 ⟨A6, c6, rfl, i6, -, b2, li6⟩
  have D2 := Lib.hid (D1.out.below b2)
  have B2 := Lib.hid (B1.out.trans (b2.mono B1.out.size))
  clear D1 B1
  rw [t_len] at i6 ⊢
  have I6 := Lib.hid i6
  have LI6 : Hid (∀ b o, A6 = some ⟨b, o, none⟩ → b ∉ [g, gb, gp, gw]) := Lib.hid (fun b o e hm => by
    have h1 := li6 b o e
    have h2 := FLi.out b hm
    omega)
  have T2 : Hid (Keep [g, gb, gp, gw] w2 w2) := Lib.hid (Keep.refl _ _)
  clear i6 li6 b2 FLi
  go_wp2_with fail
  refine (RD _ g gb gp gw _ D2.out).mono ?_
  rintro e w3 ⟨rfl, b3⟩
  have D3 := Lib.hid (D2.out.below b3)
  have B3 := Lib.hid (B2.out.trans (b3.mono B2.out.size))
  have T3 := Lib.hid (T2.out.trans (Keep.of_below b3 [g, gb, gp, gw]))
  clear T2
  clear D2 B2
  clear b3
  go_wp2_with fail
  refine (FX _).mono ?_
  rintro e w4 ⟨rfl, b4⟩
  have D4 := Lib.hid (D3.out.below b4)
  have B4 := Lib.hid (B3.out.trans (b4.mono B3.out.size))
  have T4 := Lib.hid (T3.out.trans (Keep.of_below b4 [g, gb, gp, gw]))
  clear T3
  clear D3 B3
  clear b4
  go_wp2_with fail
  refine (WR _ g gb gp gw _ (by omega) D4.out).mono ?_
  rintro e w5 ⟨rfl, d5, k5⟩
  have D5 : Hid (DiskAt w5 g gb gp gw 1 (newS 3)) := Lib.hid d5
  have B5 := Lib.hid (B4.out.trans (k5.below B4.out.size HF.out))
  have T5 := Lib.hid (T4.out.trans k5)
  clear T4
  clear D4 B4 d5 k5
  go_wp2_with fail
  refine (RT _ g gb gp gw _ D5.out).mono ?_
  rintro e w6 ⟨rfl, d6, k6⟩
  have D6 : Hid (DiskAt w6 g gb gp gw 1 (newS 3)) := Lib.hid d6
  have B6 := Lib.hid (B5.out.trans (k6.below B5.out.size HF.out))
  have T6 := Lib.hid (T5.out.trans k6)
  clear T5
  clear D5 B5 d6 k6
  go_wp2_with fail
  refine (WE _ g gb gp gw _ (by omega) D6.out).mono ?_
  rintro e w7 ⟨rfl, d7, k7⟩
  have D7 : Hid (DiskAt w7 g gb gp gw 2 (newS 3)) := Lib.hid d7
  have B7 := Lib.hid (B6.out.trans (k7.below B6.out.size HF.out))
  have T7 := Lib.hid (T6.out.trans k7)
  clear T6
  clear D6 B6 d7 k7
  go_wp2_with fail
  refine (image_any _ g gb gp gw _ _ D7.out).mono ?_
  rintro e w8 ⟨A8, c8, rfl, i8, -, b8, -⟩
  have D8 := Lib.hid (D7.out.below b8)
  have B8 := Lib.hid (B7.out.trans (b8.mono B7.out.size))
  have T8 := Lib.hid (T7.out.trans (Keep.of_below b8 [g, gb, gp, gw]))
  clear T7
  clear D7 B7
  rw [t_len] at i8 ⊢
  have r6 := Rd.keepK I6.out T8.out LI6.out
  clear I6 LI6 b8 T8
  go_wp2_with fail
  refine (sameTexts_any _ _ 3 3 c6 c8 (newS 3).bl (newS 3).bl _ r6 i8 List.length_replicate List.length_replicate (by omega) true (Lib.hid (by simp))).mono ?_
  rintro e w9 ⟨rfl, b9⟩
  have D9 := Lib.hid (D8.out.below b9)
  have B9 := Lib.hid (B8.out.trans (b9.mono B8.out.size))
  clear D8 B8
  clear b9 r6 i8
  go_wp2_with fail
  refine (pending_any _ g gb gp gw _ _ D9.out (by omega)).mono ?_
  rintro e w10 ⟨v9, rfl, p9, b10⟩
  have D10 := Lib.hid (D9.out.below b10)
  have B10 := Lib.hid (B9.out.trans (b10.mono B9.out.size))
  clear D9 B9
  rw [t_keys.1] at p9
  obtain ⟨A9, c9, rfl, -⟩ := own_slice p9
  clear p9 b10
  go_wp2_with fail
  refine (worn_any _ g gb gp gw _ _ D10.out (by omega)).mono ?_
  rintro e w11 ⟨v10, rfl, p10, b11⟩
  have D11 := Lib.hid (D10.out.below b11)
  have B11 := Lib.hid (B10.out.trans (b11.mono B10.out.size))
  clear D10 B10
  rw [t_keys.2] at p10
  obtain ⟨A10, c10, rfl, -⟩ := own_slice p10
  clear p10 b11
  go_wp2_with fail
  go_ret
  exact ⟨rfl, B11.out⟩

set_option maxHeartbeats 16000000 in
set_option maxRecDepth 100000 in
theorem refuses_hi_hi_bad (w : World) (sec i : Int) (s : ByteArray) (hs1 : -9223372036854775808 ≤ sec) (hs2 : sec ≤ 9223372036854775807) (hi1 : -9223372036854775808 ≤ i) (hi2 : i ≤ 9223372036854775807) (hss : s.size ≤ 9223372036854775807) (hq : 4096 < sec) (hj : 2 < i) (hsb : Hid (s.size ≠ 64)) :
    Calls Try.prog 3 #[.int .i64 sec, .int .i64 i, .string s] w (RetB (.bool true) w) := by
  have hsec : Hid (sec < 1 ∨ 4096 < sec) := Lib.hid (.inr hq)
  have hq0 : decide (sec < 1) = false := by simp; omega
  have N3 : ∀ W : World, Calls Try.prog 9 #[.int .i64 3] W (NewPost 3 W) := fun W => new_any W 3 (by omega) (by omega)
  have hib : Hid (i < 0 ∨ 2 < i) := Lib.hid (.inr hj)
  have hj0 : decide (i < 0) = false := by simp; omega
  obtain ⟨fx, hfx⟩ : ∃ fx : ByteArray, fx = ⟨(fullB 120).toArray⟩ := ⟨_, rfl⟩
  have FX : ∀ W : World, Calls Try.prog 13 #[.int .u8 120] W (RetB (.string fx) W) := fun W => by rw [hfx]; exact full_any W 120
  have RD : ∀ (W : World) (g gb gp gw K : Nat), DiskAt W g gb gp gw K (newS 3) → Calls Try.prog 11 #[.pointer (some ⟨g, 0, none⟩), .int .i64 i] W (RetB (.tuple #[.string ⟨#[]⟩, .int .i64 1]) W) := fun W g gb gp gw K h => read_is W g gb gp gw K _ h i hi1 hi2 [] 1 (t_read i hib.out) (t_check i hib.out) ⟨#[]⟩ rfl
  have WR : ∀ (W : World) (g gb gp gw K : Nat), K ≤ 100000 → DiskAt W g gb gp gw K (newS 3) → Calls Try.prog 12 #[.pointer (some ⟨g, 0, none⟩), .int .i64 i, .string fx] W (DPost (.int .i64 1) g gb gp gw (K + 1) (newS 3) W) := fun W g gb gp gw K hK h => by
    have := write_full W g gb gp gw K _ h hK i hi1 hi2 120 fx hfx 1 (t_we i hib.out _).1
    rwa [(t_we i hib.out _).2] at this
  have RT : ∀ (W : World) (g gb gp gw K : Nat), DiskAt W g gb gp gw K (newS 3) → Calls Try.prog 14 #[.pointer (some ⟨g, 0, none⟩), .int .i64 i, .int .i64 0] W (DPost (.int .i64 1) g gb gp gw K (newS 3) W) := fun W g gb gp gw K h => by
    have := rot_any W g gb gp gw K _ h i 0
    rwa [(t_rot i hib.out).1, (t_rot i hib.out).2] at this
  have WE : ∀ (W : World) (g gb gp gw K : Nat), K ≤ 100000 → DiskAt W g gb gp gw K (newS 3) → Calls Try.prog 15 #[.pointer (some ⟨g, 0, none⟩), .int .i64 i] W (DPost (.int .i64 1) g gb gp gw (K + 1) (newS 3) W) := fun W g gb gp gw K hK h => by
    have := wear_any W g gb gp gw K _ h hK i hi1 hi2
    rwa [(t_wear i hib.out).1, (t_wear i hib.out).2] at this
  clear hfx
  have WS : ∀ (W : World) (g gb gp gw K : Nat), K ≤ 100000 → DiskAt W g gb gp gw K (newS 3) → Calls Try.prog 12 #[.pointer (some ⟨g, 0, none⟩), .int .i64 0, .string s] W (DPost (.int .i64 1) g gb gp gw (K + 1) (newS 3) W) := fun W g gb gp gw K hK h => by
    have := write_any W g gb gp gw K _ h hK 0 (by omega) (by omega) s hss
    have hl : s.data.toList.length ≠ 64 := by rw [show s.data.toList.length = s.size from by simp]; exact hsb.out
    rwa [(t_ws _ hl).1, (t_ws _ hl).2] at this
  have x1 : ((s.size : Int) != 64) = true := by rw [bne_iff_ne]; have := hsb.out; omega
  have x2 : ((s.size : Int) == 64) = false := beq_eq_false_iff_ne.2 (by have := hsb.out; omega)
  go_enter Try.func3, Try.ntmps3
  go_wp2_with fail
  refine (sanity_any _).mono ?_
  rintro e w0 ⟨rfl, b0⟩
  have B0 := Lib.hid b0
  clear b0
  go_wp2_with fail
  refine (new_bad _ sec hs1 hs2 hsec.out).mono ?_
  rintro e wq ⟨rfl, rfl⟩
  go_wp2_with fail
  refine (N3 _).mono ?_
  rintro e w1 ⟨g, gb, gp, gw, rfl, d1, b1, l1, l2, l3, l4⟩
  have HF : Hid (∀ k, k ∈ [g, gb, gp, gw] → w.heap.size ≤ k) := Lib.hid (by
    intro k hk
    have hz := B0.out.size
    simp only [List.mem_cons, List.not_mem_nil, or_false] at hk
    rcases hk with rfl | rfl | rfl | rfl <;> omega)
  have D1 := Lib.hid d1
  have B1 := Lib.hid (B0.out.trans (b1.mono B0.out.size))
  have FLi : Hid (∀ k, k ∈ [g, gb, gp, gw] → k < w1.heap.size) := Lib.hid (by
    intro k hk
    have := d1.lt
    simp only [List.mem_cons, List.not_mem_nil, or_false] at hk
    rcases hk with rfl | rfl | rfl | rfl <;> omega)
  clear d1 b1 l1 l2 l3 l4 B0
  go_wp2_with fail
  refine (image_any _ g gb gp gw _ _ D1.out).mono ?_
  rintro e w2 ⟨A6, c6, rfl, i6, -, b2, li6⟩
  have D2 := Lib.hid (D1.out.below b2)
  have B2 := Lib.hid (B1.out.trans (b2.mono B1.out.size))
  clear D1 B1
  rw [t_len] at i6 ⊢
  have I6 := Lib.hid i6
  have LI6 : Hid (∀ b o, A6 = some ⟨b, o, none⟩ → b ∉ [g, gb, gp, gw]) := Lib.hid (fun b o e hm => by
    have h1 := li6 b o e
    have h2 := FLi.out b hm
    omega)
  have T2 : Hid (Keep [g, gb, gp, gw] w2 w2) := Lib.hid (Keep.refl _ _)
  clear i6 li6 b2 FLi
  go_wp2_with fail
  refine (RD _ g gb gp gw _ D2.out).mono ?_
  rintro e w3 ⟨rfl, b3⟩
  have D3 := Lib.hid (D2.out.below b3)
  have B3 := Lib.hid (B2.out.trans (b3.mono B2.out.size))
  have T3 := Lib.hid (T2.out.trans (Keep.of_below b3 [g, gb, gp, gw]))
  clear T2
  clear D2 B2
  clear b3
  go_wp2_with fail
  refine (FX _).mono ?_
  rintro e w4 ⟨rfl, b4⟩
  have D4 := Lib.hid (D3.out.below b4)
  have B4 := Lib.hid (B3.out.trans (b4.mono B3.out.size))
  have T4 := Lib.hid (T3.out.trans (Keep.of_below b4 [g, gb, gp, gw]))
  clear T3
  clear D3 B3
  clear b4
  go_wp2_with fail
  refine (WR _ g gb gp gw _ (by omega) D4.out).mono ?_
  rintro e w5 ⟨rfl, d5, k5⟩
  have D5 : Hid (DiskAt w5 g gb gp gw 1 (newS 3)) := Lib.hid d5
  have B5 := Lib.hid (B4.out.trans (k5.below B4.out.size HF.out))
  have T5 := Lib.hid (T4.out.trans k5)
  clear T4
  clear D4 B4 d5 k5
  go_wp2_with fail
  refine (RT _ g gb gp gw _ D5.out).mono ?_
  rintro e w6 ⟨rfl, d6, k6⟩
  have D6 : Hid (DiskAt w6 g gb gp gw 1 (newS 3)) := Lib.hid d6
  have B6 := Lib.hid (B5.out.trans (k6.below B5.out.size HF.out))
  have T6 := Lib.hid (T5.out.trans k6)
  clear T5
  clear D5 B5 d6 k6
  go_wp2_with fail
  refine (WE _ g gb gp gw _ (by omega) D6.out).mono ?_
  rintro e w7 ⟨rfl, d7, k7⟩
  have D7 : Hid (DiskAt w7 g gb gp gw 2 (newS 3)) := Lib.hid d7
  have B7 := Lib.hid (B6.out.trans (k7.below B6.out.size HF.out))
  have T7 := Lib.hid (T6.out.trans k7)
  clear T6
  clear D6 B6 d7 k7
  go_wp2_with fail
  refine (WS _ g gb gp gw _ (by omega) D7.out).mono ?_
  rintro e w8 ⟨rfl, d8, k8⟩
  have D8 : Hid (DiskAt w8 g gb gp gw 3 (newS 3)) := Lib.hid d8
  have B8 := Lib.hid (B7.out.trans (k8.below B7.out.size HF.out))
  have T8 := Lib.hid (T7.out.trans k8)
  clear T7
  clear D7 B7 d8 k8
  go_wp2_with fail
  refine (image_any _ g gb gp gw _ _ D8.out).mono ?_
  rintro e w9 ⟨A8, c8, rfl, i8, -, b9, -⟩
  have D9 := Lib.hid (D8.out.below b9)
  have B9 := Lib.hid (B8.out.trans (b9.mono B8.out.size))
  have T9 := Lib.hid (T8.out.trans (Keep.of_below b9 [g, gb, gp, gw]))
  clear T8
  clear D8 B8
  rw [t_len] at i8 ⊢
  have r6 := Rd.keepK I6.out T9.out LI6.out
  clear I6 LI6 b9 T9
  go_wp2_with fail
  refine (sameTexts_any _ _ 3 3 c6 c8 (newS 3).bl (newS 3).bl _ r6 i8 List.length_replicate List.length_replicate (by omega) true (Lib.hid (by simp))).mono ?_
  rintro e w10 ⟨rfl, b10⟩
  have D10 := Lib.hid (D9.out.below b10)
  have B10 := Lib.hid (B9.out.trans (b10.mono B9.out.size))
  clear D9 B9
  clear b10 r6 i8
  go_wp2_with fail
  refine (pending_any _ g gb gp gw _ _ D10.out (by omega)).mono ?_
  rintro e w11 ⟨v9, rfl, p9, b11⟩
  have D11 := Lib.hid (D10.out.below b11)
  have B11 := Lib.hid (B10.out.trans (b11.mono B10.out.size))
  clear D10 B10
  rw [t_keys.1] at p9
  obtain ⟨A9, c9, rfl, -⟩ := own_slice p9
  clear p9 b11
  go_wp2_with fail
  refine (worn_any _ g gb gp gw _ _ D11.out (by omega)).mono ?_
  rintro e w12 ⟨v10, rfl, p10, b12⟩
  have D12 := Lib.hid (D11.out.below b12)
  have B12 := Lib.hid (B11.out.trans (b12.mono B11.out.size))
  clear D11 B11
  rw [t_keys.2] at p10
  obtain ⟨A10, c10, rfl, -⟩ := own_slice p10
  clear p10 b12
  go_wp2_with fail
  go_ret
  exact ⟨rfl, B12.out⟩

set_option maxHeartbeats 16000000 in
set_option maxRecDepth 100000 in
theorem refuses_hi_hi_ok (w : World) (sec i : Int) (s : ByteArray) (hs1 : -9223372036854775808 ≤ sec) (hs2 : sec ≤ 9223372036854775807) (hi1 : -9223372036854775808 ≤ i) (hi2 : i ≤ 9223372036854775807) (_hss : s.size ≤ 9223372036854775807) (hq : 4096 < sec) (hj : 2 < i) (hsb : Hid (s.size = 64)) :
    Calls Try.prog 3 #[.int .i64 sec, .int .i64 i, .string s] w (RetB (.bool true) w) := by
  have hsec : Hid (sec < 1 ∨ 4096 < sec) := Lib.hid (.inr hq)
  have hq0 : decide (sec < 1) = false := by simp; omega
  have N3 : ∀ W : World, Calls Try.prog 9 #[.int .i64 3] W (NewPost 3 W) := fun W => new_any W 3 (by omega) (by omega)
  have hib : Hid (i < 0 ∨ 2 < i) := Lib.hid (.inr hj)
  have hj0 : decide (i < 0) = false := by simp; omega
  obtain ⟨fx, hfx⟩ : ∃ fx : ByteArray, fx = ⟨(fullB 120).toArray⟩ := ⟨_, rfl⟩
  have FX : ∀ W : World, Calls Try.prog 13 #[.int .u8 120] W (RetB (.string fx) W) := fun W => by rw [hfx]; exact full_any W 120
  have RD : ∀ (W : World) (g gb gp gw K : Nat), DiskAt W g gb gp gw K (newS 3) → Calls Try.prog 11 #[.pointer (some ⟨g, 0, none⟩), .int .i64 i] W (RetB (.tuple #[.string ⟨#[]⟩, .int .i64 1]) W) := fun W g gb gp gw K h => read_is W g gb gp gw K _ h i hi1 hi2 [] 1 (t_read i hib.out) (t_check i hib.out) ⟨#[]⟩ rfl
  have WR : ∀ (W : World) (g gb gp gw K : Nat), K ≤ 100000 → DiskAt W g gb gp gw K (newS 3) → Calls Try.prog 12 #[.pointer (some ⟨g, 0, none⟩), .int .i64 i, .string fx] W (DPost (.int .i64 1) g gb gp gw (K + 1) (newS 3) W) := fun W g gb gp gw K hK h => by
    have := write_full W g gb gp gw K _ h hK i hi1 hi2 120 fx hfx 1 (t_we i hib.out _).1
    rwa [(t_we i hib.out _).2] at this
  have RT : ∀ (W : World) (g gb gp gw K : Nat), DiskAt W g gb gp gw K (newS 3) → Calls Try.prog 14 #[.pointer (some ⟨g, 0, none⟩), .int .i64 i, .int .i64 0] W (DPost (.int .i64 1) g gb gp gw K (newS 3) W) := fun W g gb gp gw K h => by
    have := rot_any W g gb gp gw K _ h i 0
    rwa [(t_rot i hib.out).1, (t_rot i hib.out).2] at this
  have WE : ∀ (W : World) (g gb gp gw K : Nat), K ≤ 100000 → DiskAt W g gb gp gw K (newS 3) → Calls Try.prog 15 #[.pointer (some ⟨g, 0, none⟩), .int .i64 i] W (DPost (.int .i64 1) g gb gp gw (K + 1) (newS 3) W) := fun W g gb gp gw K hK h => by
    have := wear_any W g gb gp gw K _ h hK i hi1 hi2
    rwa [(t_wear i hib.out).1, (t_wear i hib.out).2] at this
  clear hfx
  have x1 : ((s.size : Int) != 64) = false := by rw [bne_eq_false_iff_eq]; have := hsb.out; omega
  have x2 : ((s.size : Int) == 64) = true := by rw [beq_iff_eq]; have := hsb.out; omega
  go_enter Try.func3, Try.ntmps3
  go_wp2_with fail
  refine (sanity_any _).mono ?_
  rintro e w0 ⟨rfl, b0⟩
  have B0 := Lib.hid b0
  clear b0
  go_wp2_with fail
  refine (new_bad _ sec hs1 hs2 hsec.out).mono ?_
  rintro e wq ⟨rfl, rfl⟩
  go_wp2_with fail
  refine (N3 _).mono ?_
  rintro e w1 ⟨g, gb, gp, gw, rfl, d1, b1, l1, l2, l3, l4⟩
  have HF : Hid (∀ k, k ∈ [g, gb, gp, gw] → w.heap.size ≤ k) := Lib.hid (by
    intro k hk
    have hz := B0.out.size
    simp only [List.mem_cons, List.not_mem_nil, or_false] at hk
    rcases hk with rfl | rfl | rfl | rfl <;> omega)
  have D1 := Lib.hid d1
  have B1 := Lib.hid (B0.out.trans (b1.mono B0.out.size))
  have FLi : Hid (∀ k, k ∈ [g, gb, gp, gw] → k < w1.heap.size) := Lib.hid (by
    intro k hk
    have := d1.lt
    simp only [List.mem_cons, List.not_mem_nil, or_false] at hk
    rcases hk with rfl | rfl | rfl | rfl <;> omega)
  clear d1 b1 l1 l2 l3 l4 B0
  go_wp2_with fail
  refine (image_any _ g gb gp gw _ _ D1.out).mono ?_
  rintro e w2 ⟨A6, c6, rfl, i6, -, b2, li6⟩
  have D2 := Lib.hid (D1.out.below b2)
  have B2 := Lib.hid (B1.out.trans (b2.mono B1.out.size))
  clear D1 B1
  rw [t_len] at i6 ⊢
  have I6 := Lib.hid i6
  have LI6 : Hid (∀ b o, A6 = some ⟨b, o, none⟩ → b ∉ [g, gb, gp, gw]) := Lib.hid (fun b o e hm => by
    have h1 := li6 b o e
    have h2 := FLi.out b hm
    omega)
  have T2 : Hid (Keep [g, gb, gp, gw] w2 w2) := Lib.hid (Keep.refl _ _)
  clear i6 li6 b2 FLi
  go_wp2_with fail
  refine (RD _ g gb gp gw _ D2.out).mono ?_
  rintro e w3 ⟨rfl, b3⟩
  have D3 := Lib.hid (D2.out.below b3)
  have B3 := Lib.hid (B2.out.trans (b3.mono B2.out.size))
  have T3 := Lib.hid (T2.out.trans (Keep.of_below b3 [g, gb, gp, gw]))
  clear T2
  clear D2 B2
  clear b3
  go_wp2_with fail
  refine (FX _).mono ?_
  rintro e w4 ⟨rfl, b4⟩
  have D4 := Lib.hid (D3.out.below b4)
  have B4 := Lib.hid (B3.out.trans (b4.mono B3.out.size))
  have T4 := Lib.hid (T3.out.trans (Keep.of_below b4 [g, gb, gp, gw]))
  clear T3
  clear D3 B3
  clear b4
  go_wp2_with fail
  refine (WR _ g gb gp gw _ (by omega) D4.out).mono ?_
  rintro e w5 ⟨rfl, d5, k5⟩
  have D5 : Hid (DiskAt w5 g gb gp gw 1 (newS 3)) := Lib.hid d5
  have B5 := Lib.hid (B4.out.trans (k5.below B4.out.size HF.out))
  have T5 := Lib.hid (T4.out.trans k5)
  clear T4
  clear D4 B4 d5 k5
  go_wp2_with fail
  refine (RT _ g gb gp gw _ D5.out).mono ?_
  rintro e w6 ⟨rfl, d6, k6⟩
  have D6 : Hid (DiskAt w6 g gb gp gw 1 (newS 3)) := Lib.hid d6
  have B6 := Lib.hid (B5.out.trans (k6.below B5.out.size HF.out))
  have T6 := Lib.hid (T5.out.trans k6)
  clear T5
  clear D5 B5 d6 k6
  go_wp2_with fail
  refine (WE _ g gb gp gw _ (by omega) D6.out).mono ?_
  rintro e w7 ⟨rfl, d7, k7⟩
  have D7 : Hid (DiskAt w7 g gb gp gw 2 (newS 3)) := Lib.hid d7
  have B7 := Lib.hid (B6.out.trans (k7.below B6.out.size HF.out))
  have T7 := Lib.hid (T6.out.trans k7)
  clear T6
  clear D6 B6 d7 k7
  go_wp2_with fail
  refine (image_any _ g gb gp gw _ _ D7.out).mono ?_
  rintro e w8 ⟨A8, c8, rfl, i8, -, b8, -⟩
  have D8 := Lib.hid (D7.out.below b8)
  have B8 := Lib.hid (B7.out.trans (b8.mono B7.out.size))
  have T8 := Lib.hid (T7.out.trans (Keep.of_below b8 [g, gb, gp, gw]))
  clear T7
  clear D7 B7
  rw [t_len] at i8 ⊢
  have r6 := Rd.keepK I6.out T8.out LI6.out
  clear I6 LI6 b8 T8
  go_wp2_with fail
  refine (sameTexts_any _ _ 3 3 c6 c8 (newS 3).bl (newS 3).bl _ r6 i8 List.length_replicate List.length_replicate (by omega) true (Lib.hid (by simp))).mono ?_
  rintro e w9 ⟨rfl, b9⟩
  have D9 := Lib.hid (D8.out.below b9)
  have B9 := Lib.hid (B8.out.trans (b9.mono B8.out.size))
  clear D8 B8
  clear b9 r6 i8
  go_wp2_with fail
  refine (pending_any _ g gb gp gw _ _ D9.out (by omega)).mono ?_
  rintro e w10 ⟨v9, rfl, p9, b10⟩
  have D10 := Lib.hid (D9.out.below b10)
  have B10 := Lib.hid (B9.out.trans (b10.mono B9.out.size))
  clear D9 B9
  rw [t_keys.1] at p9
  obtain ⟨A9, c9, rfl, -⟩ := own_slice p9
  clear p9 b10
  go_wp2_with fail
  refine (worn_any _ g gb gp gw _ _ D10.out (by omega)).mono ?_
  rintro e w11 ⟨v10, rfl, p10, b11⟩
  have D11 := Lib.hid (D10.out.below b11)
  have B11 := Lib.hid (B10.out.trans (b11.mono B10.out.size))
  clear D10 B10
  rw [t_keys.2] at p10
  obtain ⟨A10, c10, rfl, -⟩ := own_slice p10
  clear p10 b11
  go_wp2_with fail
  go_ret
  exact ⟨rfl, B11.out⟩

set_option maxHeartbeats 16000000 in
set_option maxRecDepth 100000 in
theorem refuses_hi_in_bad (w : World) (sec i : Int) (s : ByteArray) (hs1 : -9223372036854775808 ≤ sec) (hs2 : sec ≤ 9223372036854775807) (_hi1 : -9223372036854775808 ≤ i) (_hi2 : i ≤ 9223372036854775807) (hss : s.size ≤ 9223372036854775807) (hq : 4096 < sec) (hj : 0 ≤ i ∧ i ≤ 2) (hsb : Hid (s.size ≠ 64)) :
    Calls Try.prog 3 #[.int .i64 sec, .int .i64 i, .string s] w (RetB (.bool true) w) := by
  have hsec : Hid (sec < 1 ∨ 4096 < sec) := Lib.hid (.inr hq)
  have hq0 : decide (sec < 1) = false := by simp; omega
  have N3 : ∀ W : World, Calls Try.prog 9 #[.int .i64 3] W (NewPost 3 W) := fun W => new_any W 3 (by omega) (by omega)
  obtain ⟨hj1, hj2⟩ := hj
  have e3 : decide (i < 0) = false := by simp; omega
  have e4 : decide (2 < i) = false := by simp; omega
  have WS : ∀ (W : World) (g gb gp gw K : Nat), K ≤ 100000 → DiskAt W g gb gp gw K (newS 3) → Calls Try.prog 12 #[.pointer (some ⟨g, 0, none⟩), .int .i64 0, .string s] W (DPost (.int .i64 1) g gb gp gw (K + 1) (newS 3) W) := fun W g gb gp gw K hK h => by
    have := write_any W g gb gp gw K _ h hK 0 (by omega) (by omega) s hss
    have hl : s.data.toList.length ≠ 64 := by rw [show s.data.toList.length = s.size from by simp]; exact hsb.out
    rwa [(t_ws _ hl).1, (t_ws _ hl).2] at this
  have x1 : ((s.size : Int) != 64) = true := by rw [bne_iff_ne]; have := hsb.out; omega
  have x2 : ((s.size : Int) == 64) = false := beq_eq_false_iff_ne.2 (by have := hsb.out; omega)
  go_enter Try.func3, Try.ntmps3
  go_wp2_with fail
  refine (sanity_any _).mono ?_
  rintro e w0 ⟨rfl, b0⟩
  have B0 := Lib.hid b0
  clear b0
  go_wp2_with fail
  refine (new_bad _ sec hs1 hs2 hsec.out).mono ?_
  rintro e wq ⟨rfl, rfl⟩
  go_wp2_with fail
  refine (N3 _).mono ?_
  rintro e w1 ⟨g, gb, gp, gw, rfl, d1, b1, l1, l2, l3, l4⟩
  have HF : Hid (∀ k, k ∈ [g, gb, gp, gw] → w.heap.size ≤ k) := Lib.hid (by
    intro k hk
    have hz := B0.out.size
    simp only [List.mem_cons, List.not_mem_nil, or_false] at hk
    rcases hk with rfl | rfl | rfl | rfl <;> omega)
  have D1 := Lib.hid d1
  have B1 := Lib.hid (B0.out.trans (b1.mono B0.out.size))
  have FLi : Hid (∀ k, k ∈ [g, gb, gp, gw] → k < w1.heap.size) := Lib.hid (by
    intro k hk
    have := d1.lt
    simp only [List.mem_cons, List.not_mem_nil, or_false] at hk
    rcases hk with rfl | rfl | rfl | rfl <;> omega)
  clear d1 b1 l1 l2 l3 l4 B0
  go_wp2_with fail
  refine (image_any _ g gb gp gw _ _ D1.out).mono ?_
  rintro e w2 ⟨A6, c6, rfl, i6, -, b2, li6⟩
  have D2 := Lib.hid (D1.out.below b2)
  have B2 := Lib.hid (B1.out.trans (b2.mono B1.out.size))
  clear D1 B1
  rw [t_len] at i6 ⊢
  have I6 := Lib.hid i6
  have LI6 : Hid (∀ b o, A6 = some ⟨b, o, none⟩ → b ∉ [g, gb, gp, gw]) := Lib.hid (fun b o e hm => by
    have h1 := li6 b o e
    have h2 := FLi.out b hm
    omega)
  have T2 : Hid (Keep [g, gb, gp, gw] w2 w2) := Lib.hid (Keep.refl _ _)
  clear i6 li6 b2 FLi
  go_wp2_with fail
  refine (WS _ g gb gp gw _ (by omega) D2.out).mono ?_
  rintro e w3 ⟨rfl, d3, k3⟩
  have D3 : Hid (DiskAt w3 g gb gp gw 1 (newS 3)) := Lib.hid d3
  have B3 := Lib.hid (B2.out.trans (k3.below B2.out.size HF.out))
  have T3 := Lib.hid (T2.out.trans k3)
  clear T2
  clear D2 B2 d3 k3
  go_wp2_with fail
  refine (image_any _ g gb gp gw _ _ D3.out).mono ?_
  rintro e w4 ⟨A8, c8, rfl, i8, -, b4, -⟩
  have D4 := Lib.hid (D3.out.below b4)
  have B4 := Lib.hid (B3.out.trans (b4.mono B3.out.size))
  have T4 := Lib.hid (T3.out.trans (Keep.of_below b4 [g, gb, gp, gw]))
  clear T3
  clear D3 B3
  rw [t_len] at i8 ⊢
  have r6 := Rd.keepK I6.out T4.out LI6.out
  clear I6 LI6 b4 T4
  go_wp2_with fail
  refine (sameTexts_any _ _ 3 3 c6 c8 (newS 3).bl (newS 3).bl _ r6 i8 List.length_replicate List.length_replicate (by omega) true (Lib.hid (by simp))).mono ?_
  rintro e w5 ⟨rfl, b5⟩
  have D5 := Lib.hid (D4.out.below b5)
  have B5 := Lib.hid (B4.out.trans (b5.mono B4.out.size))
  clear D4 B4
  clear b5 r6 i8
  go_wp2_with fail
  refine (pending_any _ g gb gp gw _ _ D5.out (by omega)).mono ?_
  rintro e w6 ⟨v9, rfl, p9, b6⟩
  have D6 := Lib.hid (D5.out.below b6)
  have B6 := Lib.hid (B5.out.trans (b6.mono B5.out.size))
  clear D5 B5
  rw [t_keys.1] at p9
  obtain ⟨A9, c9, rfl, -⟩ := own_slice p9
  clear p9 b6
  go_wp2_with fail
  refine (worn_any _ g gb gp gw _ _ D6.out (by omega)).mono ?_
  rintro e w7 ⟨v10, rfl, p10, b7⟩
  have D7 := Lib.hid (D6.out.below b7)
  have B7 := Lib.hid (B6.out.trans (b7.mono B6.out.size))
  clear D6 B6
  rw [t_keys.2] at p10
  obtain ⟨A10, c10, rfl, -⟩ := own_slice p10
  clear p10 b7
  go_wp2_with fail
  go_ret
  exact ⟨rfl, B7.out⟩

set_option maxHeartbeats 16000000 in
set_option maxRecDepth 100000 in
theorem refuses_hi_in_ok (w : World) (sec i : Int) (s : ByteArray) (hs1 : -9223372036854775808 ≤ sec) (hs2 : sec ≤ 9223372036854775807) (_hi1 : -9223372036854775808 ≤ i) (_hi2 : i ≤ 9223372036854775807) (_hss : s.size ≤ 9223372036854775807) (hq : 4096 < sec) (hj : 0 ≤ i ∧ i ≤ 2) (hsb : Hid (s.size = 64)) :
    Calls Try.prog 3 #[.int .i64 sec, .int .i64 i, .string s] w (RetB (.bool true) w) := by
  have hsec : Hid (sec < 1 ∨ 4096 < sec) := Lib.hid (.inr hq)
  have hq0 : decide (sec < 1) = false := by simp; omega
  have N3 : ∀ W : World, Calls Try.prog 9 #[.int .i64 3] W (NewPost 3 W) := fun W => new_any W 3 (by omega) (by omega)
  obtain ⟨hj1, hj2⟩ := hj
  have e3 : decide (i < 0) = false := by simp; omega
  have e4 : decide (2 < i) = false := by simp; omega
  have x1 : ((s.size : Int) != 64) = false := by rw [bne_eq_false_iff_eq]; have := hsb.out; omega
  have x2 : ((s.size : Int) == 64) = true := by rw [beq_iff_eq]; have := hsb.out; omega
  go_enter Try.func3, Try.ntmps3
  go_wp2_with fail
  refine (sanity_any _).mono ?_
  rintro e w0 ⟨rfl, b0⟩
  have B0 := Lib.hid b0
  clear b0
  go_wp2_with fail
  refine (new_bad _ sec hs1 hs2 hsec.out).mono ?_
  rintro e wq ⟨rfl, rfl⟩
  go_wp2_with fail
  refine (N3 _).mono ?_
  rintro e w1 ⟨g, gb, gp, gw, rfl, d1, b1, l1, l2, l3, l4⟩
  have HF : Hid (∀ k, k ∈ [g, gb, gp, gw] → w.heap.size ≤ k) := Lib.hid (by
    intro k hk
    have hz := B0.out.size
    simp only [List.mem_cons, List.not_mem_nil, or_false] at hk
    rcases hk with rfl | rfl | rfl | rfl <;> omega)
  have D1 := Lib.hid d1
  have B1 := Lib.hid (B0.out.trans (b1.mono B0.out.size))
  have FLi : Hid (∀ k, k ∈ [g, gb, gp, gw] → k < w1.heap.size) := Lib.hid (by
    intro k hk
    have := d1.lt
    simp only [List.mem_cons, List.not_mem_nil, or_false] at hk
    rcases hk with rfl | rfl | rfl | rfl <;> omega)
  clear d1 b1 l1 l2 l3 l4 B0
  go_wp2_with fail
  refine (image_any _ g gb gp gw _ _ D1.out).mono ?_
  rintro e w2 ⟨A6, c6, rfl, i6, -, b2, li6⟩
  have D2 := Lib.hid (D1.out.below b2)
  have B2 := Lib.hid (B1.out.trans (b2.mono B1.out.size))
  clear D1 B1
  rw [t_len] at i6 ⊢
  have I6 := Lib.hid i6
  have LI6 : Hid (∀ b o, A6 = some ⟨b, o, none⟩ → b ∉ [g, gb, gp, gw]) := Lib.hid (fun b o e hm => by
    have h1 := li6 b o e
    have h2 := FLi.out b hm
    omega)
  have T2 : Hid (Keep [g, gb, gp, gw] w2 w2) := Lib.hid (Keep.refl _ _)
  clear i6 li6 b2 FLi
  go_wp2_with fail
  refine (image_any _ g gb gp gw _ _ D2.out).mono ?_
  rintro e w3 ⟨A8, c8, rfl, i8, -, b3, -⟩
  have D3 := Lib.hid (D2.out.below b3)
  have B3 := Lib.hid (B2.out.trans (b3.mono B2.out.size))
  have T3 := Lib.hid (T2.out.trans (Keep.of_below b3 [g, gb, gp, gw]))
  clear T2
  clear D2 B2
  rw [t_len] at i8 ⊢
  have r6 := Rd.keepK I6.out T3.out LI6.out
  clear I6 LI6 b3 T3
  go_wp2_with fail
  refine (sameTexts_any _ _ 3 3 c6 c8 (newS 3).bl (newS 3).bl _ r6 i8 List.length_replicate List.length_replicate (by omega) true (Lib.hid (by simp))).mono ?_
  rintro e w4 ⟨rfl, b4⟩
  have D4 := Lib.hid (D3.out.below b4)
  have B4 := Lib.hid (B3.out.trans (b4.mono B3.out.size))
  clear D3 B3
  clear b4 r6 i8
  go_wp2_with fail
  refine (pending_any _ g gb gp gw _ _ D4.out (by omega)).mono ?_
  rintro e w5 ⟨v9, rfl, p9, b5⟩
  have D5 := Lib.hid (D4.out.below b5)
  have B5 := Lib.hid (B4.out.trans (b5.mono B4.out.size))
  clear D4 B4
  rw [t_keys.1] at p9
  obtain ⟨A9, c9, rfl, -⟩ := own_slice p9
  clear p9 b5
  go_wp2_with fail
  refine (worn_any _ g gb gp gw _ _ D5.out (by omega)).mono ?_
  rintro e w6 ⟨v10, rfl, p10, b6⟩
  have D6 := Lib.hid (D5.out.below b6)
  have B6 := Lib.hid (B5.out.trans (b6.mono B5.out.size))
  clear D5 B5
  rw [t_keys.2] at p10
  obtain ⟨A10, c10, rfl, -⟩ := own_slice p10
  clear p10 b6
  go_wp2_with fail
  go_ret
  exact ⟨rfl, B6.out⟩

set_option maxHeartbeats 16000000 in
set_option maxRecDepth 100000 in
theorem refuses_in_lo_bad (w : World) (sec i : Int) (s : ByteArray) (_hs1 : -9223372036854775808 ≤ sec) (_hs2 : sec ≤ 9223372036854775807) (hi1 : -9223372036854775808 ≤ i) (hi2 : i ≤ 9223372036854775807) (hss : s.size ≤ 9223372036854775807) (hq : 1 ≤ sec ∧ sec ≤ 4096) (hj : i < 0) (hsb : Hid (s.size ≠ 64)) :
    Calls Try.prog 3 #[.int .i64 sec, .int .i64 i, .string s] w (RetB (.bool true) w) := by
  obtain ⟨hq1, hq2⟩ := hq
  have e1 : decide (sec < 1) = false := by simp; omega
  have e2 : decide (4096 < sec) = false := by simp; omega
  have N3 : ∀ W : World, Calls Try.prog 9 #[.int .i64 3] W (NewPost 3 W) := fun W => new_any W 3 (by omega) (by omega)
  have hib : Hid (i < 0 ∨ 2 < i) := Lib.hid (.inl hj)
  obtain ⟨fx, hfx⟩ : ∃ fx : ByteArray, fx = ⟨(fullB 120).toArray⟩ := ⟨_, rfl⟩
  have FX : ∀ W : World, Calls Try.prog 13 #[.int .u8 120] W (RetB (.string fx) W) := fun W => by rw [hfx]; exact full_any W 120
  have RD : ∀ (W : World) (g gb gp gw K : Nat), DiskAt W g gb gp gw K (newS 3) → Calls Try.prog 11 #[.pointer (some ⟨g, 0, none⟩), .int .i64 i] W (RetB (.tuple #[.string ⟨#[]⟩, .int .i64 1]) W) := fun W g gb gp gw K h => read_is W g gb gp gw K _ h i hi1 hi2 [] 1 (t_read i hib.out) (t_check i hib.out) ⟨#[]⟩ rfl
  have WR : ∀ (W : World) (g gb gp gw K : Nat), K ≤ 100000 → DiskAt W g gb gp gw K (newS 3) → Calls Try.prog 12 #[.pointer (some ⟨g, 0, none⟩), .int .i64 i, .string fx] W (DPost (.int .i64 1) g gb gp gw (K + 1) (newS 3) W) := fun W g gb gp gw K hK h => by
    have := write_full W g gb gp gw K _ h hK i hi1 hi2 120 fx hfx 1 (t_we i hib.out _).1
    rwa [(t_we i hib.out _).2] at this
  have RT : ∀ (W : World) (g gb gp gw K : Nat), DiskAt W g gb gp gw K (newS 3) → Calls Try.prog 14 #[.pointer (some ⟨g, 0, none⟩), .int .i64 i, .int .i64 0] W (DPost (.int .i64 1) g gb gp gw K (newS 3) W) := fun W g gb gp gw K h => by
    have := rot_any W g gb gp gw K _ h i 0
    rwa [(t_rot i hib.out).1, (t_rot i hib.out).2] at this
  have WE : ∀ (W : World) (g gb gp gw K : Nat), K ≤ 100000 → DiskAt W g gb gp gw K (newS 3) → Calls Try.prog 15 #[.pointer (some ⟨g, 0, none⟩), .int .i64 i] W (DPost (.int .i64 1) g gb gp gw (K + 1) (newS 3) W) := fun W g gb gp gw K hK h => by
    have := wear_any W g gb gp gw K _ h hK i hi1 hi2
    rwa [(t_wear i hib.out).1, (t_wear i hib.out).2] at this
  clear hfx
  have WS : ∀ (W : World) (g gb gp gw K : Nat), K ≤ 100000 → DiskAt W g gb gp gw K (newS 3) → Calls Try.prog 12 #[.pointer (some ⟨g, 0, none⟩), .int .i64 0, .string s] W (DPost (.int .i64 1) g gb gp gw (K + 1) (newS 3) W) := fun W g gb gp gw K hK h => by
    have := write_any W g gb gp gw K _ h hK 0 (by omega) (by omega) s hss
    have hl : s.data.toList.length ≠ 64 := by rw [show s.data.toList.length = s.size from by simp]; exact hsb.out
    rwa [(t_ws _ hl).1, (t_ws _ hl).2] at this
  have x1 : ((s.size : Int) != 64) = true := by rw [bne_iff_ne]; have := hsb.out; omega
  have x2 : ((s.size : Int) == 64) = false := beq_eq_false_iff_ne.2 (by have := hsb.out; omega)
  go_enter Try.func3, Try.ntmps3
  go_wp2_with fail
  refine (sanity_any _).mono ?_
  rintro e w0 ⟨rfl, b0⟩
  have B0 := Lib.hid b0
  clear b0
  go_wp2_with fail
  refine (N3 _).mono ?_
  rintro e w1 ⟨g, gb, gp, gw, rfl, d1, b1, l1, l2, l3, l4⟩
  have HF : Hid (∀ k, k ∈ [g, gb, gp, gw] → w.heap.size ≤ k) := Lib.hid (by
    intro k hk
    have hz := B0.out.size
    simp only [List.mem_cons, List.not_mem_nil, or_false] at hk
    rcases hk with rfl | rfl | rfl | rfl <;> omega)
  have D1 := Lib.hid d1
  have B1 := Lib.hid (B0.out.trans (b1.mono B0.out.size))
  have FLi : Hid (∀ k, k ∈ [g, gb, gp, gw] → k < w1.heap.size) := Lib.hid (by
    intro k hk
    have := d1.lt
    simp only [List.mem_cons, List.not_mem_nil, or_false] at hk
    rcases hk with rfl | rfl | rfl | rfl <;> omega)
  clear d1 b1 l1 l2 l3 l4 B0
  go_wp2_with fail
  refine (image_any _ g gb gp gw _ _ D1.out).mono ?_
  rintro e w2 ⟨A6, c6, rfl, i6, -, b2, li6⟩
  have D2 := Lib.hid (D1.out.below b2)
  have B2 := Lib.hid (B1.out.trans (b2.mono B1.out.size))
  clear D1 B1
  rw [t_len] at i6 ⊢
  have I6 := Lib.hid i6
  have LI6 : Hid (∀ b o, A6 = some ⟨b, o, none⟩ → b ∉ [g, gb, gp, gw]) := Lib.hid (fun b o e hm => by
    have h1 := li6 b o e
    have h2 := FLi.out b hm
    omega)
  have T2 : Hid (Keep [g, gb, gp, gw] w2 w2) := Lib.hid (Keep.refl _ _)
  clear i6 li6 b2 FLi
  go_wp2_with fail
  refine (RD _ g gb gp gw _ D2.out).mono ?_
  rintro e w3 ⟨rfl, b3⟩
  have D3 := Lib.hid (D2.out.below b3)
  have B3 := Lib.hid (B2.out.trans (b3.mono B2.out.size))
  have T3 := Lib.hid (T2.out.trans (Keep.of_below b3 [g, gb, gp, gw]))
  clear T2
  clear D2 B2
  clear b3
  go_wp2_with fail
  refine (FX _).mono ?_
  rintro e w4 ⟨rfl, b4⟩
  have D4 := Lib.hid (D3.out.below b4)
  have B4 := Lib.hid (B3.out.trans (b4.mono B3.out.size))
  have T4 := Lib.hid (T3.out.trans (Keep.of_below b4 [g, gb, gp, gw]))
  clear T3
  clear D3 B3
  clear b4
  go_wp2_with fail
  refine (WR _ g gb gp gw _ (by omega) D4.out).mono ?_
  rintro e w5 ⟨rfl, d5, k5⟩
  have D5 : Hid (DiskAt w5 g gb gp gw 1 (newS 3)) := Lib.hid d5
  have B5 := Lib.hid (B4.out.trans (k5.below B4.out.size HF.out))
  have T5 := Lib.hid (T4.out.trans k5)
  clear T4
  clear D4 B4 d5 k5
  go_wp2_with fail
  refine (RT _ g gb gp gw _ D5.out).mono ?_
  rintro e w6 ⟨rfl, d6, k6⟩
  have D6 : Hid (DiskAt w6 g gb gp gw 1 (newS 3)) := Lib.hid d6
  have B6 := Lib.hid (B5.out.trans (k6.below B5.out.size HF.out))
  have T6 := Lib.hid (T5.out.trans k6)
  clear T5
  clear D5 B5 d6 k6
  go_wp2_with fail
  refine (WE _ g gb gp gw _ (by omega) D6.out).mono ?_
  rintro e w7 ⟨rfl, d7, k7⟩
  have D7 : Hid (DiskAt w7 g gb gp gw 2 (newS 3)) := Lib.hid d7
  have B7 := Lib.hid (B6.out.trans (k7.below B6.out.size HF.out))
  have T7 := Lib.hid (T6.out.trans k7)
  clear T6
  clear D6 B6 d7 k7
  go_wp2_with fail
  refine (WS _ g gb gp gw _ (by omega) D7.out).mono ?_
  rintro e w8 ⟨rfl, d8, k8⟩
  have D8 : Hid (DiskAt w8 g gb gp gw 3 (newS 3)) := Lib.hid d8
  have B8 := Lib.hid (B7.out.trans (k8.below B7.out.size HF.out))
  have T8 := Lib.hid (T7.out.trans k8)
  clear T7
  clear D7 B7 d8 k8
  go_wp2_with fail
  refine (image_any _ g gb gp gw _ _ D8.out).mono ?_
  rintro e w9 ⟨A8, c8, rfl, i8, -, b9, -⟩
  have D9 := Lib.hid (D8.out.below b9)
  have B9 := Lib.hid (B8.out.trans (b9.mono B8.out.size))
  have T9 := Lib.hid (T8.out.trans (Keep.of_below b9 [g, gb, gp, gw]))
  clear T8
  clear D8 B8
  rw [t_len] at i8 ⊢
  have r6 := Rd.keepK I6.out T9.out LI6.out
  clear I6 LI6 b9 T9
  go_wp2_with fail
  refine (sameTexts_any _ _ 3 3 c6 c8 (newS 3).bl (newS 3).bl _ r6 i8 List.length_replicate List.length_replicate (by omega) true (Lib.hid (by simp))).mono ?_
  rintro e w10 ⟨rfl, b10⟩
  have D10 := Lib.hid (D9.out.below b10)
  have B10 := Lib.hid (B9.out.trans (b10.mono B9.out.size))
  clear D9 B9
  clear b10 r6 i8
  go_wp2_with fail
  refine (pending_any _ g gb gp gw _ _ D10.out (by omega)).mono ?_
  rintro e w11 ⟨v9, rfl, p9, b11⟩
  have D11 := Lib.hid (D10.out.below b11)
  have B11 := Lib.hid (B10.out.trans (b11.mono B10.out.size))
  clear D10 B10
  rw [t_keys.1] at p9
  obtain ⟨A9, c9, rfl, -⟩ := own_slice p9
  clear p9 b11
  go_wp2_with fail
  refine (worn_any _ g gb gp gw _ _ D11.out (by omega)).mono ?_
  rintro e w12 ⟨v10, rfl, p10, b12⟩
  have D12 := Lib.hid (D11.out.below b12)
  have B12 := Lib.hid (B11.out.trans (b12.mono B11.out.size))
  clear D11 B11
  rw [t_keys.2] at p10
  obtain ⟨A10, c10, rfl, -⟩ := own_slice p10
  clear p10 b12
  go_wp2_with fail
  go_ret
  exact ⟨rfl, B12.out⟩

set_option maxHeartbeats 16000000 in
set_option maxRecDepth 100000 in
theorem refuses_in_lo_ok (w : World) (sec i : Int) (s : ByteArray) (_hs1 : -9223372036854775808 ≤ sec) (_hs2 : sec ≤ 9223372036854775807) (hi1 : -9223372036854775808 ≤ i) (hi2 : i ≤ 9223372036854775807) (_hss : s.size ≤ 9223372036854775807) (hq : 1 ≤ sec ∧ sec ≤ 4096) (hj : i < 0) (hsb : Hid (s.size = 64)) :
    Calls Try.prog 3 #[.int .i64 sec, .int .i64 i, .string s] w (RetB (.bool true) w) := by
  obtain ⟨hq1, hq2⟩ := hq
  have e1 : decide (sec < 1) = false := by simp; omega
  have e2 : decide (4096 < sec) = false := by simp; omega
  have N3 : ∀ W : World, Calls Try.prog 9 #[.int .i64 3] W (NewPost 3 W) := fun W => new_any W 3 (by omega) (by omega)
  have hib : Hid (i < 0 ∨ 2 < i) := Lib.hid (.inl hj)
  obtain ⟨fx, hfx⟩ : ∃ fx : ByteArray, fx = ⟨(fullB 120).toArray⟩ := ⟨_, rfl⟩
  have FX : ∀ W : World, Calls Try.prog 13 #[.int .u8 120] W (RetB (.string fx) W) := fun W => by rw [hfx]; exact full_any W 120
  have RD : ∀ (W : World) (g gb gp gw K : Nat), DiskAt W g gb gp gw K (newS 3) → Calls Try.prog 11 #[.pointer (some ⟨g, 0, none⟩), .int .i64 i] W (RetB (.tuple #[.string ⟨#[]⟩, .int .i64 1]) W) := fun W g gb gp gw K h => read_is W g gb gp gw K _ h i hi1 hi2 [] 1 (t_read i hib.out) (t_check i hib.out) ⟨#[]⟩ rfl
  have WR : ∀ (W : World) (g gb gp gw K : Nat), K ≤ 100000 → DiskAt W g gb gp gw K (newS 3) → Calls Try.prog 12 #[.pointer (some ⟨g, 0, none⟩), .int .i64 i, .string fx] W (DPost (.int .i64 1) g gb gp gw (K + 1) (newS 3) W) := fun W g gb gp gw K hK h => by
    have := write_full W g gb gp gw K _ h hK i hi1 hi2 120 fx hfx 1 (t_we i hib.out _).1
    rwa [(t_we i hib.out _).2] at this
  have RT : ∀ (W : World) (g gb gp gw K : Nat), DiskAt W g gb gp gw K (newS 3) → Calls Try.prog 14 #[.pointer (some ⟨g, 0, none⟩), .int .i64 i, .int .i64 0] W (DPost (.int .i64 1) g gb gp gw K (newS 3) W) := fun W g gb gp gw K h => by
    have := rot_any W g gb gp gw K _ h i 0
    rwa [(t_rot i hib.out).1, (t_rot i hib.out).2] at this
  have WE : ∀ (W : World) (g gb gp gw K : Nat), K ≤ 100000 → DiskAt W g gb gp gw K (newS 3) → Calls Try.prog 15 #[.pointer (some ⟨g, 0, none⟩), .int .i64 i] W (DPost (.int .i64 1) g gb gp gw (K + 1) (newS 3) W) := fun W g gb gp gw K hK h => by
    have := wear_any W g gb gp gw K _ h hK i hi1 hi2
    rwa [(t_wear i hib.out).1, (t_wear i hib.out).2] at this
  clear hfx
  have x1 : ((s.size : Int) != 64) = false := by rw [bne_eq_false_iff_eq]; have := hsb.out; omega
  have x2 : ((s.size : Int) == 64) = true := by rw [beq_iff_eq]; have := hsb.out; omega
  go_enter Try.func3, Try.ntmps3
  go_wp2_with fail
  refine (sanity_any _).mono ?_
  rintro e w0 ⟨rfl, b0⟩
  have B0 := Lib.hid b0
  clear b0
  go_wp2_with fail
  refine (N3 _).mono ?_
  rintro e w1 ⟨g, gb, gp, gw, rfl, d1, b1, l1, l2, l3, l4⟩
  have HF : Hid (∀ k, k ∈ [g, gb, gp, gw] → w.heap.size ≤ k) := Lib.hid (by
    intro k hk
    have hz := B0.out.size
    simp only [List.mem_cons, List.not_mem_nil, or_false] at hk
    rcases hk with rfl | rfl | rfl | rfl <;> omega)
  have D1 := Lib.hid d1
  have B1 := Lib.hid (B0.out.trans (b1.mono B0.out.size))
  have FLi : Hid (∀ k, k ∈ [g, gb, gp, gw] → k < w1.heap.size) := Lib.hid (by
    intro k hk
    have := d1.lt
    simp only [List.mem_cons, List.not_mem_nil, or_false] at hk
    rcases hk with rfl | rfl | rfl | rfl <;> omega)
  clear d1 b1 l1 l2 l3 l4 B0
  go_wp2_with fail
  refine (image_any _ g gb gp gw _ _ D1.out).mono ?_
  rintro e w2 ⟨A6, c6, rfl, i6, -, b2, li6⟩
  have D2 := Lib.hid (D1.out.below b2)
  have B2 := Lib.hid (B1.out.trans (b2.mono B1.out.size))
  clear D1 B1
  rw [t_len] at i6 ⊢
  have I6 := Lib.hid i6
  have LI6 : Hid (∀ b o, A6 = some ⟨b, o, none⟩ → b ∉ [g, gb, gp, gw]) := Lib.hid (fun b o e hm => by
    have h1 := li6 b o e
    have h2 := FLi.out b hm
    omega)
  have T2 : Hid (Keep [g, gb, gp, gw] w2 w2) := Lib.hid (Keep.refl _ _)
  clear i6 li6 b2 FLi
  go_wp2_with fail
  refine (RD _ g gb gp gw _ D2.out).mono ?_
  rintro e w3 ⟨rfl, b3⟩
  have D3 := Lib.hid (D2.out.below b3)
  have B3 := Lib.hid (B2.out.trans (b3.mono B2.out.size))
  have T3 := Lib.hid (T2.out.trans (Keep.of_below b3 [g, gb, gp, gw]))
  clear T2
  clear D2 B2
  clear b3
  go_wp2_with fail
  refine (FX _).mono ?_
  rintro e w4 ⟨rfl, b4⟩
  have D4 := Lib.hid (D3.out.below b4)
  have B4 := Lib.hid (B3.out.trans (b4.mono B3.out.size))
  have T4 := Lib.hid (T3.out.trans (Keep.of_below b4 [g, gb, gp, gw]))
  clear T3
  clear D3 B3
  clear b4
  go_wp2_with fail
  refine (WR _ g gb gp gw _ (by omega) D4.out).mono ?_
  rintro e w5 ⟨rfl, d5, k5⟩
  have D5 : Hid (DiskAt w5 g gb gp gw 1 (newS 3)) := Lib.hid d5
  have B5 := Lib.hid (B4.out.trans (k5.below B4.out.size HF.out))
  have T5 := Lib.hid (T4.out.trans k5)
  clear T4
  clear D4 B4 d5 k5
  go_wp2_with fail
  refine (RT _ g gb gp gw _ D5.out).mono ?_
  rintro e w6 ⟨rfl, d6, k6⟩
  have D6 : Hid (DiskAt w6 g gb gp gw 1 (newS 3)) := Lib.hid d6
  have B6 := Lib.hid (B5.out.trans (k6.below B5.out.size HF.out))
  have T6 := Lib.hid (T5.out.trans k6)
  clear T5
  clear D5 B5 d6 k6
  go_wp2_with fail
  refine (WE _ g gb gp gw _ (by omega) D6.out).mono ?_
  rintro e w7 ⟨rfl, d7, k7⟩
  have D7 : Hid (DiskAt w7 g gb gp gw 2 (newS 3)) := Lib.hid d7
  have B7 := Lib.hid (B6.out.trans (k7.below B6.out.size HF.out))
  have T7 := Lib.hid (T6.out.trans k7)
  clear T6
  clear D6 B6 d7 k7
  go_wp2_with fail
  refine (image_any _ g gb gp gw _ _ D7.out).mono ?_
  rintro e w8 ⟨A8, c8, rfl, i8, -, b8, -⟩
  have D8 := Lib.hid (D7.out.below b8)
  have B8 := Lib.hid (B7.out.trans (b8.mono B7.out.size))
  have T8 := Lib.hid (T7.out.trans (Keep.of_below b8 [g, gb, gp, gw]))
  clear T7
  clear D7 B7
  rw [t_len] at i8 ⊢
  have r6 := Rd.keepK I6.out T8.out LI6.out
  clear I6 LI6 b8 T8
  go_wp2_with fail
  refine (sameTexts_any _ _ 3 3 c6 c8 (newS 3).bl (newS 3).bl _ r6 i8 List.length_replicate List.length_replicate (by omega) true (Lib.hid (by simp))).mono ?_
  rintro e w9 ⟨rfl, b9⟩
  have D9 := Lib.hid (D8.out.below b9)
  have B9 := Lib.hid (B8.out.trans (b9.mono B8.out.size))
  clear D8 B8
  clear b9 r6 i8
  go_wp2_with fail
  refine (pending_any _ g gb gp gw _ _ D9.out (by omega)).mono ?_
  rintro e w10 ⟨v9, rfl, p9, b10⟩
  have D10 := Lib.hid (D9.out.below b10)
  have B10 := Lib.hid (B9.out.trans (b10.mono B9.out.size))
  clear D9 B9
  rw [t_keys.1] at p9
  obtain ⟨A9, c9, rfl, -⟩ := own_slice p9
  clear p9 b10
  go_wp2_with fail
  refine (worn_any _ g gb gp gw _ _ D10.out (by omega)).mono ?_
  rintro e w11 ⟨v10, rfl, p10, b11⟩
  have D11 := Lib.hid (D10.out.below b11)
  have B11 := Lib.hid (B10.out.trans (b11.mono B10.out.size))
  clear D10 B10
  rw [t_keys.2] at p10
  obtain ⟨A10, c10, rfl, -⟩ := own_slice p10
  clear p10 b11
  go_wp2_with fail
  go_ret
  exact ⟨rfl, B11.out⟩

set_option maxHeartbeats 16000000 in
set_option maxRecDepth 100000 in
theorem refuses_in_hi_bad (w : World) (sec i : Int) (s : ByteArray) (_hs1 : -9223372036854775808 ≤ sec) (_hs2 : sec ≤ 9223372036854775807) (hi1 : -9223372036854775808 ≤ i) (hi2 : i ≤ 9223372036854775807) (hss : s.size ≤ 9223372036854775807) (hq : 1 ≤ sec ∧ sec ≤ 4096) (hj : 2 < i) (hsb : Hid (s.size ≠ 64)) :
    Calls Try.prog 3 #[.int .i64 sec, .int .i64 i, .string s] w (RetB (.bool true) w) := by
  obtain ⟨hq1, hq2⟩ := hq
  have e1 : decide (sec < 1) = false := by simp; omega
  have e2 : decide (4096 < sec) = false := by simp; omega
  have N3 : ∀ W : World, Calls Try.prog 9 #[.int .i64 3] W (NewPost 3 W) := fun W => new_any W 3 (by omega) (by omega)
  have hib : Hid (i < 0 ∨ 2 < i) := Lib.hid (.inr hj)
  have hj0 : decide (i < 0) = false := by simp; omega
  obtain ⟨fx, hfx⟩ : ∃ fx : ByteArray, fx = ⟨(fullB 120).toArray⟩ := ⟨_, rfl⟩
  have FX : ∀ W : World, Calls Try.prog 13 #[.int .u8 120] W (RetB (.string fx) W) := fun W => by rw [hfx]; exact full_any W 120
  have RD : ∀ (W : World) (g gb gp gw K : Nat), DiskAt W g gb gp gw K (newS 3) → Calls Try.prog 11 #[.pointer (some ⟨g, 0, none⟩), .int .i64 i] W (RetB (.tuple #[.string ⟨#[]⟩, .int .i64 1]) W) := fun W g gb gp gw K h => read_is W g gb gp gw K _ h i hi1 hi2 [] 1 (t_read i hib.out) (t_check i hib.out) ⟨#[]⟩ rfl
  have WR : ∀ (W : World) (g gb gp gw K : Nat), K ≤ 100000 → DiskAt W g gb gp gw K (newS 3) → Calls Try.prog 12 #[.pointer (some ⟨g, 0, none⟩), .int .i64 i, .string fx] W (DPost (.int .i64 1) g gb gp gw (K + 1) (newS 3) W) := fun W g gb gp gw K hK h => by
    have := write_full W g gb gp gw K _ h hK i hi1 hi2 120 fx hfx 1 (t_we i hib.out _).1
    rwa [(t_we i hib.out _).2] at this
  have RT : ∀ (W : World) (g gb gp gw K : Nat), DiskAt W g gb gp gw K (newS 3) → Calls Try.prog 14 #[.pointer (some ⟨g, 0, none⟩), .int .i64 i, .int .i64 0] W (DPost (.int .i64 1) g gb gp gw K (newS 3) W) := fun W g gb gp gw K h => by
    have := rot_any W g gb gp gw K _ h i 0
    rwa [(t_rot i hib.out).1, (t_rot i hib.out).2] at this
  have WE : ∀ (W : World) (g gb gp gw K : Nat), K ≤ 100000 → DiskAt W g gb gp gw K (newS 3) → Calls Try.prog 15 #[.pointer (some ⟨g, 0, none⟩), .int .i64 i] W (DPost (.int .i64 1) g gb gp gw (K + 1) (newS 3) W) := fun W g gb gp gw K hK h => by
    have := wear_any W g gb gp gw K _ h hK i hi1 hi2
    rwa [(t_wear i hib.out).1, (t_wear i hib.out).2] at this
  clear hfx
  have WS : ∀ (W : World) (g gb gp gw K : Nat), K ≤ 100000 → DiskAt W g gb gp gw K (newS 3) → Calls Try.prog 12 #[.pointer (some ⟨g, 0, none⟩), .int .i64 0, .string s] W (DPost (.int .i64 1) g gb gp gw (K + 1) (newS 3) W) := fun W g gb gp gw K hK h => by
    have := write_any W g gb gp gw K _ h hK 0 (by omega) (by omega) s hss
    have hl : s.data.toList.length ≠ 64 := by rw [show s.data.toList.length = s.size from by simp]; exact hsb.out
    rwa [(t_ws _ hl).1, (t_ws _ hl).2] at this
  have x1 : ((s.size : Int) != 64) = true := by rw [bne_iff_ne]; have := hsb.out; omega
  have x2 : ((s.size : Int) == 64) = false := beq_eq_false_iff_ne.2 (by have := hsb.out; omega)
  go_enter Try.func3, Try.ntmps3
  go_wp2_with fail
  refine (sanity_any _).mono ?_
  rintro e w0 ⟨rfl, b0⟩
  have B0 := Lib.hid b0
  clear b0
  go_wp2_with fail
  refine (N3 _).mono ?_
  rintro e w1 ⟨g, gb, gp, gw, rfl, d1, b1, l1, l2, l3, l4⟩
  have HF : Hid (∀ k, k ∈ [g, gb, gp, gw] → w.heap.size ≤ k) := Lib.hid (by
    intro k hk
    have hz := B0.out.size
    simp only [List.mem_cons, List.not_mem_nil, or_false] at hk
    rcases hk with rfl | rfl | rfl | rfl <;> omega)
  have D1 := Lib.hid d1
  have B1 := Lib.hid (B0.out.trans (b1.mono B0.out.size))
  have FLi : Hid (∀ k, k ∈ [g, gb, gp, gw] → k < w1.heap.size) := Lib.hid (by
    intro k hk
    have := d1.lt
    simp only [List.mem_cons, List.not_mem_nil, or_false] at hk
    rcases hk with rfl | rfl | rfl | rfl <;> omega)
  clear d1 b1 l1 l2 l3 l4 B0
  go_wp2_with fail
  refine (image_any _ g gb gp gw _ _ D1.out).mono ?_
  rintro e w2 ⟨A6, c6, rfl, i6, -, b2, li6⟩
  have D2 := Lib.hid (D1.out.below b2)
  have B2 := Lib.hid (B1.out.trans (b2.mono B1.out.size))
  clear D1 B1
  rw [t_len] at i6 ⊢
  have I6 := Lib.hid i6
  have LI6 : Hid (∀ b o, A6 = some ⟨b, o, none⟩ → b ∉ [g, gb, gp, gw]) := Lib.hid (fun b o e hm => by
    have h1 := li6 b o e
    have h2 := FLi.out b hm
    omega)
  have T2 : Hid (Keep [g, gb, gp, gw] w2 w2) := Lib.hid (Keep.refl _ _)
  clear i6 li6 b2 FLi
  go_wp2_with fail
  refine (RD _ g gb gp gw _ D2.out).mono ?_
  rintro e w3 ⟨rfl, b3⟩
  have D3 := Lib.hid (D2.out.below b3)
  have B3 := Lib.hid (B2.out.trans (b3.mono B2.out.size))
  have T3 := Lib.hid (T2.out.trans (Keep.of_below b3 [g, gb, gp, gw]))
  clear T2
  clear D2 B2
  clear b3
  go_wp2_with fail
  refine (FX _).mono ?_
  rintro e w4 ⟨rfl, b4⟩
  have D4 := Lib.hid (D3.out.below b4)
  have B4 := Lib.hid (B3.out.trans (b4.mono B3.out.size))
  have T4 := Lib.hid (T3.out.trans (Keep.of_below b4 [g, gb, gp, gw]))
  clear T3
  clear D3 B3
  clear b4
  go_wp2_with fail
  refine (WR _ g gb gp gw _ (by omega) D4.out).mono ?_
  rintro e w5 ⟨rfl, d5, k5⟩
  have D5 : Hid (DiskAt w5 g gb gp gw 1 (newS 3)) := Lib.hid d5
  have B5 := Lib.hid (B4.out.trans (k5.below B4.out.size HF.out))
  have T5 := Lib.hid (T4.out.trans k5)
  clear T4
  clear D4 B4 d5 k5
  go_wp2_with fail
  refine (RT _ g gb gp gw _ D5.out).mono ?_
  rintro e w6 ⟨rfl, d6, k6⟩
  have D6 : Hid (DiskAt w6 g gb gp gw 1 (newS 3)) := Lib.hid d6
  have B6 := Lib.hid (B5.out.trans (k6.below B5.out.size HF.out))
  have T6 := Lib.hid (T5.out.trans k6)
  clear T5
  clear D5 B5 d6 k6
  go_wp2_with fail
  refine (WE _ g gb gp gw _ (by omega) D6.out).mono ?_
  rintro e w7 ⟨rfl, d7, k7⟩
  have D7 : Hid (DiskAt w7 g gb gp gw 2 (newS 3)) := Lib.hid d7
  have B7 := Lib.hid (B6.out.trans (k7.below B6.out.size HF.out))
  have T7 := Lib.hid (T6.out.trans k7)
  clear T6
  clear D6 B6 d7 k7
  go_wp2_with fail
  refine (WS _ g gb gp gw _ (by omega) D7.out).mono ?_
  rintro e w8 ⟨rfl, d8, k8⟩
  have D8 : Hid (DiskAt w8 g gb gp gw 3 (newS 3)) := Lib.hid d8
  have B8 := Lib.hid (B7.out.trans (k8.below B7.out.size HF.out))
  have T8 := Lib.hid (T7.out.trans k8)
  clear T7
  clear D7 B7 d8 k8
  go_wp2_with fail
  refine (image_any _ g gb gp gw _ _ D8.out).mono ?_
  rintro e w9 ⟨A8, c8, rfl, i8, -, b9, -⟩
  have D9 := Lib.hid (D8.out.below b9)
  have B9 := Lib.hid (B8.out.trans (b9.mono B8.out.size))
  have T9 := Lib.hid (T8.out.trans (Keep.of_below b9 [g, gb, gp, gw]))
  clear T8
  clear D8 B8
  rw [t_len] at i8 ⊢
  have r6 := Rd.keepK I6.out T9.out LI6.out
  clear I6 LI6 b9 T9
  go_wp2_with fail
  refine (sameTexts_any _ _ 3 3 c6 c8 (newS 3).bl (newS 3).bl _ r6 i8 List.length_replicate List.length_replicate (by omega) true (Lib.hid (by simp))).mono ?_
  rintro e w10 ⟨rfl, b10⟩
  have D10 := Lib.hid (D9.out.below b10)
  have B10 := Lib.hid (B9.out.trans (b10.mono B9.out.size))
  clear D9 B9
  clear b10 r6 i8
  go_wp2_with fail
  refine (pending_any _ g gb gp gw _ _ D10.out (by omega)).mono ?_
  rintro e w11 ⟨v9, rfl, p9, b11⟩
  have D11 := Lib.hid (D10.out.below b11)
  have B11 := Lib.hid (B10.out.trans (b11.mono B10.out.size))
  clear D10 B10
  rw [t_keys.1] at p9
  obtain ⟨A9, c9, rfl, -⟩ := own_slice p9
  clear p9 b11
  go_wp2_with fail
  refine (worn_any _ g gb gp gw _ _ D11.out (by omega)).mono ?_
  rintro e w12 ⟨v10, rfl, p10, b12⟩
  have D12 := Lib.hid (D11.out.below b12)
  have B12 := Lib.hid (B11.out.trans (b12.mono B11.out.size))
  clear D11 B11
  rw [t_keys.2] at p10
  obtain ⟨A10, c10, rfl, -⟩ := own_slice p10
  clear p10 b12
  go_wp2_with fail
  go_ret
  exact ⟨rfl, B12.out⟩

set_option maxHeartbeats 16000000 in
set_option maxRecDepth 100000 in
theorem refuses_in_hi_ok (w : World) (sec i : Int) (s : ByteArray) (_hs1 : -9223372036854775808 ≤ sec) (_hs2 : sec ≤ 9223372036854775807) (hi1 : -9223372036854775808 ≤ i) (hi2 : i ≤ 9223372036854775807) (_hss : s.size ≤ 9223372036854775807) (hq : 1 ≤ sec ∧ sec ≤ 4096) (hj : 2 < i) (hsb : Hid (s.size = 64)) :
    Calls Try.prog 3 #[.int .i64 sec, .int .i64 i, .string s] w (RetB (.bool true) w) := by
  obtain ⟨hq1, hq2⟩ := hq
  have e1 : decide (sec < 1) = false := by simp; omega
  have e2 : decide (4096 < sec) = false := by simp; omega
  have N3 : ∀ W : World, Calls Try.prog 9 #[.int .i64 3] W (NewPost 3 W) := fun W => new_any W 3 (by omega) (by omega)
  have hib : Hid (i < 0 ∨ 2 < i) := Lib.hid (.inr hj)
  have hj0 : decide (i < 0) = false := by simp; omega
  obtain ⟨fx, hfx⟩ : ∃ fx : ByteArray, fx = ⟨(fullB 120).toArray⟩ := ⟨_, rfl⟩
  have FX : ∀ W : World, Calls Try.prog 13 #[.int .u8 120] W (RetB (.string fx) W) := fun W => by rw [hfx]; exact full_any W 120
  have RD : ∀ (W : World) (g gb gp gw K : Nat), DiskAt W g gb gp gw K (newS 3) → Calls Try.prog 11 #[.pointer (some ⟨g, 0, none⟩), .int .i64 i] W (RetB (.tuple #[.string ⟨#[]⟩, .int .i64 1]) W) := fun W g gb gp gw K h => read_is W g gb gp gw K _ h i hi1 hi2 [] 1 (t_read i hib.out) (t_check i hib.out) ⟨#[]⟩ rfl
  have WR : ∀ (W : World) (g gb gp gw K : Nat), K ≤ 100000 → DiskAt W g gb gp gw K (newS 3) → Calls Try.prog 12 #[.pointer (some ⟨g, 0, none⟩), .int .i64 i, .string fx] W (DPost (.int .i64 1) g gb gp gw (K + 1) (newS 3) W) := fun W g gb gp gw K hK h => by
    have := write_full W g gb gp gw K _ h hK i hi1 hi2 120 fx hfx 1 (t_we i hib.out _).1
    rwa [(t_we i hib.out _).2] at this
  have RT : ∀ (W : World) (g gb gp gw K : Nat), DiskAt W g gb gp gw K (newS 3) → Calls Try.prog 14 #[.pointer (some ⟨g, 0, none⟩), .int .i64 i, .int .i64 0] W (DPost (.int .i64 1) g gb gp gw K (newS 3) W) := fun W g gb gp gw K h => by
    have := rot_any W g gb gp gw K _ h i 0
    rwa [(t_rot i hib.out).1, (t_rot i hib.out).2] at this
  have WE : ∀ (W : World) (g gb gp gw K : Nat), K ≤ 100000 → DiskAt W g gb gp gw K (newS 3) → Calls Try.prog 15 #[.pointer (some ⟨g, 0, none⟩), .int .i64 i] W (DPost (.int .i64 1) g gb gp gw (K + 1) (newS 3) W) := fun W g gb gp gw K hK h => by
    have := wear_any W g gb gp gw K _ h hK i hi1 hi2
    rwa [(t_wear i hib.out).1, (t_wear i hib.out).2] at this
  clear hfx
  have x1 : ((s.size : Int) != 64) = false := by rw [bne_eq_false_iff_eq]; have := hsb.out; omega
  have x2 : ((s.size : Int) == 64) = true := by rw [beq_iff_eq]; have := hsb.out; omega
  go_enter Try.func3, Try.ntmps3
  go_wp2_with fail
  refine (sanity_any _).mono ?_
  rintro e w0 ⟨rfl, b0⟩
  have B0 := Lib.hid b0
  clear b0
  go_wp2_with fail
  refine (N3 _).mono ?_
  rintro e w1 ⟨g, gb, gp, gw, rfl, d1, b1, l1, l2, l3, l4⟩
  have HF : Hid (∀ k, k ∈ [g, gb, gp, gw] → w.heap.size ≤ k) := Lib.hid (by
    intro k hk
    have hz := B0.out.size
    simp only [List.mem_cons, List.not_mem_nil, or_false] at hk
    rcases hk with rfl | rfl | rfl | rfl <;> omega)
  have D1 := Lib.hid d1
  have B1 := Lib.hid (B0.out.trans (b1.mono B0.out.size))
  have FLi : Hid (∀ k, k ∈ [g, gb, gp, gw] → k < w1.heap.size) := Lib.hid (by
    intro k hk
    have := d1.lt
    simp only [List.mem_cons, List.not_mem_nil, or_false] at hk
    rcases hk with rfl | rfl | rfl | rfl <;> omega)
  clear d1 b1 l1 l2 l3 l4 B0
  go_wp2_with fail
  refine (image_any _ g gb gp gw _ _ D1.out).mono ?_
  rintro e w2 ⟨A6, c6, rfl, i6, -, b2, li6⟩
  have D2 := Lib.hid (D1.out.below b2)
  have B2 := Lib.hid (B1.out.trans (b2.mono B1.out.size))
  clear D1 B1
  rw [t_len] at i6 ⊢
  have I6 := Lib.hid i6
  have LI6 : Hid (∀ b o, A6 = some ⟨b, o, none⟩ → b ∉ [g, gb, gp, gw]) := Lib.hid (fun b o e hm => by
    have h1 := li6 b o e
    have h2 := FLi.out b hm
    omega)
  have T2 : Hid (Keep [g, gb, gp, gw] w2 w2) := Lib.hid (Keep.refl _ _)
  clear i6 li6 b2 FLi
  go_wp2_with fail
  refine (RD _ g gb gp gw _ D2.out).mono ?_
  rintro e w3 ⟨rfl, b3⟩
  have D3 := Lib.hid (D2.out.below b3)
  have B3 := Lib.hid (B2.out.trans (b3.mono B2.out.size))
  have T3 := Lib.hid (T2.out.trans (Keep.of_below b3 [g, gb, gp, gw]))
  clear T2
  clear D2 B2
  clear b3
  go_wp2_with fail
  refine (FX _).mono ?_
  rintro e w4 ⟨rfl, b4⟩
  have D4 := Lib.hid (D3.out.below b4)
  have B4 := Lib.hid (B3.out.trans (b4.mono B3.out.size))
  have T4 := Lib.hid (T3.out.trans (Keep.of_below b4 [g, gb, gp, gw]))
  clear T3
  clear D3 B3
  clear b4
  go_wp2_with fail
  refine (WR _ g gb gp gw _ (by omega) D4.out).mono ?_
  rintro e w5 ⟨rfl, d5, k5⟩
  have D5 : Hid (DiskAt w5 g gb gp gw 1 (newS 3)) := Lib.hid d5
  have B5 := Lib.hid (B4.out.trans (k5.below B4.out.size HF.out))
  have T5 := Lib.hid (T4.out.trans k5)
  clear T4
  clear D4 B4 d5 k5
  go_wp2_with fail
  refine (RT _ g gb gp gw _ D5.out).mono ?_
  rintro e w6 ⟨rfl, d6, k6⟩
  have D6 : Hid (DiskAt w6 g gb gp gw 1 (newS 3)) := Lib.hid d6
  have B6 := Lib.hid (B5.out.trans (k6.below B5.out.size HF.out))
  have T6 := Lib.hid (T5.out.trans k6)
  clear T5
  clear D5 B5 d6 k6
  go_wp2_with fail
  refine (WE _ g gb gp gw _ (by omega) D6.out).mono ?_
  rintro e w7 ⟨rfl, d7, k7⟩
  have D7 : Hid (DiskAt w7 g gb gp gw 2 (newS 3)) := Lib.hid d7
  have B7 := Lib.hid (B6.out.trans (k7.below B6.out.size HF.out))
  have T7 := Lib.hid (T6.out.trans k7)
  clear T6
  clear D6 B6 d7 k7
  go_wp2_with fail
  refine (image_any _ g gb gp gw _ _ D7.out).mono ?_
  rintro e w8 ⟨A8, c8, rfl, i8, -, b8, -⟩
  have D8 := Lib.hid (D7.out.below b8)
  have B8 := Lib.hid (B7.out.trans (b8.mono B7.out.size))
  have T8 := Lib.hid (T7.out.trans (Keep.of_below b8 [g, gb, gp, gw]))
  clear T7
  clear D7 B7
  rw [t_len] at i8 ⊢
  have r6 := Rd.keepK I6.out T8.out LI6.out
  clear I6 LI6 b8 T8
  go_wp2_with fail
  refine (sameTexts_any _ _ 3 3 c6 c8 (newS 3).bl (newS 3).bl _ r6 i8 List.length_replicate List.length_replicate (by omega) true (Lib.hid (by simp))).mono ?_
  rintro e w9 ⟨rfl, b9⟩
  have D9 := Lib.hid (D8.out.below b9)
  have B9 := Lib.hid (B8.out.trans (b9.mono B8.out.size))
  clear D8 B8
  clear b9 r6 i8
  go_wp2_with fail
  refine (pending_any _ g gb gp gw _ _ D9.out (by omega)).mono ?_
  rintro e w10 ⟨v9, rfl, p9, b10⟩
  have D10 := Lib.hid (D9.out.below b10)
  have B10 := Lib.hid (B9.out.trans (b10.mono B9.out.size))
  clear D9 B9
  rw [t_keys.1] at p9
  obtain ⟨A9, c9, rfl, -⟩ := own_slice p9
  clear p9 b10
  go_wp2_with fail
  refine (worn_any _ g gb gp gw _ _ D10.out (by omega)).mono ?_
  rintro e w11 ⟨v10, rfl, p10, b11⟩
  have D11 := Lib.hid (D10.out.below b11)
  have B11 := Lib.hid (B10.out.trans (b11.mono B10.out.size))
  clear D10 B10
  rw [t_keys.2] at p10
  obtain ⟨A10, c10, rfl, -⟩ := own_slice p10
  clear p10 b11
  go_wp2_with fail
  go_ret
  exact ⟨rfl, B11.out⟩

set_option maxHeartbeats 16000000 in
set_option maxRecDepth 100000 in
theorem refuses_in_in_bad (w : World) (sec i : Int) (s : ByteArray) (_hs1 : -9223372036854775808 ≤ sec) (_hs2 : sec ≤ 9223372036854775807) (_hi1 : -9223372036854775808 ≤ i) (_hi2 : i ≤ 9223372036854775807) (hss : s.size ≤ 9223372036854775807) (hq : 1 ≤ sec ∧ sec ≤ 4096) (hj : 0 ≤ i ∧ i ≤ 2) (hsb : Hid (s.size ≠ 64)) :
    Calls Try.prog 3 #[.int .i64 sec, .int .i64 i, .string s] w (RetB (.bool true) w) := by
  obtain ⟨hq1, hq2⟩ := hq
  have e1 : decide (sec < 1) = false := by simp; omega
  have e2 : decide (4096 < sec) = false := by simp; omega
  have N3 : ∀ W : World, Calls Try.prog 9 #[.int .i64 3] W (NewPost 3 W) := fun W => new_any W 3 (by omega) (by omega)
  obtain ⟨hj1, hj2⟩ := hj
  have e3 : decide (i < 0) = false := by simp; omega
  have e4 : decide (2 < i) = false := by simp; omega
  have WS : ∀ (W : World) (g gb gp gw K : Nat), K ≤ 100000 → DiskAt W g gb gp gw K (newS 3) → Calls Try.prog 12 #[.pointer (some ⟨g, 0, none⟩), .int .i64 0, .string s] W (DPost (.int .i64 1) g gb gp gw (K + 1) (newS 3) W) := fun W g gb gp gw K hK h => by
    have := write_any W g gb gp gw K _ h hK 0 (by omega) (by omega) s hss
    have hl : s.data.toList.length ≠ 64 := by rw [show s.data.toList.length = s.size from by simp]; exact hsb.out
    rwa [(t_ws _ hl).1, (t_ws _ hl).2] at this
  have x1 : ((s.size : Int) != 64) = true := by rw [bne_iff_ne]; have := hsb.out; omega
  have x2 : ((s.size : Int) == 64) = false := beq_eq_false_iff_ne.2 (by have := hsb.out; omega)
  go_enter Try.func3, Try.ntmps3
  go_wp2_with fail
  refine (sanity_any _).mono ?_
  rintro e w0 ⟨rfl, b0⟩
  have B0 := Lib.hid b0
  clear b0
  go_wp2_with fail
  refine (N3 _).mono ?_
  rintro e w1 ⟨g, gb, gp, gw, rfl, d1, b1, l1, l2, l3, l4⟩
  have HF : Hid (∀ k, k ∈ [g, gb, gp, gw] → w.heap.size ≤ k) := Lib.hid (by
    intro k hk
    have hz := B0.out.size
    simp only [List.mem_cons, List.not_mem_nil, or_false] at hk
    rcases hk with rfl | rfl | rfl | rfl <;> omega)
  have D1 := Lib.hid d1
  have B1 := Lib.hid (B0.out.trans (b1.mono B0.out.size))
  have FLi : Hid (∀ k, k ∈ [g, gb, gp, gw] → k < w1.heap.size) := Lib.hid (by
    intro k hk
    have := d1.lt
    simp only [List.mem_cons, List.not_mem_nil, or_false] at hk
    rcases hk with rfl | rfl | rfl | rfl <;> omega)
  clear d1 b1 l1 l2 l3 l4 B0
  go_wp2_with fail
  refine (image_any _ g gb gp gw _ _ D1.out).mono ?_
  rintro e w2 ⟨A6, c6, rfl, i6, -, b2, li6⟩
  have D2 := Lib.hid (D1.out.below b2)
  have B2 := Lib.hid (B1.out.trans (b2.mono B1.out.size))
  clear D1 B1
  rw [t_len] at i6 ⊢
  have I6 := Lib.hid i6
  have LI6 : Hid (∀ b o, A6 = some ⟨b, o, none⟩ → b ∉ [g, gb, gp, gw]) := Lib.hid (fun b o e hm => by
    have h1 := li6 b o e
    have h2 := FLi.out b hm
    omega)
  have T2 : Hid (Keep [g, gb, gp, gw] w2 w2) := Lib.hid (Keep.refl _ _)
  clear i6 li6 b2 FLi
  go_wp2_with fail
  refine (WS _ g gb gp gw _ (by omega) D2.out).mono ?_
  rintro e w3 ⟨rfl, d3, k3⟩
  have D3 : Hid (DiskAt w3 g gb gp gw 1 (newS 3)) := Lib.hid d3
  have B3 := Lib.hid (B2.out.trans (k3.below B2.out.size HF.out))
  have T3 := Lib.hid (T2.out.trans k3)
  clear T2
  clear D2 B2 d3 k3
  go_wp2_with fail
  refine (image_any _ g gb gp gw _ _ D3.out).mono ?_
  rintro e w4 ⟨A8, c8, rfl, i8, -, b4, -⟩
  have D4 := Lib.hid (D3.out.below b4)
  have B4 := Lib.hid (B3.out.trans (b4.mono B3.out.size))
  have T4 := Lib.hid (T3.out.trans (Keep.of_below b4 [g, gb, gp, gw]))
  clear T3
  clear D3 B3
  rw [t_len] at i8 ⊢
  have r6 := Rd.keepK I6.out T4.out LI6.out
  clear I6 LI6 b4 T4
  go_wp2_with fail
  refine (sameTexts_any _ _ 3 3 c6 c8 (newS 3).bl (newS 3).bl _ r6 i8 List.length_replicate List.length_replicate (by omega) true (Lib.hid (by simp))).mono ?_
  rintro e w5 ⟨rfl, b5⟩
  have D5 := Lib.hid (D4.out.below b5)
  have B5 := Lib.hid (B4.out.trans (b5.mono B4.out.size))
  clear D4 B4
  clear b5 r6 i8
  go_wp2_with fail
  refine (pending_any _ g gb gp gw _ _ D5.out (by omega)).mono ?_
  rintro e w6 ⟨v9, rfl, p9, b6⟩
  have D6 := Lib.hid (D5.out.below b6)
  have B6 := Lib.hid (B5.out.trans (b6.mono B5.out.size))
  clear D5 B5
  rw [t_keys.1] at p9
  obtain ⟨A9, c9, rfl, -⟩ := own_slice p9
  clear p9 b6
  go_wp2_with fail
  refine (worn_any _ g gb gp gw _ _ D6.out (by omega)).mono ?_
  rintro e w7 ⟨v10, rfl, p10, b7⟩
  have D7 := Lib.hid (D6.out.below b7)
  have B7 := Lib.hid (B6.out.trans (b7.mono B6.out.size))
  clear D6 B6
  rw [t_keys.2] at p10
  obtain ⟨A10, c10, rfl, -⟩ := own_slice p10
  clear p10 b7
  go_wp2_with fail
  go_ret
  exact ⟨rfl, B7.out⟩

set_option maxHeartbeats 16000000 in
set_option maxRecDepth 100000 in
theorem refuses_in_in_ok (w : World) (sec i : Int) (s : ByteArray) (_hs1 : -9223372036854775808 ≤ sec) (_hs2 : sec ≤ 9223372036854775807) (_hi1 : -9223372036854775808 ≤ i) (_hi2 : i ≤ 9223372036854775807) (_hss : s.size ≤ 9223372036854775807) (hq : 1 ≤ sec ∧ sec ≤ 4096) (hj : 0 ≤ i ∧ i ≤ 2) (hsb : Hid (s.size = 64)) :
    Calls Try.prog 3 #[.int .i64 sec, .int .i64 i, .string s] w (RetB (.bool true) w) := by
  obtain ⟨hq1, hq2⟩ := hq
  have e1 : decide (sec < 1) = false := by simp; omega
  have e2 : decide (4096 < sec) = false := by simp; omega
  have N3 : ∀ W : World, Calls Try.prog 9 #[.int .i64 3] W (NewPost 3 W) := fun W => new_any W 3 (by omega) (by omega)
  obtain ⟨hj1, hj2⟩ := hj
  have e3 : decide (i < 0) = false := by simp; omega
  have e4 : decide (2 < i) = false := by simp; omega
  have x1 : ((s.size : Int) != 64) = false := by rw [bne_eq_false_iff_eq]; have := hsb.out; omega
  have x2 : ((s.size : Int) == 64) = true := by rw [beq_iff_eq]; have := hsb.out; omega
  go_enter Try.func3, Try.ntmps3
  go_wp2_with fail
  refine (sanity_any _).mono ?_
  rintro e w0 ⟨rfl, b0⟩
  have B0 := Lib.hid b0
  clear b0
  go_wp2_with fail
  refine (N3 _).mono ?_
  rintro e w1 ⟨g, gb, gp, gw, rfl, d1, b1, l1, l2, l3, l4⟩
  have HF : Hid (∀ k, k ∈ [g, gb, gp, gw] → w.heap.size ≤ k) := Lib.hid (by
    intro k hk
    have hz := B0.out.size
    simp only [List.mem_cons, List.not_mem_nil, or_false] at hk
    rcases hk with rfl | rfl | rfl | rfl <;> omega)
  have D1 := Lib.hid d1
  have B1 := Lib.hid (B0.out.trans (b1.mono B0.out.size))
  have FLi : Hid (∀ k, k ∈ [g, gb, gp, gw] → k < w1.heap.size) := Lib.hid (by
    intro k hk
    have := d1.lt
    simp only [List.mem_cons, List.not_mem_nil, or_false] at hk
    rcases hk with rfl | rfl | rfl | rfl <;> omega)
  clear d1 b1 l1 l2 l3 l4 B0
  go_wp2_with fail
  refine (image_any _ g gb gp gw _ _ D1.out).mono ?_
  rintro e w2 ⟨A6, c6, rfl, i6, -, b2, li6⟩
  have D2 := Lib.hid (D1.out.below b2)
  have B2 := Lib.hid (B1.out.trans (b2.mono B1.out.size))
  clear D1 B1
  rw [t_len] at i6 ⊢
  have I6 := Lib.hid i6
  have LI6 : Hid (∀ b o, A6 = some ⟨b, o, none⟩ → b ∉ [g, gb, gp, gw]) := Lib.hid (fun b o e hm => by
    have h1 := li6 b o e
    have h2 := FLi.out b hm
    omega)
  have T2 : Hid (Keep [g, gb, gp, gw] w2 w2) := Lib.hid (Keep.refl _ _)
  clear i6 li6 b2 FLi
  go_wp2_with fail
  refine (image_any _ g gb gp gw _ _ D2.out).mono ?_
  rintro e w3 ⟨A8, c8, rfl, i8, -, b3, -⟩
  have D3 := Lib.hid (D2.out.below b3)
  have B3 := Lib.hid (B2.out.trans (b3.mono B2.out.size))
  have T3 := Lib.hid (T2.out.trans (Keep.of_below b3 [g, gb, gp, gw]))
  clear T2
  clear D2 B2
  rw [t_len] at i8 ⊢
  have r6 := Rd.keepK I6.out T3.out LI6.out
  clear I6 LI6 b3 T3
  go_wp2_with fail
  refine (sameTexts_any _ _ 3 3 c6 c8 (newS 3).bl (newS 3).bl _ r6 i8 List.length_replicate List.length_replicate (by omega) true (Lib.hid (by simp))).mono ?_
  rintro e w4 ⟨rfl, b4⟩
  have D4 := Lib.hid (D3.out.below b4)
  have B4 := Lib.hid (B3.out.trans (b4.mono B3.out.size))
  clear D3 B3
  clear b4 r6 i8
  go_wp2_with fail
  refine (pending_any _ g gb gp gw _ _ D4.out (by omega)).mono ?_
  rintro e w5 ⟨v9, rfl, p9, b5⟩
  have D5 := Lib.hid (D4.out.below b5)
  have B5 := Lib.hid (B4.out.trans (b5.mono B4.out.size))
  clear D4 B4
  rw [t_keys.1] at p9
  obtain ⟨A9, c9, rfl, -⟩ := own_slice p9
  clear p9 b5
  go_wp2_with fail
  refine (worn_any _ g gb gp gw _ _ D5.out (by omega)).mono ?_
  rintro e w6 ⟨v10, rfl, p10, b6⟩
  have D6 := Lib.hid (D5.out.below b6)
  have B6 := Lib.hid (B5.out.trans (b6.mono B5.out.size))
  clear D5 B5
  rw [t_keys.2] at p10
  obtain ⟨A10, c10, rfl, -⟩ := own_slice p10
  clear p10 b6
  go_wp2_with fail
  go_ret
  exact ⟨rfl, B6.out⟩

theorem refuses_any (w : World) (sec i : Int) (s : ByteArray) (hs1 : -9223372036854775808 ≤ sec) (hs2 : sec ≤ 9223372036854775807) (hi1 : -9223372036854775808 ≤ i) (hi2 : i ≤ 9223372036854775807) (hss : s.size ≤ 9223372036854775807) :
    Calls Try.prog 3 #[.int .i64 sec, .int .i64 i, .string s] w (RetB (.bool true) w) := by
  have h1 : sec < 1 ∨ 4096 < sec ∨ (1 ≤ sec ∧ sec ≤ 4096) := by omega
  have h2 : i < 0 ∨ 2 < i ∨ (0 ≤ i ∧ i ≤ 2) := by omega
  have h3 : s.size ≠ 64 ∨ s.size = 64 := by omega
  rcases h1 with h1 | h1 | h1
  · rcases h2 with h2 | h2 | h2
    · rcases h3 with h3 | h3
      · exact refuses_lo_lo_bad w sec i s hs1 hs2 hi1 hi2 hss h1 h2 (Lib.hid h3)
      · exact refuses_lo_lo_ok w sec i s hs1 hs2 hi1 hi2 hss h1 h2 (Lib.hid h3)
    · rcases h3 with h3 | h3
      · exact refuses_lo_hi_bad w sec i s hs1 hs2 hi1 hi2 hss h1 h2 (Lib.hid h3)
      · exact refuses_lo_hi_ok w sec i s hs1 hs2 hi1 hi2 hss h1 h2 (Lib.hid h3)
    · rcases h3 with h3 | h3
      · exact refuses_lo_in_bad w sec i s hs1 hs2 hi1 hi2 hss h1 h2 (Lib.hid h3)
      · exact refuses_lo_in_ok w sec i s hs1 hs2 hi1 hi2 hss h1 h2 (Lib.hid h3)
  · rcases h2 with h2 | h2 | h2
    · rcases h3 with h3 | h3
      · exact refuses_hi_lo_bad w sec i s hs1 hs2 hi1 hi2 hss h1 h2 (Lib.hid h3)
      · exact refuses_hi_lo_ok w sec i s hs1 hs2 hi1 hi2 hss h1 h2 (Lib.hid h3)
    · rcases h3 with h3 | h3
      · exact refuses_hi_hi_bad w sec i s hs1 hs2 hi1 hi2 hss h1 h2 (Lib.hid h3)
      · exact refuses_hi_hi_ok w sec i s hs1 hs2 hi1 hi2 hss h1 h2 (Lib.hid h3)
    · rcases h3 with h3 | h3
      · exact refuses_hi_in_bad w sec i s hs1 hs2 hi1 hi2 hss h1 h2 (Lib.hid h3)
      · exact refuses_hi_in_ok w sec i s hs1 hs2 hi1 hi2 hss h1 h2 (Lib.hid h3)
  · rcases h2 with h2 | h2 | h2
    · rcases h3 with h3 | h3
      · exact refuses_in_lo_bad w sec i s hs1 hs2 hi1 hi2 hss h1 h2 (Lib.hid h3)
      · exact refuses_in_lo_ok w sec i s hs1 hs2 hi1 hi2 hss h1 h2 (Lib.hid h3)
    · rcases h3 with h3 | h3
      · exact refuses_in_hi_bad w sec i s hs1 hs2 hi1 hi2 hss h1 h2 (Lib.hid h3)
      · exact refuses_in_hi_ok w sec i s hs1 hs2 hi1 hi2 hss h1 h2 (Lib.hid h3)
    · rcases h3 with h3 | h3
      · exact refuses_in_in_bad w sec i s hs1 hs2 hi1 hi2 hss h1 h2 (Lib.hid h3)
      · exact refuses_in_in_ok w sec i s hs1 hs2 hi1 hi2 hss h1 h2 (Lib.hid h3)
end Go.Proofs.Ytibhnjnfifpepaa
