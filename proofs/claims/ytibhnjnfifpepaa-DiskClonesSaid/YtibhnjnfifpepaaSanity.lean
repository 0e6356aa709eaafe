/- The walk of sanity. -/
import Derived.Test.YtibhnjnfifpepaaSane
import Derived.Deep.RegionHeld3
namespace Go.Proofs.Ytibhnjnfifpepaa
open Go.RowKit Go.Maps Go.Sort Go.Shelf

theorem write_full (w : World) (g gb gp gw K : Nat) (S : St) (h : DiskAt w g gb gp gw K S) (hK : K ≤ 100000) (i : Int) (h1 : -9223372036854775808 ≤ i) (h2 : i ≤ 9223372036854775807) (c : UInt8) (fa : ByteArray) (hfa : fa = ⟨(fullB c).toArray⟩) (E : Int) (hE : writeE S i (fullB c) = E) :
    Calls Try.prog 12 #[.pointer (some ⟨g, 0, none⟩), .int .i64 i, .string fa] w (DPost (.int .i64 E) g gb gp gw (K + 1) (writeS S i (fullB c)) w) := by
  have hz : fa.size = 64 := by rw [hfa, ByteArray.size, List.size_toArray, fullB, List.length_replicate]
  have := write_any w g gb gp gw K S h hK i h1 h2 fa (by omega)
  rw [show fa.data.toList = fullB c from by rw [hfa], hE] at this
  exact this
theorem read_is (w : World) (g gb gp gw K : Nat) (S : St) (h : DiskAt w g gb gp gw K S) (i : Int) (h1 : -9223372036854775808 ≤ i) (h2 : i ≤ 9223372036854775807) (b : Bs) (E : Int) (hb : readB S i = b) (hE : checkE S i = E) (x : ByteArray) (hx : x = ⟨b.toArray⟩) :
    Calls Try.prog 11 #[.pointer (some ⟨g, 0, none⟩), .int .i64 i] w (RetB (.tuple #[.string x, .int .i64 E]) w) := by
  have := read_any w g gb gp gw K S h i h1 h2
  rw [hb, hE] at this
  rw [hx]
  exact this
theorem cell_go {w w' : World} {p : Addr} {v : Value} (hb : Below w.heap.size w w') (h : w.cell? p = some v) : w'.cell? p = some v := (hb.cell (World.block_lt_of_cell? w _ h)).trans h
theorem disk_go {w w' : World} {g gb gp gw K : Nat} {S : St} (hb : Below w.heap.size w w') (h : Hid (DiskAt w g gb gp gw K S)) : Hid (DiskAt w' g gb gp gw K S) := h.out.below hb
theorem far_go {w0 w w' : World} (hb : Below w.heap.size w w') (h : Hid (Below w0.heap.size w0 w)) : Hid (Below w0.heap.size w0 w') := h.out.trans (hb.mono h.out.size)
theorem sa_o : Sa.off = false := by decide +kernel
theorem sa_l : (strCells Sa.bl).length = 2 := by rw [sa_b]; rfl

set_option maxHeartbeats 16000000 in
set_option maxRecDepth 100000 in
theorem sanity_any (w : World) : Calls Try.prog 8 #[] w (RetB (.bool true) w) := by
  obtain ⟨fa, hfa⟩ : ∃ fa : ByteArray, fa = ⟨(fullB 97).toArray⟩ := ⟨_, rfl⟩
  obtain ⟨fb, hfb⟩ : ∃ fb : ByteArray, fb = ⟨(fullB 98).toArray⟩ := ⟨_, rfl⟩
  obtain ⟨f0, hf0⟩ : ∃ f0 : ByteArray, f0 = ⟨zeroBs.toArray⟩ := ⟨_, rfl⟩
  obtain ⟨sb, hsb⟩ : ∃ sb : ByteArray, sb = ⟨([97, 97, 97] ++ (List.replicate 61 0) : Bs).toArray⟩ := ⟨_, rfl⟩
  obtain ⟨sx, hsx⟩ : ∃ sx : ByteArray, sx = ⟨(96 :: List.replicate 63 97 : Bs).toArray⟩ := ⟨_, rfl⟩
  have FA : ∀ W : World, Calls Try.prog 13 #[.int .u8 97] W (RetB (.string fa) W) := fun W => by rw [hfa]; exact full_any W 97
  have FB : ∀ W : World, Calls Try.prog 13 #[.int .u8 98] W (RetB (.string fb) W) := fun W => by rw [hfb]; exact full_any W 98
  have F0 : ∀ W : World, Calls Try.prog 13 #[.int .u8 0] W (RetB (.string f0) W) := fun W => by rw [hf0]; exact full_any W 0
  have N2 : Calls Try.prog 9 #[.int .i64 2] w (NewPost 2 w) := new_any w 2 (by omega) (by omega)
  have N0 : ∀ W : World, Calls Try.prog 9 #[.int .i64 0] W (Ret (.tuple #[.pointer none, .int .i64 1]) W) := fun W => new_bad W 0 (by omega) (by omega) (.inl (by omega))
  have q64 : f0.size = 64 := by rw [hf0]; rfl
  have x64 : sx.size = 64 := by rw [hsx]; rfl
  have x0 : ∀ h, sx[0]'h = 96 := by rw [hsx]; intro h; rfl
  have hjoin : (sb.toList == ((⟨#[97, 97, 97]⟩ : ByteArray) ++ f0.extract 3 f0.size).toList) = true := by
    rw [hsb, hf0]; decide +kernel
  have hjoin2 : (sb.toList == ((⟨#[97, 97, 97]⟩ : ByteArray) ++ f0.extract 3 64).toList) = true := by
    rw [hsb, hf0]; decide +kernel
  have HFA := Lib.hid hfa
  have HFB := Lib.hid hfb
  have HF0 := Lib.hid hf0
  have HSB := Lib.hid hsb
  have HSX := Lib.hid hsx
  have X64 := Lib.hid x64
  have Q64 := Lib.hid q64
  have X0 := Lib.hid x0
  have HJ := Lib.hid hjoin
  have HJ2 := Lib.hid hjoin2
  clear hfa hfb hf0 hsb hsx q64 x64 x0 hjoin hjoin2
  go_enter Try.func8, Try.ntmps8
  go_wp2_with fail
  refine N2.mono ?_
  rintro e w1 ⟨g, gb, gp, gw, rfl, d1, b1, l1, l2, l3, l4⟩
  have HF : Hid (∀ k, k ∈ [g, gb, gp, gw] → w.heap.size ≤ k) := Lib.hid (by
    intro k hk
    simp only [List.mem_cons, List.not_mem_nil, or_false] at hk
    rcases hk with rfl | rfl | rfl | rfl <;> assumption)
  have D1 := Lib.hid d1
  have B1 := Lib.hid b1
  clear d1 b1 l1 l2 l3 l4
  go_wp2_with fail
  refine (FA _).mono ?_
  rintro e w2 ⟨rfl, b2⟩
  have D2 := Lib.hid (D1.out.below b2)
  have B2 := Lib.hid (B1.out.trans (b2.mono B1.out.size))
  clear D1 B1
  clear b2
  go_wp2_with fail
  refine (write_full _ g gb gp gw _ _ D2.out (by omega) 0 (by omega) (by omega) 97 fa HFA.out 0 sa_e).mono ?_
  rintro e w3 ⟨rfl, d3, k3⟩
  have D3 := Lib.hid d3
  have B3 := Lib.hid (B2.out.trans (k3.below B2.out.size HF.out))
  clear D2 B2 d3 k3
  have D3x : Hid (DiskAt w3 g gb gp gw 1 Sa) := D3
  clear D3
  go_wp2_with fail
  refine (read_is _ g gb gp gw _ Sa D3x.out 0 (by omega) (by omega) _ 0 sa_r sa_c fa HFA.out).mono ?_
  rintro e w4 ⟨rfl, b4⟩
  have D4 := Lib.hid (D3x.out.below b4)
  have B4 := Lib.hid (B3.out.trans (b4.mono B3.out.size))
  clear D3x B3
  clear b4
  have FLi : Hid (∀ k, k ∈ [g, gb, gp, gw] → k < w4.heap.size) := Lib.hid (by
    intro k hk
    have := D4.out.lt
    simp only [List.mem_cons, List.not_mem_nil, or_false] at hk
    rcases hk with rfl | rfl | rfl | rfl <;> omega)
  go_wp2_with fail
  refine (image_any _ g gb gp gw _ Sa D4.out).mono ?_
  rintro e w5 ⟨A6, c6, rfl, i6, -, b5, li6⟩
  have D5 := Lib.hid (D4.out.below b5)
  have B5 := Lib.hid (B4.out.trans (b5.mono B4.out.size))
  clear D4 B4
  rw [sa_l] at i6 ⊢
  have I6 := Lib.hid i6
  have LI6 := Lib.hid li6
  clear i6 li6 b5
  have KI_5 : Hid (Keep [g, gb, gp, gw] w5 w5) := Lib.hid (Keep.refl _ _)
  have FLp : Hid (∀ k, k ∈ [g, gb, gp, gw] → k < w5.heap.size) := Lib.hid (by
    intro k hk
    have := D5.out.lt
    simp only [List.mem_cons, List.not_mem_nil, or_false] at hk
    rcases hk with rfl | rfl | rfl | rfl <;> omega)
  go_wp2_with fail
  refine (pending_any _ g gb gp gw _ Sa D5.out (by omega)).mono ?_
  rintro e w6 ⟨v7, rfl, p7, b6⟩
  have D6 := Lib.hid (D5.out.below b6)
  have B6 := Lib.hid (B5.out.trans (b6.mono B5.out.size))
  have KI_6 := Lib.hid (KI_5.out.trans (Keep.of_below b6 [g, gb, gp, gw]))
  clear KI_5
  clear D5 B5
  clear b6
  rw [sa_k] at p7
  obtain ⟨A7, c7, rfl, -⟩ := own_slice p7
  have P7 : Hid (w6.ownsRow w5.heap.size 3 1 (.slice A7 1 c7) 1 ([0].map encZ)) := Lib.hid p7
  clear p7
  have KP_6 : Hid (Keep [g, gb, gp, gw] w6 w6) := Lib.hid (Keep.refl _ _)
  have FL : Hid (∀ k, k ∈ [g, gb, gp, gw] → k < w6.heap.size) := Lib.hid (by
    intro k hk
    have := D6.out.lt
    simp only [List.mem_cons, List.not_mem_nil, or_false] at hk
    rcases hk with rfl | rfl | rfl | rfl <;> omega)
  go_wp2_with fail
  refine (clone_any _ g gb gp gw _ Sa D6.out).mono ?_
  rintro e w7 ⟨cg, cgb, cgp, cgw, ccp, cx, rfl, dc, b7, m1, m2, m3, m4⟩
  have D7 := Lib.hid (D6.out.below b7)
  have B7 := Lib.hid (B6.out.trans (b7.mono B6.out.size))
  have KI_7 := Lib.hid (KI_6.out.trans (Keep.of_below b7 [g, gb, gp, gw]))
  clear KI_6
  have KP_7 := Lib.hid (KP_6.out.trans (Keep.of_below b7 [g, gb, gp, gw]))
  clear KP_6
  clear D6 B6
  clear b7
  have DC := Lib.hid dc
  have MC := Lib.hid (And.intro m1 (And.intro m2 (And.intro m3 m4)))
  clear dc m1 m2 m3 m4
  have KC_7 : Hid (Keep [g, gb, gp, gw] w7 w7) := Lib.hid (Keep.refl _ _)
  go_wp2_with fail
  have b8 := below_new w7 (.cells #[.int .i64 3] 3)
  have r8 : Rd (w7.alloc (.cells #[.int .i64 3] 3)) (w7.alloc (.cells #[.int .i64 3] 3)).heap.size 1 (some ⟨w7.heap.size, 0, none⟩) 1 (intCells [3]) := Rd.blk (cs := #[.int .i64 3]) (heap_alloc_new _ _) 1 rfl
  have D8 := Lib.hid (D7.out.below b8)
  have NF8 : Hid (∀ b o, (some (⟨w7.heap.size, 0, none⟩ : Addr)) = some ⟨b, o, none⟩ → b ∉ [g, gb, gp, gw]) := Lib.hid (by intro b o e hm; injection e with e; injection e with e1 e2; have := D7.out.lt; simp only [List.mem_cons, List.not_mem_nil, or_false] at hm; rcases hm with h | h | h | h <;> omega)
  have B8 := Lib.hid (B7.out.trans (b8.mono B7.out.size))
  have KI_8 := Lib.hid (KI_7.out.trans (Keep.of_below b8 [g, gb, gp, gw]))
  clear KI_7
  have KP_8 := Lib.hid (KP_7.out.trans (Keep.of_below b8 [g, gb, gp, gw]))
  clear KP_7
  have KC_8 := Lib.hid (KC_7.out.trans (Keep.of_below b8 [g, gb, gp, gw]))
  clear KC_7
  have R8 := Lib.hid r8
  clear D7 B7 b8 r8
  refine (mount_any _ g gb gp gw _ Sa D8.out (by omega) sa_p _ 1 1 [3] R8.out (by omega) NF8.out).mono ?_
  rintro e w9 ⟨rfl, d9, k9⟩
  rw [sb_m] at d9
  have D9 := Lib.hid d9
  have B9 := Lib.hid (B8.out.trans (k9.below B8.out.size HF.out))
  have KI_9 := Lib.hid (KI_8.out.trans k9)
  clear KI_8
  have KP_9 := Lib.hid (KP_8.out.trans k9)
  clear KP_8
  have KC_9 := Lib.hid (KC_8.out.trans k9)
  clear KC_8
  clear D8 B8 d9 k9 R8 NF8
  go_wp2_with fail
  refine (read_is _ g gb gp gw _ Sb D9.out 0 (by omega) (by omega) _ 0 sb_r sb_c sb HSB.out).mono ?_
  rintro e w10 ⟨rfl, b10⟩
  have D10 := Lib.hid (D9.out.below b10)
  have B10 := Lib.hid (B9.out.trans (b10.mono B9.out.size))
  have KI_10 := Lib.hid (KI_9.out.trans (Keep.of_below b10 [g, gb, gp, gw]))
  clear KI_9
  have KP_10 := Lib.hid (KP_9.out.trans (Keep.of_below b10 [g, gb, gp, gw]))
  clear KP_9
  have KC_10 := Lib.hid (KC_9.out.trans (Keep.of_below b10 [g, gb, gp, gw]))
  clear KC_9
  clear D9 B9
  clear b10
  go_wp2_with fail
  refine (FA _).mono ?_
  rintro e w11 ⟨rfl, b11⟩
  have D11 := Lib.hid (D10.out.below b11)
  have B11 := Lib.hid (B10.out.trans (b11.mono B10.out.size))
  have KI_11 := Lib.hid (KI_10.out.trans (Keep.of_below b11 [g, gb, gp, gw]))
  clear KI_10
  have KP_11 := Lib.hid (KP_10.out.trans (Keep.of_below b11 [g, gb, gp, gw]))
  clear KP_10
  have KC_11 := Lib.hid (KC_10.out.trans (Keep.of_below b11 [g, gb, gp, gw]))
  clear KC_10
  clear D10 B10
  clear b11
  obtain ⟨E11, hE11⟩ : ∃ E, writeE Sb 1 (fullB 97) = E := ⟨_, rfl⟩
  have HE11 := Lib.hid hE11
  clear hE11
  go_wp2_with fail
  refine (write_full _ g gb gp gw _ Sb D11.out (by omega) 1 (by omega) (by omega) 97 fa HFA.out E11 HE11.out).mono ?_
  rintro e w12 ⟨rfl, d12, k12⟩
  have D12 := Lib.hid d12
  have B12 := Lib.hid (B11.out.trans (k12.below B11.out.size HF.out))
  have KI_12 := Lib.hid (KI_11.out.trans k12)
  clear KI_11
  have KP_12 := Lib.hid (KP_11.out.trans k12)
  clear KP_11
  have KC_12 := Lib.hid (KC_11.out.trans k12)
  clear KC_11
  clear D11 B11 d12 k12
  have D12x : Hid (DiskAt w12 g gb gp gw 2 Sc) := D12
  clear D12
  have FC := flush_any w12 g gb gp gw 2 Sc D12x.out (by omega) sc_p
  rw [sd_e, sd_f] at FC
  go_wp2_with fail
  refine (FC).mono ?_
  rintro e w13 ⟨rfl, d13, k13⟩
  have D13 := Lib.hid d13
  have B13 := Lib.hid (B12.out.trans (k13.below B12.out.size HF.out))
  have KI_13 := Lib.hid (KI_12.out.trans k13)
  clear KI_12
  have KP_13 := Lib.hid (KP_12.out.trans k13)
  clear KP_12
  have KC_13 := Lib.hid (KC_12.out.trans k13)
  clear KC_12
  clear D12x B12 d13 k13
  clear FC
  have RC := rot_any w13 g gb gp gw 2 Sd D13.out 1 0
  rw [se_e] at RC
  go_wp2_with fail
  refine (RC).mono ?_
  rintro e w14 ⟨rfl, d14, k14⟩
  have D14 := Lib.hid d14
  have B14 := Lib.hid (B13.out.trans (k14.below B13.out.size HF.out))
  have KI_14 := Lib.hid (KI_13.out.trans k14)
  clear KI_13
  have KP_14 := Lib.hid (KP_13.out.trans k14)
  clear KP_13
  have KC_14 := Lib.hid (KC_13.out.trans k14)
  clear KC_13
  clear D13 B13 d14 k14
  clear RC
  have D14x : Hid (DiskAt w14 g gb gp gw 2 Se) := D14
  clear D14
  go_wp2_with fail
  refine (read_is _ g gb gp gw _ Se D14x.out 1 (by omega) (by omega) _ 0 se_r se_c sx HSX.out).mono ?_
  rintro e w15 ⟨rfl, b15⟩
  have D15 := Lib.hid (D14x.out.below b15)
  have B15 := Lib.hid (B14.out.trans (b15.mono B14.out.size))
  have KI_15 := Lib.hid (KI_14.out.trans (Keep.of_below b15 [g, gb, gp, gw]))
  clear KI_14
  have KP_15 := Lib.hid (KP_14.out.trans (Keep.of_below b15 [g, gb, gp, gw]))
  clear KP_14
  have KC_15 := Lib.hid (KC_14.out.trans (Keep.of_below b15 [g, gb, gp, gw]))
  clear KC_14
  clear D14x B14
  clear b15
  have WC := wear_any w15 g gb gp gw 2 Se D15.out (by omega) 0 (by omega) (by omega)
  rw [sf_e] at WC
  go_wp2_with fail
  refine (WC).mono ?_
  rintro e w16 ⟨rfl, d16, k16⟩
  have D16 := Lib.hid d16
  have B16 := Lib.hid (B15.out.trans (k16.below B15.out.size HF.out))
  have KI_16 := Lib.hid (KI_15.out.trans k16)
  clear KI_15
  have KP_16 := Lib.hid (KP_15.out.trans k16)
  clear KP_15
  have KC_16 := Lib.hid (KC_15.out.trans k16)
  clear KC_15
  clear D15 B15 d16 k16
  clear WC
  have D16x : Hid (DiskAt w16 g gb gp gw 3 Sf) := D16
  clear D16
  go_wp2_with fail
  refine (trip_any _ g gb gp gw 3 Sf D16x.out 1 (by omega) (by omega)).mono ?_
  rintro e w17 ⟨rfl, d17, k17⟩
  have D17 := Lib.hid d17
  have B17 := Lib.hid (B16.out.trans (k17.below B16.out.size HF.out))
  have KI_17 := Lib.hid (KI_16.out.trans k17)
  clear KI_16
  have KP_17 := Lib.hid (KP_16.out.trans k17)
  clear KP_16
  have KC_17 := Lib.hid (KC_16.out.trans k17)
  clear KC_16
  clear D16x B16 d17 k17
  have D17x : Hid (DiskAt w17 g gb gp gw 3 Sg) := D17
  clear D17
  go_wp2_with fail
  refine (FB _).mono ?_
  rintro e w18 ⟨rfl, b18⟩
  have D18 := Lib.hid (D17x.out.below b18)
  have B18 := Lib.hid (B17.out.trans (b18.mono B17.out.size))
  have KI_18 := Lib.hid (KI_17.out.trans (Keep.of_below b18 [g, gb, gp, gw]))
  clear KI_17
  have KP_18 := Lib.hid (KP_17.out.trans (Keep.of_below b18 [g, gb, gp, gw]))
  clear KP_17
  have KC_18 := Lib.hid (KC_17.out.trans (Keep.of_below b18 [g, gb, gp, gw]))
  clear KC_17
  clear D17x B17
  clear b18
  go_wp2_with fail
  refine (write_full _ g gb gp gw _ Sg D18.out (by omega) 0 (by omega) (by omega) 98 fb HFB.out 0 sh_e).mono ?_
  rintro e w19 ⟨rfl, d19, k19⟩
  have D19 := Lib.hid d19
  have B19 := Lib.hid (B18.out.trans (k19.below B18.out.size HF.out))
  have KI_19 := Lib.hid (KI_18.out.trans k19)
  clear KI_18
  have KP_19 := Lib.hid (KP_18.out.trans k19)
  clear KP_18
  have KC_19 := Lib.hid (KC_18.out.trans k19)
  clear KC_18
  clear D18 B18 d19 k19
  have D19x : Hid (DiskAt w19 g gb gp gw 4 Sh) := D19
  clear D19
  have FC := flush_any w19 g gb gp gw 4 Sh D19x.out (by omega) sh_p
  rw [si_e] at FC
  go_wp2_with fail
  refine (FC).mono ?_
  rintro e w20 ⟨rfl, d20, k20⟩
  have D20 := Lib.hid d20
  have B20 := Lib.hid (B19.out.trans (k20.below B19.out.size HF.out))
  have KI_20 := Lib.hid (KI_19.out.trans k20)
  clear KI_19
  have KP_20 := Lib.hid (KP_19.out.trans k20)
  clear KP_19
  have KC_20 := Lib.hid (KC_19.out.trans k20)
  clear KC_19
  clear D19x B19 d20 k20
  clear FC
  have D20x : Hid (DiskAt w20 g gb gp gw 4 Si) := D20
  clear D20
  obtain ⟨rI, hrI⟩ : ∃ r, readB Si 0 = r := ⟨_, rfl⟩
  have HRI := Lib.hid hrI
  clear hrI
  obtain ⟨sI, hsI⟩ : ∃ s : ByteArray, s = ⟨rI.toArray⟩ := ⟨_, rfl⟩
  have HSI := Lib.hid hsI
  clear hsI
  go_wp2_with fail
  refine (read_is _ g gb gp gw _ Si D20x.out 0 (by omega) (by omega) _ 24 HRI.out si_c sI HSI.out).mono ?_
  rintro e w21 ⟨rfl, b21⟩
  have D21 := Lib.hid (D20x.out.below b21)
  have B21 := Lib.hid (B20.out.trans (b21.mono B20.out.size))
  have KI_21 := Lib.hid (KI_20.out.trans (Keep.of_below b21 [g, gb, gp, gw]))
  clear KI_20
  have KP_21 := Lib.hid (KP_20.out.trans (Keep.of_below b21 [g, gb, gp, gw]))
  clear KP_20
  have KC_21 := Lib.hid (KC_20.out.trans (Keep.of_below b21 [g, gb, gp, gw]))
  clear KC_20
  clear D20x B20
  clear b21
  go_wp2_with fail
  refine (N0 _).mono ?_
  rintro e wq ⟨rfl, rfl⟩
  have hcd : ∀ k, k ∈ [g, gb, gp, gw] → k ≠ cg ∧ k ≠ cgb ∧ k ≠ cgp ∧ k ≠ cgw := by
    intro k hk
    have h1 := MC.out
    have h2 := FL.out k hk
    omega
  have DC2 := Lib.hid (DC.out.keep KC_21.out hcd)
  clear hcd
  have x64 := X64.out
  go_wp2_with fail
  refine (read_is _ cg cgb cgp cgw _ _ DC2.out 0 (by omega) (by omega) _ 0 (show readB _ 0 = fullB 97 from sa_r) (show checkE _ 0 = 0 from sa_c) fa HFA.out).mono ?_
  rintro e w22 ⟨rfl, b22⟩
  clear x64
  have D22 := Lib.hid (D21.out.below b22)
  have DC3 := Lib.hid (DC2.out.below b22)
  have B22 := Lib.hid (B21.out.trans (b22.mono B21.out.size))
  have KI_22 := Lib.hid (KI_21.out.trans (Keep.of_below b22 [g, gb, gp, gw]))
  clear KI_21
  have KP_22 := Lib.hid (KP_21.out.trans (Keep.of_below b22 [g, gb, gp, gw]))
  clear KP_21
  have KC_22 := Lib.hid (KC_21.out.trans (Keep.of_below b22 [g, gb, gp, gw]))
  clear KC_21
  clear D21 B21 b22 DC2
  go_wp2_with fail
  refine (worn_any _ g gb gp gw _ Si D22.out (by omega)).mono ?_
  rintro e w23 ⟨v9, rfl, p9, b23⟩
  have D23 := Lib.hid (D22.out.below b23)
  have B23 := Lib.hid (B22.out.trans (b23.mono B22.out.size))
  have KI_23 := Lib.hid (KI_22.out.trans (Keep.of_below b23 [g, gb, gp, gw]))
  clear KI_22
  have KP_23 := Lib.hid (KP_22.out.trans (Keep.of_below b23 [g, gb, gp, gw]))
  clear KP_22
  have KC_23 := Lib.hid (KC_22.out.trans (Keep.of_below b23 [g, gb, gp, gw]))
  clear KC_22
  clear D22 B22
  rw [si_w] at p9
  obtain ⟨A9, c9, rfl, -⟩ := own_slice p9
  have DC4 := Lib.hid (DC3.out.below b23)
  clear p9 b23 DC3
  have hI : ∃ b6 o6, A6 = some ⟨b6, o6, none⟩ ∧ w23.cell? ⟨b6, o6, none⟩ = some (.string f0) := by
    obtain ⟨b6, o6, e6, hb6, hc6⟩ := I6.out.2 (by decide)
    refine ⟨b6, o6, e6, ?_⟩
    have hn : b6 ∉ [g, gb, gp, gw] := fun hm => by
      have h1 := LI6.out b6 o6 e6
      have h2 := FLi.out b6 hm
      omega
    rw [KI_23.out.cell (p := ⟨b6, o6, none⟩) hb6 hn]
    have := hc6 0 _ (show (strCells Sa.bl)[0]? = some (str zeroBs) from by rw [sa_b]; rfl)
    rw [Nat.add_zero] at this
    rw [this, HF0.out]
  obtain ⟨b6, o6, rfl, y6⟩ := hI
  have hp := ownsRow_keep P7.out KP_23.out FLp.out
  obtain ⟨g7, cc7, e7, -, -⟩ := World.ownsRow.form hp (by decide)
  injection e7 with e71 e72 e73
  subst e71
  have y7 : w23.cell? ⟨g7, 0, none⟩ = some (.int .i64 0) := hp.cellAt (g := g7) (j := 0) (by decide)
  clear hp e72 e73 I6 P7 KI_23 KP_23 KC_23 LI6
  have Y8 : Hid (DiskAt w23.drew g gb gp gw 4 Si) := Lib.hid (D23.out.same rfl rfl rfl rfl)
  have Y9 : Hid (DiskAt w23.drew cg cgb cgp cgw 1 { Sa with cap := ccp, ext := cx }) := Lib.hid (DC4.out.same rfl rfl rfl rfl)
  have Y10 : Hid (Below w.heap.size w w23.drew) := Lib.hid B23.out.drew
  have UPD : ∀ W : World, Hid (DiskAt W g gb gp gw 4 Si) → Calls Try.prog 25 #[.pointer (some ⟨g, 0, none⟩)] W (Ret (.bool false) W) := fun W h => by
    have := up_any W g gb gp gw 4 Si h.out
    rw [si_o] at this
    exact this
  have UPC : ∀ W : World, Hid (DiskAt W cg cgb cgp cgw 1 { Sa with cap := ccp, ext := cx }) → Calls Try.prog 25 #[.pointer (some ⟨cg, 0, none⟩)] W (Ret (.bool true) W) := fun W h => by
    have := up_any W cg cgb cgp cgw 1 _ h.out
    rw [show ({ Sa with cap := ccp, ext := cx } : St).off = false from sa_o] at this
    exact this
  have LND : ∀ W : World, Hid (DiskAt W g gb gp gw 4 Si) → Calls Try.prog 30 #[.pointer (some ⟨g, 0, none⟩)] W (Ret (.int .i64 2) W) := fun W h => by
    have := len_any W g gb gp gw 4 Si h.out
    rw [si_l] at this
    exact this
  have UD := Lib.hid UPD
  have UC := Lib.hid UPC
  have LD := Lib.hid LND
  have FAH := Lib.hid FA
  have F0H := Lib.hid F0
  clear UPD UPC LND FA FB F0 N0 D23 B23 DC4
  have x64 := X64.out
  have q64 := Q64.out
  have x0 := X0.out
  have hj := HJ.out
  have hj2 := HJ2.out
  go_wp2_with fail
  simp only [List.append_eq, List.cons_append, List.nil_append]
  go_region_held3 (fun W => W.cell? ⟨b6, o6, none⟩ = some (.string f0) ∧ W.cell? ⟨g7, 0, none⟩ = some (.int .i64 0) ∧ Hid (DiskAt W g gb gp gw 4 Si) ∧ Hid (DiskAt W cg cgb cgp cgw 1 { Sa with cap := ccp, ext := cx }) ∧ Hid (Below w.heap.size w W))
    (first | (go_split_ands; exact ⟨cell_go bn (by assumption), cell_go bn (by assumption), disk_go bn (by assumption), disk_go bn (by assumption), far_go bn (by assumption)⟩) | (go_split_ands; refine ⟨?_, ?_, ?_, ?_, ?_⟩ <;> assumption) | go_keep)
    (first | (go_at_call 13; first | ((with_reducible refine (FAH.out _).mono ?_); rintro e wn ⟨rfl, bn⟩) | ((with_reducible refine (F0H.out _).mono ?_); rintro e wn ⟨rfl, bn⟩)) | (go_at_call 25; go_split_ands; first | ((with_reducible refine (UD.out _ (by assumption)).mono ?_); rintro e w' ⟨rfl, rfl⟩) | ((with_reducible refine (UC.out _ (by assumption)).mono ?_); rintro e w' ⟨rfl, rfl⟩)) | (go_at_call 30; go_split_ands; refine (LD.out _ (by assumption)).mono ?_; rintro e w' ⟨rfl, rfl⟩))
  go_wp2_with fail
  go_ret
  go_split_ands
  refine ⟨rfl, RowKit.Hid.out ?_⟩
  assumption
end Go.Proofs.Ytibhnjnfifpepaa
