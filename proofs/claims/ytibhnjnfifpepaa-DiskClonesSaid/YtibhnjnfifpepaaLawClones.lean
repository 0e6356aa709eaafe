/- The walk of DiskClones. -/
import Derived.Test.YtibhnjnfifpepaaSame
import Derived.Test.YtibhnjnfifpepaaClone
import Derived.Test.YtibhnjnfifpepaaLawTears
namespace Go.Proofs.Ytibhnjnfifpepaa
open Go.RowKit Go.Maps

set_option maxRecDepth 100000 in
theorem clones_small (w : World) (i : Int) (h1 : -9223372036854775808 ≤ i) (h2 : i ≤ 9223372036854775807) (h : i < 1 ∨ 64 < i) (A : Option Addr) (n c : Nat) (v v' : Value) :
    Calls Try.prog 7 #[.int .i64 i, .slice A n c, v, v'] w (RetB (.bool true) w) := by
  rcases h with h | h
  · go_enter Try.func7, Try.ntmps7
    go_wp2_with fail
    refine (sanity_any _).mono ?_
    rintro e w1 ⟨rfl, b1⟩
    go_wp2_with fail
    refine (start_bad _ i h1 h2 (.inl h)).mono ?_
    rintro e w2 ⟨rfl, rfl⟩
    go_wp2_with fail
    go_ret
    exact ⟨rfl, b1⟩
  · go_enter Try.func7, Try.ntmps7
    go_wp2_with fail
    refine (sanity_any _).mono ?_
    rintro e w1 ⟨rfl, b1⟩
    go_wp2_with fail
    refine (start_bad _ i h1 h2 (.inr h)).mono ?_
    rintro e w2 ⟨rfl, rfl⟩
    go_wp2_with fail
    go_ret
    exact ⟨rfl, b1⟩

set_option maxRecDepth 100000 in
theorem clones_long (w : World) (m : Nat) (h1 : 1 ≤ m) (h2 : m ≤ 64) (A1 A2 A3 : Option Addr) (n1 c1 n2 c2 n3 c3 : Nat) (hn : 60 < n1 ∨ (n1 ≤ 60 ∧ 60 < n2) ∨ (n1 ≤ 60 ∧ n2 ≤ 60 ∧ 60 < n3)) (_m1 : n1 ≤ 9223372036854775807) (_m2 : n2 ≤ 9223372036854775807) (_m3 : n3 ≤ 9223372036854775807) :
    Calls Try.prog 7 #[.int .i64 m, .slice A1 n1 c1, .slice A2 n2 c2, .slice A3 n3 c3] w (RetB (.bool true) w) := by
  rcases hn with hn | ⟨hn, hn'⟩ | ⟨hn, hn', hn''⟩
  all_goals
    go_enter Try.func7, Try.ntmps7
    go_wp2_with fail
    refine (sanity_any _).mono ?_
    rintro e w1 ⟨rfl, b1⟩
    go_wp2_with fail
    refine (start_any _ m h1 h2).mono ?_
    rintro e w2 ⟨g, gb, gp, gw, r, gs, cap, ext, rfl, -, -, b2, -⟩
    go_wp2_with fail
    go_ret
    exact ⟨rfl, b1.trans (b2.mono b1.size)⟩

theorem six_facts {B g gb gp gw r gs : Nat} (h1 : B ≤ g ∧ B ≤ gb ∧ B ≤ gp ∧ B ≤ gw) (h2 : B ≤ r ∧ B ≤ gs) (h3 : g < r ∧ gb < r ∧ gp < r ∧ gw < r) (h4 : g < gs ∧ gb < gs ∧ gp < gs ∧ gw < gs) :
    (∀ b ∈ [g, gb, gp, gw], B ≤ b) ∧ (∀ b ∈ [r, gs], B ≤ b) ∧ (∀ b ∈ [g, gb, gp, gw, r, gs], B ≤ b) ∧ (r ∉ [g, gb, gp, gw] ∧ gs ∉ [g, gb, gp, gw]) ∧ (∀ k, k ∈ [r, gs] → k ≠ g ∧ k ≠ gb ∧ k ≠ gp ∧ k ≠ gw) := by
  refine ⟨fun b hb => ?_, fun b hb => ?_, fun b hb => ?_, ?_, fun k hk => ?_⟩
  · simp only [List.mem_cons, List.not_mem_nil, or_false] at hb
    omega
  · simp only [List.mem_cons, List.not_mem_nil, or_false] at hb
    omega
  · simp only [List.mem_cons, List.not_mem_nil, or_false] at hb
    omega
  · simp only [List.mem_cons, List.not_mem_nil, or_false]
    omega
  · simp only [List.mem_cons, List.not_mem_nil, or_false] at hk
    omega
theorem Sim.again {S : St} {T : RSt} (h : Sim S T) (c : Nat) (x : List Value) (c' : Nat) (x' : List Value) : Sim { S with cap := c, ext := x } { T with cap := c', ext := x' } := ⟨h.s, h.off, h.left, h.p, h.w, h.wt, h.t64, h.n64, h.n1⟩

set_option maxHeartbeats 8000000 in
set_option maxRecDepth 100000 in
theorem clones_main (w : World) (m : Nat) (h1 : 1 ≤ m) (h2 : m ≤ 64)
    (A1 : Option Addr) (n1 cc1 : Nat) (os1 : List OpV) (hS1 : Script w w.heap.size A1 n1 os1) (hn1 : n1 ≤ 60)
    (A2 : Option Addr) (n2 cc2 : Nat) (os2 : List OpV) (hS2 : Script w w.heap.size A2 n2 os2) (hn2 : n2 ≤ 60)
    (A3 : Option Addr) (n3 cc3 : Nat) (os3 : List OpV) (hS3 : Script w w.heap.size A3 n3 os3) (hn3 : n3 ≤ 60) :
    Calls Try.prog 7 #[.int .i64 m, .slice A1 n1 cc1, .slice A2 n2 cc2, .slice A3 n3 cc3] w (RetB (.bool true) w) := by
  have HS1 := Lib.hid hS1
  have HS2 := Lib.hid hS2
  have HS3 := Lib.hid hS3
  clear hS1 hS2 hS3
  go_enter Try.func7, Try.ntmps7
  go_wp2_with fail
  refine (sanity_any _).mono ?_
  rintro e w1 ⟨rfl, q1⟩
  have Q1 := Lib.hid q1
  clear q1
  go_wp2_with fail
  refine (start_any _ m h1 h2).mono ?_
  rintro e w2 ⟨g, gb, gp, gw, r, gs, cap, ext, rfl, d2, r2, q2, hge, hlt1, hlt2⟩
  have QW := Lib.hid (Q1.out.trans (q2.mono Q1.out.size))
  obtain ⟨f1, f2, f3, f4, f5⟩ := six_facts (B := w.heap.size) (by have := Q1.out.size; omega) (by have := Q1.out.size; omega) hlt1 hlt2
  have GE4 := Lib.hid f1
  have GE2 := Lib.hid f2
  have GE6 := Lib.hid f3
  have NR := Lib.hid f4
  have NG := Lib.hid f5
  have SIM := Lib.hid (sim_new m cap ext h1)
  obtain ⟨S0, hS0⟩ : ∃ S0, S0 = newS m := ⟨_, rfl⟩
  obtain ⟨T0, hT0⟩ : ∃ T0, T0 = newR m cap ext := ⟨_, rfl⟩
  rw [← hS0] at d2 SIM
  rw [← hT0] at r2 SIM
  have ATD := Lib.hid (show DiskAt w2 g gb gp gw (0 + 0) (playS S0 (os1.take 0)) from d2)
  have ATR := Lib.hid (show RefAt w2 r gs (rPlay T0 (os1.take 0)) from r2)
  clear d2 r2 q2 hge hlt1 hlt2 f1 f2 f3 f4 f5 hS0 hT0
  go_wp2_with fail
  go_loopw [13] (fun x wr => ∃ k : Nat, k ≤ n1 ∧ x = .int .i64 k ∧ Hid (DiskAt wr g gb gp gw (0 + k) (playS S0 (os1.take k))) ∧ Hid (RefAt wr r gs (rPlay T0 (os1.take k))) ∧ Hid (Keep [g, gb, gp, gw, r, gs] w2 wr)) (fun x _ => n1 - (intOf x).toNat)
  case atStart => exact ⟨0, by omega, rfl, ATD, ATR, Lib.hid (Keep.refl _ _)⟩
  case round =>
    obtain ⟨k, hk, rfl, D, R, Y⟩ := hrel
    have Q := Lib.hid (QW.out.trans (Y.out.below QW.out.size GE6.out))
    by_cases hlt : k < n1
    · obtain ⟨b, off, o, rfl, hb, ho, hoa, c0, c1, c2, c3, c4⟩ := (HS1.out.keep (w' := wr) (fun p hp => Q.out.cell hp)).op hlt
      have HO := Lib.hid ho
      have HOA := Lib.hid (hoa.more Q.out.size)
      have HOB := Lib.hid hoa
      have i1 : (k : Int) < (n1 : Int) := by omega
      have HBB := Lib.hid hb
      have HC := Lib.hid (And.intro c0 (And.intro c1 (And.intro c2 (And.intro c3 c4))))
      clear ho hoa
      go_wp2_with fail
      refine (do_any _ g gb gp gw (0 + k) _ D.out (by omega) (Sim.play (os1.take k) SIM.out).pendOK o HOA.out (HS1.out.picks HO.out GE4.out)).mono ?_
      rintro e w3 ⟨rfl, d3, k3⟩
      have D3 := Lib.hid d3
      have R3 := Lib.hid (R.out.keep k3 NR.out.1 NR.out.2)
      have Y3 := Lib.hid (Y.out.trans (k3.more (G := [g, gb, gp, gw, r, gs]) (by simp)))
      have Q3 := Lib.hid (Q.out.trans (k3.below Q.out.size GE4.out))
      clear d3 k3 c0 c1 c2 c3 c4
      obtain ⟨c0, c1, c2, c3, c4⟩ := five_in (w := wr) (w' := w3) HC.out (fun p hp => by
        rw [Q3.out.cell (p := p) (by rw [hp]; exact HBB.out), Q.out.cell (p := p) (by rw [hp]; exact HBB.out)])
      unfold StrErr
      go_wp2_with fail
      refine (rdo_any _ r gs _ R3.out o ((HOB.out.keep (fun p hp => by rw [Q3.out.cell hp, Q.out.cell hp])).more Q3.out.size) (HS1.out.picks HO.out GE2.out)).mono ?_
      rintro e w4 ⟨rfl, r4, k4⟩
      have R4 := Lib.hid r4
      have D4 := Lib.hid (D3.out.keep k4 NG.out)
      have Y4 := Lib.hid (Y3.out.trans (k4.more (G := [g, gb, gp, gw, r, gs]) (by simp)))
      clear r4 k4
      unfold StrErr
      go_wp2_with fail
      go_roundw
      case rel => exact ⟨k + 1, by omega, by go_num, by rw [playS_snoc _ _ _ _ HO.out]; exact D4, by rw [rPlay_snoc _ _ _ _ HO.out]; exact R4, Y4⟩
      case measure => simp [intOf]; omega
    · obtain rfl : k = n1 := by omega
      rw [← HS1.out.len, List.take_length] at D R
      have SIM1 := Lib.hid (Sim.play os1 SIM.out)
      obtain ⟨S1, hS1⟩ : ∃ S1, S1 = playS S0 os1 := ⟨_, rfl⟩
      obtain ⟨T1, hT1⟩ : ∃ T1, T1 = rPlay T0 os1 := ⟨_, rfl⟩
      rw [← hS1] at D SIM1
      rw [← hT1] at R SIM1
      have KB := Lib.hid (show 0 + os1.length ≤ 60 by rw [HS1.out.len]; omega)
      obtain ⟨L, hL⟩ : ∃ L, L = 0 + os1.length := ⟨_, rfl⟩
      rw [← hL] at D KB
      have hL60 := KB.out
      clear ATD ATR SIM hS1 hT1 hL Y HS1
      go_wp2_with fail
      refine (clone_any _ g gb gp gw L S1 D.out).mono ?_
      rintro e w5 ⟨g2, gb2, gp2, gw2, cp2, ex2, rfl, d5, b5, q5⟩
      have D5 := Lib.hid (D.out.below b5)
      have R5 := Lib.hid (R.out.go b5)
      have C5 := Lib.hid d5
      have Q5 := Lib.hid (below_go Q.out b5)
      have LT5 := Lib.hid (show ∀ b ∈ [g, gb, gp, gw, r, gs], b < wr.heap.size by
        have l1 := D.out.lt
        have l2 := R.out.lt
        intro b hb
        simp only [List.mem_cons, List.not_mem_nil, or_false] at hb
        omega)
      have G5 := Lib.hid q5
      clear d5 b5 q5 D R
      go_wp2_with fail
      refine (rclone_any _ r gs T1 R5.out).mono ?_
      rintro e w6 ⟨r2, gs2, cr2, er2, rfl, r6, b6, q6, q6'⟩
      have D6 := Lib.hid (D5.out.below b6)
      have R6 := Lib.hid (R5.out.go b6)
      have C6 := Lib.hid (C5.out.below b6)
      have E6 := Lib.hid r6
      have QW := Lib.hid (below_go Q5.out b6)
      have SIM2 := Lib.hid (SIM1.out.again cp2 ex2 cr2 er2)
      have hg5 := G5.out
      have hgl := C5.out.lt
      have hqs := Q.out.size
      obtain ⟨f1, f2, f3, f4, f5⟩ := six_facts (B := wr.heap.size) (g := g2) (gb := gb2) (gp := gp2) (gw := gw2) (r := r2) (gs := gs2) hg5 (by omega) (by omega) (by omega)
      have GE6' := Lib.hid f3
      have GE4' := Lib.hid (show ∀ b ∈ [g2, gb2, gp2, gw2], w.heap.size ≤ b from fun b hb => Nat.le_trans hqs (f1 b hb))
      have GE2' := Lib.hid (show ∀ b ∈ [r2, gs2], w.heap.size ≤ b from fun b hb => Nat.le_trans hqs (f2 b hb))
      have NR' := Lib.hid f4
      have NG' := Lib.hid f5
      have DJ := Lib.hid (show ∀ b, b ∈ [g, gb, gp, gw, r, gs] → b ∉ [g2, gb2, gp2, gw2, r2, gs2] from fun b hb hb' => by have := LT5.out b hb; have := f3 b hb'; omega)
      obtain ⟨S2, hS2⟩ : ∃ S2, S2 = ({ S1 with cap := cp2, ext := ex2 } : St) := ⟨_, rfl⟩
      obtain ⟨T2, hT2⟩ : ∃ T2, T2 = ({ T1 with cap := cr2, ext := er2 } : RSt) := ⟨_, rfl⟩
      rw [← hS2] at C6 SIM2
      rw [← hT2] at E6 SIM2
      clear r6 b6 q6 q6' hg5 hgl hqs f1 f2 f3 f4 f5 hS2 hT2 C5 D5 R5 Q5 Q G5 LT5
      go_wp2_with fail
      refine (same_any _ g2 gb2 gp2 gw2 L S2 C6.out (by omega) r2 gs2 T2 E6.out SIM2.out).mono ?_
      rintro e w7 ⟨rfl, b7⟩
      have D7 := Lib.hid (D6.out.below b7)
      have R7 := Lib.hid (R6.out.go b7)
      have C7 := Lib.hid (C6.out.below b7)
      have E7 := Lib.hid (E6.out.go b7)
      have QW7 := Lib.hid (below_go QW.out b7)
      clear b7 D6 R6 C6 E6 QW
      rename Hid (Below w.heap.size w w7) => QW
      rename Hid (Sim S1 T1) => SIM
      have ATD := Lib.hid (show DiskAt w7 g gb gp gw (L + 0) (playS S1 (os2.take 0)) from D7.out)
      have ATR := Lib.hid (show RefAt w7 r gs (rPlay T1 (os2.take 0)) from R7.out)
      clear D7 R7
      go_wp2_with fail
      go_loopw [16] (fun x wr => ∃ k : Nat, k ≤ n2 ∧ x = .int .i64 k ∧ Hid (DiskAt wr g gb gp gw (L + k) (playS S1 (os2.take k))) ∧ Hid (RefAt wr r gs (rPlay T1 (os2.take k))) ∧ Hid (Keep [g, gb, gp, gw, r, gs] w7 wr)) (fun x _ => n2 - (intOf x).toNat)
      case atStart => exact ⟨0, by omega, rfl, ATD, ATR, Lib.hid (Keep.refl _ _)⟩
      case round =>
        obtain ⟨k, hk, rfl, D, R, Y⟩ := hrel
        have Q := Lib.hid (QW.out.trans (Y.out.below QW.out.size GE6.out))
        by_cases hlt : k < n2
        · obtain ⟨b, off, o, rfl, hb, ho, hoa, c0, c1, c2, c3, c4⟩ := (HS2.out.keep (w' := wr) (fun p hp => Q.out.cell hp)).op hlt
          have HO := Lib.hid ho
          have HOA := Lib.hid (hoa.more Q.out.size)
          have HOB := Lib.hid hoa
          have i1 : (k : Int) < (n2 : Int) := by omega
          have HBB := Lib.hid hb
          have HC := Lib.hid (And.intro c0 (And.intro c1 (And.intro c2 (And.intro c3 c4))))
          clear ho hoa
          go_wp2_with fail
          refine (do_any _ g gb gp gw (L + k) _ D.out (by omega) (Sim.play (os2.take k) SIM.out).pendOK o HOA.out (HS2.out.picks HO.out GE4.out)).mono ?_
          rintro e w3 ⟨rfl, d3, k3⟩
          have D3 := Lib.hid d3
          have R3 := Lib.hid (R.out.keep k3 NR.out.1 NR.out.2)
          have Y3 := Lib.hid (Y.out.trans (k3.more (G := [g, gb, gp, gw, r, gs]) (by simp)))
          have Q3 := Lib.hid (Q.out.trans (k3.below Q.out.size GE4.out))
          clear d3 k3 c0 c1 c2 c3 c4
          obtain ⟨c0, c1, c2, c3, c4⟩ := five_in (w := wr) (w' := w3) HC.out (fun p hp => by
            rw [Q3.out.cell (p := p) (by rw [hp]; exact HBB.out), Q.out.cell (p := p) (by rw [hp]; exact HBB.out)])
          unfold StrErr
          go_wp2_with fail
          refine (rdo_any _ r gs _ R3.out o ((HOB.out.keep (fun p hp => by rw [Q3.out.cell hp, Q.out.cell hp])).more Q3.out.size) (HS2.out.picks HO.out GE2.out)).mono ?_
          rintro e w4 ⟨rfl, r4, k4⟩
          have R4 := Lib.hid r4
          have D4 := Lib.hid (D3.out.keep k4 NG.out)
          have Y4 := Lib.hid (Y3.out.trans (k4.more (G := [g, gb, gp, gw, r, gs]) (by simp)))
          clear r4 k4
          unfold StrErr
          go_wp2_with fail
          go_roundw
          case rel => exact ⟨k + 1, by omega, by go_num, by rw [playS_snoc _ _ _ _ HO.out]; exact D4, by rw [rPlay_snoc _ _ _ _ HO.out]; exact R4, Y4⟩
          case measure => simp [intOf]; omega
        · obtain rfl : k = n2 := by omega
          rw [← HS2.out.len, List.take_length] at D R
          have SIM1 := Lib.hid (Sim.play os2 SIM.out)
          obtain ⟨S3, hS3⟩ : ∃ S3, S3 = playS S1 os2 := ⟨_, rfl⟩
          obtain ⟨T3, hT3⟩ : ∃ T3, T3 = rPlay T1 os2 := ⟨_, rfl⟩
          rw [← hS3] at D SIM1
          rw [← hT3] at R SIM1
          have KB2 := Lib.hid (show L + os2.length ≤ 120 by rw [HS2.out.len]; omega)
          obtain ⟨M, hM⟩ : ∃ M, M = L + os2.length := ⟨_, rfl⟩
          rw [← hM] at D KB2
          have hM120 := KB2.out
          have DJ4 : g2 ∉ [g, gb, gp, gw, r, gs] ∧ gb2 ∉ [g, gb, gp, gw, r, gs] ∧ gp2 ∉ [g, gb, gp, gw, r, gs] ∧ gw2 ∉ [g, gb, gp, gw, r, gs] ∧ r2 ∉ [g, gb, gp, gw, r, gs] ∧ gs2 ∉ [g, gb, gp, gw, r, gs] :=
            ⟨fun e => DJ.out _ e (by simp), fun e => DJ.out _ e (by simp), fun e => DJ.out _ e (by simp), fun e => DJ.out _ e (by simp), fun e => DJ.out _ e (by simp), fun e => DJ.out _ e (by simp)⟩
          have C8 := Lib.hid (C7.out.keep Y.out (fun k hk => ⟨fun e => DJ4.1 (e ▸ hk), fun e => DJ4.2.1 (e ▸ hk), fun e => DJ4.2.2.1 (e ▸ hk), fun e => DJ4.2.2.2.1 (e ▸ hk)⟩))
          have E8 := Lib.hid (E7.out.keep Y.out DJ4.2.2.2.2.1 DJ4.2.2.2.2.2)
          have DP := D
          have RP := R
          clear ATD ATR SIM hS3 hT3 hM Y C7 E7 D R QW DJ4 HS2 GE2 GE4 GE6 NR NG
          rename Hid (Below w.heap.size w wr) => QW
          rename Hid (Sim S2 T2) => SIM
          rename Hid (∀ b ∈ [g2, gb2, gp2, gw2], w.heap.size ≤ b) => GE4
          rename Hid (∀ b ∈ [r2, gs2], w.heap.size ≤ b) => GE2
          have GE6 := Lib.hid (show ∀ b ∈ [g2, gb2, gp2, gw2, r2, gs2], w.heap.size ≤ b by
            intro b hb
            have a := GE4.out b
            have c := GE2.out b
            simp only [List.mem_cons, List.not_mem_nil, or_false] at hb a c
            rcases hb with h | h | h | h | h | h
            · exact a (by simp [h])
            · exact a (by simp [h])
            · exact a (by simp [h])
            · exact a (by simp [h])
            · exact c (by simp [h])
            · exact c (by simp [h]))
          rename Hid (r2 ∉ [g2, gb2, gp2, gw2] ∧ gs2 ∉ [g2, gb2, gp2, gw2]) => NR
          rename Hid (∀ k, k ∈ [r2, gs2] → k ≠ g2 ∧ k ≠ gb2 ∧ k ≠ gp2 ∧ k ≠ gw2) => NG
          generalize wr = w9 at *
          have ATD := Lib.hid (show DiskAt w9 g2 gb2 gp2 gw2 (L + 0) (playS S2 (os3.take 0)) from C8.out)
          have ATR := Lib.hid (show RefAt w9 r2 gs2 (rPlay T2 (os3.take 0)) from E8.out)
          clear C8 E8
          go_wp2_with fail
          go_loopw [17] (fun x wr => ∃ k : Nat, k ≤ n3 ∧ x = .int .i64 k ∧ Hid (DiskAt wr g2 gb2 gp2 gw2 (L + k) (playS S2 (os3.take k))) ∧ Hid (RefAt wr r2 gs2 (rPlay T2 (os3.take k))) ∧ Hid (Keep [g2, gb2, gp2, gw2, r2, gs2] w9 wr)) (fun x _ => n3 - (intOf x).toNat)
          case atStart => exact ⟨0, by omega, rfl, ATD, ATR, Lib.hid (Keep.refl _ _)⟩
          case round =>
            obtain ⟨k, hk, rfl, D, R, Y⟩ := hrel
            have Q := Lib.hid (QW.out.trans (Y.out.below QW.out.size GE6.out))
            by_cases hlt : k < n3
            · obtain ⟨b, off, o, rfl, hb, ho, hoa, c0, c1, c2, c3, c4⟩ := (HS3.out.keep (w' := wr) (fun p hp => Q.out.cell hp)).op hlt
              have HO := Lib.hid ho
              have HOA := Lib.hid (hoa.more Q.out.size)
              have HOB := Lib.hid hoa
              have i1 : (k : Int) < (n3 : Int) := by omega
              have HBB := Lib.hid hb
              have HC := Lib.hid (And.intro c0 (And.intro c1 (And.intro c2 (And.intro c3 c4))))
              clear ho hoa
              go_wp2_with fail
              refine (do_any _ g2 gb2 gp2 gw2 (L + k) _ D.out (by omega) (Sim.play (os3.take k) SIM.out).pendOK o HOA.out (HS3.out.picks HO.out GE4.out)).mono ?_
              rintro e w3 ⟨rfl, d3, k3⟩
              have D3 := Lib.hid d3
              have R3 := Lib.hid (R.out.keep k3 NR.out.1 NR.out.2)
              have Y3 := Lib.hid (Y.out.trans (k3.more (G := [g2, gb2, gp2, gw2, r2, gs2]) (by simp)))
              have Q3 := Lib.hid (Q.out.trans (k3.below Q.out.size GE4.out))
              clear d3 k3 c0 c1 c2 c3 c4
              obtain ⟨c0, c1, c2, c3, c4⟩ := five_in (w := wr) (w' := w3) HC.out (fun p hp => by
                rw [Q3.out.cell (p := p) (by rw [hp]; exact HBB.out), Q.out.cell (p := p) (by rw [hp]; exact HBB.out)])
              unfold StrErr
              go_wp2_with fail
              refine (rdo_any _ r2 gs2 _ R3.out o ((HOB.out.keep (fun p hp => by rw [Q3.out.cell hp, Q.out.cell hp])).more Q3.out.size) (HS3.out.picks HO.out GE2.out)).mono ?_
              rintro e w4 ⟨rfl, r4, k4⟩
              have R4 := Lib.hid r4
              have D4 := Lib.hid (D3.out.keep k4 NG.out)
              have Y4 := Lib.hid (Y3.out.trans (k4.more (G := [g2, gb2, gp2, gw2, r2, gs2]) (by simp)))
              clear r4 k4
              unfold StrErr
              go_wp2_with fail
              go_roundw
              case rel => exact ⟨k + 1, by omega, by go_num, by rw [playS_snoc _ _ _ _ HO.out]; exact D4, by rw [rPlay_snoc _ _ _ _ HO.out]; exact R4, Y4⟩
              case measure => simp [intOf]; omega
            · obtain rfl : k = n3 := by omega
              rw [← HS3.out.len, List.take_length] at D R
              have SIM3 := Lib.hid (Sim.play os3 SIM.out)
              have KB3 := Lib.hid (show L + os3.length ≤ 120 by rw [HS3.out.len]; omega)
              have D9 := Lib.hid (DP.out.keep Y.out (fun k hk => ⟨fun e => DJ.out k (by simp [e]) hk, fun e => DJ.out k (by simp [e]) hk, fun e => DJ.out k (by simp [e]) hk, fun e => DJ.out k (by simp [e]) hk⟩))
              have R9 := Lib.hid (RP.out.keep Y.out (fun e => DJ.out r (by simp) e) (fun e => DJ.out gs (by simp) e))
              clear ATD ATR DP RP Y HS3
              go_wp2_with fail
              refine (same_any _ g gb gp gw M S3 D9.out (by omega) r gs T3 R9.out SIM1.out).mono ?_
              rintro e w10 ⟨rfl, b10⟩
              have D10 := Lib.hid (D.out.below b10)
              have R10 := Lib.hid (R.out.go b10)
              have Q10 := Lib.hid (below_go Q.out b10)
              clear b10
              go_wp2_with fail
              refine (same_any _ g2 gb2 gp2 gw2 _ _ D10.out (by have := KB3.out; omega) r2 gs2 _ R10.out SIM3.out).mono ?_
              rintro e w11 ⟨rfl, b11⟩
              have Q11 := Lib.hid (below_go Q10.out b11)
              clear b11
              go_wp2_with fail
              go_ret
              exact ⟨rfl, Q11.out⟩
end Go.Proofs.Ytibhnjnfifpepaa
