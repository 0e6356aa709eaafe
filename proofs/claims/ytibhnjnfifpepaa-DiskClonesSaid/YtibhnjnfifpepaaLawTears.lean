/- The walk of DiskTears. -/
import Derived.Test.YtibhnjnfifpepaaTorn
import Derived.Test.YtibhnjnfifpepaaLawRots
namespace Go.Proofs.Ytibhnjnfifpepaa
open Go.RowKit Go.Maps

set_option maxRecDepth 100000 in
theorem tears_small (w : World) (i : Int) (h1 : -9223372036854775808 ≤ i) (h2 : i ≤ 9223372036854775807) (h : i < 1 ∨ 64 < i) (A : Option Addr) (n c : Nat) (v : Value) :
    Calls Try.prog 5 #[.int .i64 i, .slice A n c, v] w (RetB (.bool true) w) := by
  rcases h with h | h
  · go_enter Try.func5, Try.ntmps5
    go_wp2_with fail
    refine (sanity_any _).mono ?_
    rintro e w1 ⟨rfl, b1⟩
    go_wp2_with fail
    refine (start_bad _ i h1 h2 (.inl h)).mono ?_
    rintro e w2 ⟨rfl, rfl⟩
    go_wp2_with fail
    go_ret
    exact ⟨rfl, b1⟩
  · go_enter Try.func5, Try.ntmps5
    go_wp2_with fail
    refine (sanity_any _).mono ?_
    rintro e w1 ⟨rfl, b1⟩
    go_wp2_with fail
    refine (start_bad _ i h1 h2 (.inr h)).mono ?_
    rintro e w2 ⟨rfl, rfl⟩
    go_wp2_with fail
    go_ret
    exact ⟨rfl, b1⟩

set_option maxRecDepth 100000 in
theorem tears_long (w : World) (m : Nat) (h1 : 1 ≤ m) (h2 : m ≤ 64) (A : Option Addr) (n c : Nat) (v : Value) (hn : 60 < n) (_hn2 : n ≤ 9223372036854775807) :
    Calls Try.prog 5 #[.int .i64 m, .slice A n c, v] w (RetB (.bool true) w) := by
  go_enter Try.func5, Try.ntmps5
  go_wp2_with fail
  refine (sanity_any _).mono ?_
  rintro e w1 ⟨rfl, b1⟩
  go_wp2_with fail
  refine (start_any _ m h1 h2).mono ?_
  rintro e w2 ⟨g, gb, gp, gw, r, gs, cap, ext, rfl, -, -, b2, -⟩
  go_wp2_with fail
  go_ret
  exact ⟨rfl, b1.trans (b2.mono b1.size)⟩

theorem cmp_torn (sB sT sN : ByteArray) (a b : Bs) {nb : Bs} (q : Nat) (hB : sB = ⟨nb.toArray⟩) (hT : sT = ⟨a.toArray⟩) (hN : sN = ⟨b.toArray⟩) (hn : nb = tornB b a q) (ha : a.length = 64) (_hq : q ≤ 64) : sN.extract 0 q ++ sT.extract q 64 = sB := by
  rw [hB, hT, hN, hn, torn_bytes _ _ _ ha]
theorem five_in {w w' : World} {b off : Nat} {u0 u1 u2 u3 u4 : Value} (h : w.cell? ⟨b, off, none⟩ = some u0 ∧ w.cell? ⟨b, off + 1, none⟩ = some u1 ∧ w.cell? ⟨b, off + 2, none⟩ = some u2 ∧ w.cell? ⟨b, off + 3, none⟩ = some u3 ∧ w.cell? ⟨b, off + 4, none⟩ = some u4) (hk : ∀ p : Addr, p.block = b → w'.cell? p = w.cell? p) :
    w'.cell? ⟨b, off, none⟩ = some u0 ∧ w'.cell? ⟨b, off + 1, none⟩ = some u1 ∧ w'.cell? ⟨b, off + 2, none⟩ = some u2 ∧ w'.cell? ⟨b, off + 3, none⟩ = some u3 ∧ w'.cell? ⟨b, off + 4, none⟩ = some u4 :=
  ⟨(hk _ rfl).trans h.1, (hk _ rfl).trans h.2.1, (hk _ rfl).trans h.2.2.1, (hk _ rfl).trans h.2.2.2.1, (hk _ rfl).trans h.2.2.2.2⟩

set_option maxHeartbeats 8000000 in
set_option maxRecDepth 100000 in
theorem tears_main (w : World) (m : Nat) (h1 : 1 ≤ m) (h2 : m ≤ 64)
    (A : Option Addr) (n c : Nat) (os : List OpV) (hS : Script w w.heap.size A n os) (hn : n ≤ 60)
    (A2 : Option Addr) (n2 c2 : Nat) (ps : List Int) (hP : Rd w w.heap.size 1 A2 n2 (intCells ps)) (hn2 : n2 ≤ 9223372036854775807) :
    Calls Try.prog 5 #[.int .i64 m, .slice A n c, .slice A2 n2 c2] w (RetB (.bool true) w) := by
  have HS := Lib.hid hS
  have HP := Lib.hid hP
  have HN2 := Lib.hid hn2
  clear hS hP
  go_enter Try.func5, Try.ntmps5
  go_wp2_with fail
  refine (sanity_any _).mono ?_
  rintro e w1 ⟨rfl, q1⟩
  have Q1 := Lib.hid q1
  clear q1
  go_wp2_with fail
  refine (start_any _ m h1 h2).mono ?_
  rintro e w2 ⟨g, gb, gp, gw, r, gs, cap, ext, rfl, d2, r2, q2, hge, hlt1, hlt2⟩
  have D2 := Lib.hid d2
  have R2 := Lib.hid r2
  have Q2 := Lib.hid (Q1.out.trans (q2.mono Q1.out.size))
  have GE := Lib.hid (show ∀ b ∈ [g, gb, gp, gw], w.heap.size ≤ b by
    have := Q1.out.size
    intro b hb
    simp only [List.mem_cons, List.not_mem_nil, or_false] at hb
    rcases hb with rfl | rfl | rfl | rfl <;> omega)
  have GE2 := Lib.hid (show ∀ b ∈ [r, gs], w.heap.size ≤ b by
    have := Q1.out.size
    intro b hb
    simp only [List.mem_cons, List.not_mem_nil, or_false] at hb
    rcases hb with rfl | rfl <;> omega)
  have NR := Lib.hid (show r ∉ [g, gb, gp, gw] ∧ gs ∉ [g, gb, gp, gw] by
    simp only [List.mem_cons, List.not_mem_nil, or_false]
    omega)
  have NG := Lib.hid (show ∀ k, k ∈ [r, gs] → k ≠ g ∧ k ≠ gb ∧ k ≠ gp ∧ k ≠ gw by
    intro k hk
    simp only [List.mem_cons, List.not_mem_nil, or_false] at hk
    rcases hk with rfl | rfl <;> omega)
  clear d2 r2 q2 hge hlt1 hlt2
  go_wp2_with fail
  go_loopw [11] (fun x wr => ∃ k : Nat, k ≤ n ∧ x = .int .i64 k ∧ Hid (DiskAt wr g gb gp gw k (playS (newS m) (os.take k))) ∧ Hid (RefAt wr r gs (rPlay (newR m cap ext) (os.take k))) ∧ Hid (Below w.heap.size w wr)) (fun x _ => n - (intOf x).toNat)
  case atStart => exact ⟨0, by omega, rfl, D2, R2, Q2⟩
  case round =>
    obtain ⟨k, hk, rfl, D, R, Q⟩ := hrel
    by_cases hlt : k < n
    · obtain ⟨b, off, o, rfl, hb, ho, hoa, c0, c1, c2, c3, c4⟩ := (HS.out.keep (w' := wr) (fun p hp => Q.out.cell hp)).op hlt
      have HO := Lib.hid ho
      have HOA := Lib.hid (hoa.more Q.out.size)
      have HOB := Lib.hid hoa
      have i1 : (k : Int) < (n : Int) := by omega
      have HBB := Lib.hid hb
      have HC := Lib.hid (And.intro c0 (And.intro c1 (And.intro c2 (And.intro c3 c4))))
      clear ho hoa
      go_wp2_with fail
      refine (do_any _ g gb gp gw k _ D.out (by omega) ((tame_play _ _).ok (pendOK_new m)) o HOA.out (HS.out.picks HO.out GE.out)).mono ?_
      rintro e w3 ⟨rfl, d3, k3⟩
      have D3 := Lib.hid d3
      have R3 := Lib.hid (R.out.keep k3 NR.out.1 NR.out.2)
      have Q3 := Lib.hid (Q.out.trans (k3.below Q.out.size GE.out))
      clear d3 k3 c0 c1 c2 c3 c4
      obtain ⟨c0, c1, c2, c3, c4⟩ := five_in (w := wr) (w' := w3) HC.out (fun p hp => by
        rw [Q3.out.cell (p := p) (by rw [hp]; exact HBB.out), Q.out.cell (p := p) (by rw [hp]; exact HBB.out)])
      unfold StrErr
      go_wp2_with fail
      refine (rdo_any _ r gs _ R3.out o ((HOB.out.keep (fun p hp => by rw [Q3.out.cell hp, Q.out.cell hp])).more Q3.out.size) (HS.out.picks HO.out GE2.out)).mono ?_
      rintro e w4 ⟨rfl, r4, k4⟩
      have R4 := Lib.hid r4
      have D4 := Lib.hid (D3.out.keep k4 NG.out)
      have Q4 := Lib.hid (Q3.out.trans (k4.below Q3.out.size GE2.out))
      clear r4 k4
      unfold StrErr
      go_wp2_with fail
      go_roundw
      case rel => exact ⟨k + 1, by omega, by go_num, by rw [playS_snoc _ _ _ _ HO.out]; exact D4, by rw [rPlay_snoc _ _ _ _ HO.out]; exact R4, Q4⟩
      case measure => simp [intOf]; omega
    · obtain rfl : k = n := by omega
      rw [← HS.out.len, List.take_length] at D R
      have SM := Lib.hid (Sim.play os (sim_new m cap ext h1))
      have hlen := (tame_play os (newS m)).len
      rw [show (newS m).bl.length = m from List.length_replicate] at hlen
      obtain ⟨S, hS⟩ : ∃ S, S = playS (newS m) os := ⟨_, rfl⟩
      obtain ⟨T, hT⟩ : ∃ T, T = rPlay (newR m cap ext) os := ⟨_, rfl⟩
      rw [← hS] at D hlen SM
      rw [← hT] at R SM
      obtain ⟨L, hL⟩ : ∃ L, L = os.length := ⟨_, rfl⟩
      rw [← hL] at D
      have hL60 : L ≤ 60 := by rw [hL, HS.out.len]; exact hn
      have HLEN := Lib.hid hlen
      have HL2 := Lib.hid ((tame_mount S ps).len.trans hlen)
      have HTL := Lib.hid (SM.out.len.trans hlen)
      have HPK := Lib.hid (show 0 < n2 → ∀ b x, A2 = some ⟨b, x, none⟩ → b ∉ [g, gb, gp, gw] from fun h0 b x e hb => by
        obtain ⟨b', _, e', hlt', _⟩ := HP.out.2 h0
        rw [e] at e'
        injection e' with e'; injection e' with e'
        have := GE.out b hb
        omega)
      have PO := Lib.hid SM.out.pendOK
      have PD := Lib.hid (pend_done SM.out ps)
      clear hS hT hlen hL HS D2 R2
      go_wp2_with fail
      refine (image_m _ g gb gp gw L m S D.out HLEN.out).mono ?_
      rintro e w3 ⟨A3, cp3, rfl, r3, l3, b3, n3⟩
      have R3 := Lib.hid r3
      have N3 := Lib.hid n3
      have D3 := Lib.hid (D.out.below b3)
      have T3 := Lib.hid (R.out.go b3)
      have Q3 := Lib.hid (Q.out.trans (b3.mono Q.out.size))
      clear r3 b3 n3
      go_wp2_with fail
      refine (mount_gen _ g gb gp gw L S D3.out (by omega) PO.out A2 n2 c2 ps (HP.out.go Q3.out) HN2.out HPK.out).mono ?_
      rintro e w4 ⟨rfl, d4, k4⟩
      have D4 := Lib.hid d4
      have R4 := Lib.hid (R3.out.kept k4 N3.out)
      have T4 := Lib.hid (T3.out.keep k4 NR.out.1 NR.out.2)
      have Q4 := Lib.hid (Q3.out.trans (k4.below Q3.out.size GE.out))
      clear d4 k4
      go_wp2_with fail
      refine (image_m _ g gb gp gw L m _ D4.out HL2.out).mono ?_
      rintro e w5 ⟨A5, cp5, rfl, r5, l5, b5, n5⟩
      have R5 := Lib.hid r5
      have D5 := Lib.hid (D4.out.below b5)
      have R45 := Lib.hid (R4.out.go b5)
      have T5 := Lib.hid (T4.out.go b5)
      have Q5 := Lib.hid (Q4.out.trans (b5.mono Q4.out.size))
      clear r5 b5 n5
      go_wp2_with fail
      refine (pending_any _ g gb gp gw L _ D5.out (by omega)).mono ?_
      rintro e w6 ⟨v, rfl, hrow, b6⟩
      obtain ⟨A6, cp6, rfl, -⟩ := own_slice hrow
      rw [PD.out]
      have D6 := Lib.hid (D5.out.below b6)
      have R46 := Lib.hid (R45.out.go b6)
      have R56 := Lib.hid (R5.out.go b6)
      have T6 := Lib.hid (T5.out.go b6)
      have Q6 := Lib.hid (Q5.out.trans (b6.mono Q5.out.size))
      have P6 := Lib.hid ((HP.out.go Q6.out))
      clear hrow b6
      go_wp2_with fail
      refine (up_any _ g gb gp gw L _ D6.out).mono ?_
      rintro e w7 ⟨rfl, rfl⟩
      rw [show (!(mountS S ps).off) = true from rfl]
      clear D D3 D4 D5 D6 R R3 R4 R45 R5 T3 T4 T5
      go_wp2_with fail
      go_loopw [14, 15] (fun u v wq => ∃ i : Nat, i ≤ m ∧ u = .int .i64 (cntD (T.s.take i) : Nat) ∧ v = .int .i64 i ∧ Hid (Below w6.heap.size w6 wq)) (fun _ v _ => m - (intOf v).toNat)
      case atStart => exact ⟨0, by omega, rfl, rfl, Lib.hid (Below.refl _ _)⟩
      case round =>
        obtain ⟨i, hi, rfl, rfl, B⟩ := hrel
        by_cases hlt : i < m
        · have hil : i < T.s.length := by have := HTL.out; omega
          obtain ⟨x, hx⟩ : ∃ x, T.s[i]? = some x := ⟨_, List.getElem?_eq_getElem hil⟩
          have HX := Lib.hid hx
          have T7 := T6.out.go B.out
          obtain ⟨d0, d1, d2, d3⟩ := T7.sec hx
          obtain ⟨e0, -, -⟩ := T7.heads
          rw [HTL.out] at e0
          obtain ⟨bA, oA, uA, rfl, hbA, huA, cA⟩ := (R46.out.below B.out).at1 hlt
          obtain ⟨bB, oB, uB, rfl, hbB, huB, cB⟩ := (R56.out.below B.out).at1 hlt
          rw [strCells, List.getElem?_map, old_at SM.out hx] at huA
          rw [strCells, List.getElem?_map, now_at SM.out ps hx] at huB
          obtain rfl := (Option.some.inj huA).symm
          obtain rfl := (Option.some.inj huB).symm
          have hxm := List.mem_of_getElem? hx
          have t64 := T7.t64 x hxm
          have n64 := T7.n64 x hxm
          obtain ⟨sT, hsT⟩ : ∃ sT : ByteArray, sT = ⟨x.text.toArray⟩ := ⟨_, rfl⟩
          obtain ⟨sN, hsN⟩ : ∃ sN : ByteArray, sN = ⟨x.next.toArray⟩ := ⟨_, rfl⟩
          have zT : sT.size = 64 := by rw [hsT, mk_size, t64]
          rw [show str x.text = .string sT by rw [hsT]] at d0 cA
          rw [show str x.next = .string sN by rw [hsN]] at d1
          have HT := Lib.hid hsT
          have HN := Lib.hid hsN
          have CS := Lib.hid (cntD_snoc hx)
          have lA : bA < wr.heap.size := Nat.lt_of_lt_of_le hbA B.out.size
          have lB : bB < wr.heap.size := Nat.lt_of_lt_of_le hbB B.out.size
          have j1 : (i : Int) < (m : Int) := by omega
          have j0 : (0 : Int) ≤ (i : Int) := by omega
          have PQ := Lib.hid (P6.out.below B.out)
          have T64 := Lib.hid t64
          have N64 := Lib.hid n64
          clear hx hxm T7 hil huA huB hsT hsN t64 n64
          cases hd : x.dirty
          · rw [hd] at d2
            have hnow : nowB T ps i x = x.text := by rw [nowB, if_neg (by simp [hd])]
            rw [hnow, show str x.text = .string sT by rw [HT.out]] at cB
            have CS' := Lib.hid (show cntD (T.s.take (i + 1)) = cntD (T.s.take i) by rw [CS.out, hd]; rfl)
            clear CS hnow hd
            generalize hcu : cntD (T.s.take i) = cu at *
            clear hcu
            have cA' : (wr.alloc (.cells #[.string sT, .string sN, .bool false, .bool x.worn] 52)).cell? ⟨bA, oA + i, none⟩ = some (.string sT) := (World.cell?_alloc_lt wr _ ⟨bA, oA + i, none⟩ lA).trans cA
            have cB' : (wr.alloc (.cells #[.string sT, .string sN, .bool false, .bool x.worn] 52)).cell? ⟨bB, oB + i, none⟩ = some (.string sT) := (World.cell?_alloc_lt wr _ ⟨bB, oB + i, none⟩ lB).trans cB
            go_wp2_with fail
            go_roundw
            case rel => exact ⟨i + 1, by omega, by rw [CS'.out], by go_num, Lib.hid (B.out.alloc B.out.size _)⟩
            case measure => simp [intOf]; omega
          · rw [hd] at d2
            have zN : sN.size = 64 := by rw [HN.out, mk_size, N64.out hd]
            have CS' := Lib.hid (show cntD (T.s.take (i + 1)) = cntD (T.s.take i) + 1 by rw [CS.out, hd]; rfl)
            have HNW := Lib.hid (show nowB T ps i x = if x.worn = false then tornB x.next x.text (pq (pickF ps (cntD (T.s.take i)))) else x.text by rw [nowB, hd]; simp)
            clear CS
            generalize hcu : cntD (T.s.take i) = cu at *
            have ju : (0 : Int) ≤ (cu : Int) := by omega
            have hcl : cu ≤ i := by rw [← hcu]; exact Nat.le_trans (cntD_le _) (by rw [List.length_take]; omega)
            clear hcu
            cases hw : x.worn
            · rw [hw] at d3
              obtain ⟨nb, hnb⟩ : ∃ nb, nb = nowB T ps i x := ⟨_, rfl⟩
              obtain ⟨sB, hsB⟩ : ∃ sB : ByteArray, sB = ⟨nb.toArray⟩ := ⟨_, rfl⟩
              rw [← hnb, show str nb = .string sB by rw [hsB]] at cB
              have HB := Lib.hid hsB
              have HNB := Lib.hid (show nb = tornB x.next x.text (pq (pickF ps cu)) by rw [hnb, HNW.out, hw, if_pos rfl])
              have cA' : (wr.alloc (.cells #[.string sT, .string sN, .bool true, .bool false] 52)).cell? ⟨bA, oA + i, none⟩ = some (.string sT) := (World.cell?_alloc_lt wr _ ⟨bA, oA + i, none⟩ lA).trans cA
              have cB' : (wr.alloc (.cells #[.string sT, .string sN, .bool true, .bool false] 52)).cell? ⟨bB, oB + i, none⟩ = some (.string sB) := (World.cell?_alloc_lt wr _ ⟨bB, oB + i, none⟩ lB).trans cB
              clear hnb hsB HNW hw hd
              by_cases hkn : cu < n2
              · obtain ⟨b, o, e, hbb, hcc⟩ := PQ.out.2 (by omega)
                subst e
                have hcl : cu < ps.length := by have := PQ.out.1; rw [intCells, List.length_map, Nat.mul_one] at this; omega
                have hpk : (wr.alloc (.cells #[.string sT, .string sN, .bool true, .bool false] 52)).cell? ⟨b, o + cu, none⟩ = some (.int .i64 (ps.getD cu 0)) := by
                  rw [World.cell?_alloc_lt wr _ ⟨b, o + cu, none⟩ (Nat.lt_of_lt_of_le hbb B.out.size)]
                  refine hcc cu _ ?_
                  rw [intCells, List.getElem?_map, List.getElem?_eq_getElem hcl, Option.map_some, List.getD_eq_getElem?_getD, List.getElem?_eq_getElem hcl, Option.getD_some]
                have HPK2 := Lib.hid (show pickF ps cu = ps.getD cu 0 by rw [pickF, if_pos hcl])
                generalize ps.getD cu 0 = pk at *
                have i2 : (cu : Int) < (n2 : Int) := by omega
                obtain ⟨q, hq⟩ : ∃ q, q = pq pk := ⟨_, rfl⟩
                have q64 : q ≤ 64 := by rw [hq]; exact pq_le pk
                have hmx : max 0 (min pk 64) = (q : Int) := by rw [hq]; exact clamp_pq pk
                have q1 : (q : Int) ≤ 64 := by omega
                have q0 : (0 : Int) ≤ (q : Int) := by omega
                have HQ := Lib.hid (show pq (pickF ps cu) = q by rw [HPK2.out, hq])
                clear hcc hq hcl
                have hcmp := cmp_torn sB sT sN x.text x.next q HB.out HT.out HN.out (by rw [HNB.out, HQ.out]) T64.out (by omega)
                go_wp2_with fail
                go_quiet (fail)
                go_wp2_with fail
                go_roundw
                case rel => exact ⟨i + 1, by omega, by rw [CS'.out]; go_num, by go_num, Lib.hid (below_drewN (B.out.alloc B.out.size _) _)⟩
                case measure => simp [intOf]; omega
              · have HQ := Lib.hid (show pq (pickF ps cu) = 64 by rw [pickF, if_neg (by have := PQ.out.1; rw [intCells, List.length_map, Nat.mul_one] at this; omega)]; rfl)
                have hcmp := cmp_torn sB sT sN x.text x.next 64 HB.out HT.out HN.out (by rw [HNB.out, HQ.out]) T64.out (by omega)
                rw [show sT.extract 64 64 = ByteArray.empty by simp, ByteArray.append_empty] at hcmp
                have HCMP := Lib.hid hcmp
                clear hcmp
                go_wp2_with fail
                go_quiet (fail)
                rw [HCMP.out]
                go_wp2_with fail
                go_roundw
                case rel => exact ⟨i + 1, by omega, by rw [CS'.out]; go_num, by go_num, Lib.hid (below_drewN (B.out.alloc B.out.size _) _)⟩
                case measure => simp [intOf]; omega
            · rw [hw] at d3
              rw [HNW.out, hw, if_neg (by simp), show str x.text = .string sT by rw [HT.out]] at cB
              have cA' : (wr.alloc (.cells #[.string sT, .string sN, .bool true, .bool true] 52)).cell? ⟨bA, oA + i, none⟩ = some (.string sT) := (World.cell?_alloc_lt wr _ ⟨bA, oA + i, none⟩ lA).trans cA
              have cB' : (wr.alloc (.cells #[.string sT, .string sN, .bool true, .bool true] 52)).cell? ⟨bB, oB + i, none⟩ = some (.string sT) := (World.cell?_alloc_lt wr _ ⟨bB, oB + i, none⟩ lB).trans cB
              clear HNW hw hd
              by_cases hkn : cu < n2
              · obtain ⟨b, o, e, hbb, hcc⟩ := PQ.out.2 (by omega)
                subst e
                have hcl : cu < ps.length := by have := PQ.out.1; rw [intCells, List.length_map, Nat.mul_one] at this; omega
                have hpk : (wr.alloc (.cells #[.string sT, .string sN, .bool true, .bool true] 52)).cell? ⟨b, o + cu, none⟩ = some (.int .i64 (ps.getD cu 0)) := by
                  rw [World.cell?_alloc_lt wr _ ⟨b, o + cu, none⟩ (Nat.lt_of_lt_of_le hbb B.out.size)]
                  refine hcc cu _ ?_
                  rw [intCells, List.getElem?_map, List.getElem?_eq_getElem hcl, Option.map_some, List.getD_eq_getElem?_getD, List.getElem?_eq_getElem hcl, Option.getD_some]
                have HPK2 := Lib.hid (show pickF ps cu = ps.getD cu 0 by rw [pickF, if_pos hcl])
                generalize ps.getD cu 0 = pk at *
                have i2 : (cu : Int) < (n2 : Int) := by omega
                obtain ⟨q, hq⟩ : ∃ q, q = pq pk := ⟨_, rfl⟩
                have q64 : q ≤ 64 := by rw [hq]; exact pq_le pk
                have hmx : max 0 (min pk 64) = (q : Int) := by rw [hq]; exact clamp_pq pk
                have q1 : (q : Int) ≤ 64 := by omega
                have q0 : (0 : Int) ≤ (q : Int) := by omega
                have HQ := Lib.hid (show pq (pickF ps cu) = q by rw [HPK2.out, hq])
                clear hcc hq hcl
                go_wp2_with fail
                go_roundw
                case rel => exact ⟨i + 1, by omega, by rw [CS'.out]; go_num, by go_num, Lib.hid (B.out.alloc B.out.size _)⟩
                case measure => simp [intOf]; omega
              · have HQ := Lib.hid (show pq (pickF ps cu) = 64 by rw [pickF, if_neg (by have := PQ.out.1; rw [intCells, List.length_map, Nat.mul_one] at this; omega)]; rfl)
                go_wp2_with fail
                go_roundw
                case rel => exact ⟨i + 1, by omega, by rw [CS'.out]; go_num, by go_num, Lib.hid (B.out.alloc B.out.size _)⟩
                case measure => simp [intOf]; omega
        · obtain rfl : i = m := by omega
          go_wp2_with fail
          go_ret
          exact ⟨rfl, Q6.out.trans (B.out.mono Q6.out.size)⟩
end Go.Proofs.Ytibhnjnfifpepaa
