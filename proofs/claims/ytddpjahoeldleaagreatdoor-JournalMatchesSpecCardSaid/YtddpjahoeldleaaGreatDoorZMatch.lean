/- The walk of JournalMatchesSpec. -/
import Derived.Test.YtddpjahoeldleaaGreatDoorZReads
namespace Go.Proofs.YtddpjahoeldleaaGreatDoor
open Go.RowKit Go.Maps
open Dk (RSt RefAt Sim RPost)

theorem newR_bad (w : World) (i : Int) (h : i < 1 ∨ 4096 < i) : Calls Tryz.prog 21 #[.int .i64 i] w (Ret (.tuple #[.pointer none, .int .i64 1]) w) := by
  rcases h with h | h
  · go_enter Tryz.func21, Tryz.ntmps21
    go_wp2_with fail
    go_ret2
    exact Ret.mk
  · go_enter Tryz.func21, Tryz.ntmps21
    go_wp2_with fail
    go_ret2
    exact Ret.mk
theorem app_atB {w0 W : World} {j g gb gp gw K : Nat} {vn vb vt : Value} {J : JV} {S : Dk.St} {c : Nat} (h : JD w0 W j g gb gp gw K vn vb vt J S) (hk : Consts w0) (hK : K + 200 ≤ 100000) (s : ByteArray) (hF : Fair J c) (hc : c ≤ 90000) :
    Calls Tryz.prog 14 #[.pointer (some ⟨j, 0, none⟩), .string s] W (fun e W' => ∃ vn' vt', e = .returned (.tuple #[.int .i64 (appR J S s.data.toList).n, .int .i64 (appR J S s.data.toList).err]) ∧ JD w0 W' j g gb gp gw (K + 200) vn' vb vt' (appR J S s.data.toList).J (appR J S s.data.toList).S ∧ Keep (j :: (ob vn ++ ob vt ++ [g, gb, gp, gw])) W W' ∧ Aged W vn vn' ∧ Aged W vt vt') :=
  (app_any W j g vn vb vt J gb gp gw K S h.jat h.dd.disk h.dd.pend (hk.below h.dd.below) hK s hF.x1 hF.f0 hF.f1 (Nat.le_trans hF.n hc) (Nat.le_trans hF.t hc)).mono fun _ _ hp => h.app2 hp
theorem blk_far {F : List Nat} {W W' : World} {b : Nat} {t : TypeId} {cs : Array Value} (h : Blk W b t cs) (hk : Keep F W W') (hF : b ∉ F) : Blk W' b t cs := (hk.block b h.lt hF).trans h
section
variable {w0 W W' : World} {j g gb gp gw K K' q r gs : Nat} {vn vb vt un ut ub : Value} {J : JV} {S : Dk.St} {T : RSt} {B : Nat} {t : TypeId} {cs : Array Value}
/-- a block behind all that the disks have -/
def Aside (B j g gb gp gw : Nat) (vn vb vt : Value) (q r gs : Nat) (un ut ub : Value) : Prop := (∀ k, k ∈ bP j g gb gp gw vn vb vt → k < B) ∧ ∀ k, k ∈ bR q r gs un ut ub → k < B
theorem Both.aside (h : Both w0 W j g gb gp gw K q r gs vn vb vt un ut ub J S T) : Aside W.heap.size j g gb gp gw vn vb vt q r gs un ut ub := ⟨fun _ hk => h.jd.ltP hk, fun _ hk => rj_lt h.rj h.rf hk⟩
theorem Aside.disk (h : Aside B j g gb gp gw vn vb vt q r gs un ut ub) : B ∉ [g, gb, gp, gw] := fun hm => Nat.lt_irrefl _ (h.1 B (mem_bP.2 (.inr (.inr (.inr (.inr hm))))))
theorem Aside.rdisk (h : Aside B j g gb gp gw vn vb vt q r gs un ut ub) : B ∉ [r, gs] := fun hm => Nat.lt_irrefl _ (h.2 B (mem_bR.2 (.inr (.inr (.inr (.inr hm))))))
theorem Aside.app (h : Aside B j g gb gp gw vn vb vt q r gs un ut ub) : B ∉ j :: (ob vn ++ ob vt ++ [g, gb, gp, gw]) := fun hm => by
  refine Nat.lt_irrefl _ (h.1 B ?_)
  rcases List.mem_cons.1 hm with e | hm
  · exact mem_bP.2 (.inl e)
  · rcases List.mem_append.1 hm with hm | hm
    · rcases List.mem_append.1 hm with hm | hm
      · exact mem_bP.2 (.inr (.inl (mem_ob.1 hm)))
      · exact mem_bP.2 (.inr (.inr (.inr (.inl (mem_ob.1 hm)))))
    · exact mem_bP.2 (.inr (.inr (.inr (.inr hm))))
end
theorem trip_pend {S : Dk.St} {n : Int} (h : Dk.PendOK S) : Dk.PendOK { S with left := n } := h
theorem err_self (E : Int) : (E != E) = false := by simp

set_option maxHeartbeats 16000000 in
set_option maxRecDepth 100000 in
theorem law_match (sectors : Int) (n1 : -9223372036854775808 ≤ sectors) (n2 : sectors ≤ 9223372036854775807) (A : Option Addr) (n c : Nat) (os : List StepV) (w : World)
    (hs : Script w w.heap.size A n os) (hl : n ≤ 9223372036854775807) (hk : Consts w) (hr : RConsts w) :
    Calls Tryz.prog 4 #[.int .i64 sectors, .slice A n c] w (RetB (.bool true) w) := by
  have HK := Lib.hid hk
  have HKR := Lib.hid hr
  have HS := Lib.hid hs
  clear hk hr hs
  by_cases g1 : 200 < sectors
  · go_enter Tryz.func4, Tryz.ntmps4
    go_wp2_with fail
    refine (sanity_any _ HK.out).mono ?_
    rintro e w' ⟨rfl, b⟩
    have B := Lib.hid b
    clear b
    go_wp2_with fail
    go_ret
    exact ⟨rfl, B.out⟩
  cases hfew : fewB os with
  | false =>
    have HFE := Lib.hid hfew
    clear hfew
    go_enter Tryz.func4, Tryz.ntmps4
    go_wp2_with fail
    refine (few_any A n c os w HS.out hl).mono ?_
    rw [HFE.out]
    rintro e w1 ⟨rfl, b1⟩
    have B1 := Lib.hid b1
    clear b1
    go_wp2_with fail
    refine (sanity_any _ (HK.out.below B1.out)).mono ?_
    rintro e w' ⟨rfl, b⟩
    have B := Lib.hid (below_go B1.out b)
    clear b
    go_wp2_with fail
    go_ret
    exact ⟨rfl, B.out⟩
  | true =>
  have HFE := Lib.hid hfew
  have HOL := Lib.hid HS.out.len
  have hn30 : n ≤ 30 := by
    have h := hfew
    unfold fewB at h
    simp only [Bool.and_eq_true, decide_eq_true_eq] at h
    have := HOL.out
    omega
  clear hfew
  by_cases g4 : sectors < 1
  · go_enter Tryz.func4, Tryz.ntmps4
    go_wp2_with fail
    refine (few_any A n c os w HS.out hl).mono ?_
    rw [HFE.out]
    rintro e w1 ⟨rfl, b1⟩
    have B1 := Lib.hid b1
    clear b1
    go_wp2_with fail
    refine (Dk.new_bad w1 sectors n1 n2 (.inl g4)).mono ?_
    rintro e w' ⟨rfl, rfl⟩
    go_wp2_with fail
    refine (newR_bad w1 sectors (.inl g4)).mono ?_
    rintro e w' ⟨rfl, rfl⟩
    go_wp2_with fail
    refine (sanity_any _ (HK.out.below B1.out)).mono ?_
    rintro e w' ⟨rfl, b⟩
    have B := Lib.hid (below_go B1.out b)
    clear b
    go_wp2_with fail
    go_ret
    exact ⟨rfl, B.out⟩
  obtain ⟨N, rfl⟩ : ∃ N : Nat, sectors = (N : Int) := ⟨sectors.toNat, by omega⟩
  have N1 : 1 ≤ N := by omega
  have N2 : N ≤ 200 := by omega
  clear n1 n2 g1 g4
  go_enter Tryz.func4, Tryz.ntmps4
  go_wp2_with fail
  refine (few_any A n c os w HS.out hl).mono ?_
  rw [HFE.out]
  rintro e w1 ⟨rfl, b1⟩
  have B1 := Lib.hid b1
  clear b1 HFE
  go_wp2_with fail
  refine (Dk.new_any w1 N N1 (by omega)).mono ?_
  rintro e w2 hp
  obtain ⟨g, gb, gp, gw, rfl, d1_⟩ := dd_new hp
  have D1 := Lib.hid d1_
  clear d1_ hp
  go_wp2_with fail
  refine (Dk.newR_any w2 N N1 (by omega)).mono ?_
  rintro e w3 ⟨r, gs, cap, ext, rfl, hR, hb2, q5, q6⟩
  have P2 := Lib.hid (pair_new D1.out hR hb2 q5 q6)
  have HK1 := Lib.hid (HK.out.below B1.out)
  have HKR1 := Lib.hid (HKR.out.below B1.out)
  have HS1 := Lib.hid (show Script w1 w.heap.size A n os from HS.out.keep (fun p hp => B1.out.cell hp))
  have S2 := Lib.hid (Dk.sim_new N cap ext N1)
  have HTL := Lib.hid (show (Dk.newR N cap ext).s.length = N by show (List.replicate N Dk.zSec).length = N; simp)
  have HC2 := Lib.hid (check0 S2.out rfl)
  have HSO := Lib.hid (sim_open S2.out)
  have F2 := Lib.hid (fair_open (c := 200) (T := Dk.newR N cap ext) (by rw [HTL.out]; omega) (by rw [HTL.out]; omega))
  clear hR hb2 q5 q6 D1 HK HKR HS
  go_wp2_with fail
  refine (open_any w3 g gb gp gw _ _ P2.out.dd.disk (HK1.out.below P2.out.dd.below)).mono ?_
  rintro e w5 hp
  obtain ⟨j, vn, vb, vt, rfl, j5, r5, a5⟩ := P2.out.open_ hp HC2.out
  have J5 := Lib.hid j5
  have R5 := Lib.hid r5
  have A5 := Lib.hid a5
  clear j5 r5 a5 hp
  go_wp2_with fail
  refine (ropen_any w5 r gs _ R5.out (HKR1.out.below J5.out.dd.below)).mono ?_
  rintro e w6 hp
  obtain ⟨q, un, ut, ub, rfl, b6⟩ := both_open J5.out R5.out P2.out.far A5.out hp rfl HSO.out.symm
  have B6 := Lib.hid b6
  clear b6 hp J5 R5 A5
  go_wp2_with fail
  refine (same_any w6 j g gb gp gw _ q r gs vn vb vt un ut ub _ _ _ 200 B6.out.jd.jat B6.out.jd.dd.disk B6.out.rj B6.out.rf S2.out.len (by rw [HSO.out]; exact F2.out) (by omega)).mono ?_
  rintro e w7 ⟨rfl, b7⟩
  have B7 := Lib.hid (B6.out.go b7)
  have F7 := Lib.hid (show Fair (openJ (Dk.newS N)) 200 by rw [HSO.out]; exact F2.out)
  clear b7 B6 F2 HSO HC2
  go_wp2_with fail
  go_loopw [9, 11, 71] (fun pj ps x wr => ∃ (i : Nat) (S : Dk.St) (T : RSt) (J : JV) (j q : Nat) (vn vb vt un ut ub : Value), i ≤ n ∧ x = .int .i64 i ∧ pj = .pointer (some ⟨j, 0, none⟩) ∧ ps = .pointer (some ⟨q, 0, none⟩) ∧ Hid (Both w1 wr j g gb gp gw (200 * i) q r gs vn vb vt un ut ub J S T) ∧ Hid (Sim S T) ∧ Hid (Fair J (200 + i)) ∧ Hid (T.s.length = N)) (fun _ _ x _ => n - (intOf x).toNat)
  case atStart => exact ⟨0, _, _, _, j, q, _, _, _, _, _, _, by omega, rfl, rfl, rfl, B7, S2, F7, HTL⟩
  case round =>
    obtain ⟨i, S, T, J, j, q, vn, vb, vt, un, ut, ub, hi, rfl, rfl, rfl, BX, SM, FX, L⟩ := hrel
    by_cases hlt : i < n
    · have HSW := Lib.hid (show Script wr w.heap.size A n os from HS1.out.keep (fun p hp => BX.out.jd.dd.below.cell (Nat.lt_of_lt_of_le hp B1.out.size)))
      obtain ⟨b, off, o, rfl, hbl, ho, x0, x1, x2, x3, x4, x5⟩ := rd_step HSW.out hlt
      have HO := Lib.hid (HSW.out.all o (List.mem_of_getElem? ho))
      obtain ⟨ok, oi, obt, osz, ofl, oA, on, oc, ps⟩ := o
      dsimp only at x0 x1 x2 x3 x4 x5
      clear ho hbl HSW
      have j1 : (i : Int) < (n : Int) := by omega
      have j0 : (0 : Int) ≤ (i : Int) := by omega
      have AS := Lib.hid BX.out.aside
      have HI1 := Lib.hid HO.out.i1
      have HI2 := Lib.hid HO.out.i2
      by_cases k1 : ok = 1
      · subst k1
        go_wp2_with fail
        obtain ⟨w2, hw2⟩ : ∃ w2, w2 = wr.alloc (.cells #[.int .i64 1, .int .i64 oi, .int .i64 obt, .int .i64 osz, .int .u8 (ofl.toNat : Int), .slice oA on oc] 25) := ⟨_, rfl⟩
        have QB := Lib.hid (show Below wr.heap.size wr w2 by rw [hw2]; exact below_new _ _)
        have Q2 := Lib.hid (show Blk w2 wr.heap.size 25 #[.int .i64 1, .int .i64 oi, .int .i64 obt, .int .i64 osz, .int .u8 (ofl.toNat : Int), .slice oA on oc] by rw [hw2]; exact Blk.new _ _ _)
        rw [← hw2]
        clear hw2 x0 x1 x2 x3 x4 x5
        have B2 := Lib.hid (BX.out.go QB.out)
        obtain ⟨y0, y1, y2, y3, y4, y5⟩ := blk6 Q2.out
        obtain ⟨t, ht⟩ : ∃ t, t = stepT osz ofl := ⟨_, rfl⟩
        obtain ⟨s, hs⟩ : ∃ s : ByteArray, s = ⟨t.toArray⟩ := ⟨_, rfl⟩
        have HTX := Lib.hid (show ∀ W, Calls Tryz.prog 15 #[.agg #[.int .i64 1, .int .i64 oi, .int .i64 obt, .int .i64 osz, .int .u8 (ofl.toNat : Int), .slice oA on oc]] W (RetB (.string s) W) from fun W => by
          have h := rtext_any 1 oi obt osz ofl oA on oc W
          rwa [← ht, show str t = .string s by rw [hs]] at h)
        clear ht hs
        refine (HTX.out _).mono ?_
        rintro e w3 ⟨rfl, b3⟩
        have B3 := Lib.hid (B2.out.go b3)
        have Q3 := Lib.hid (Q2.out.below b3 Q2.out.lt)
        clear b3 y0 y1 y2 y3 y4 y5
        go_wp2_with fail
        refine (app_atB B3.out.jd HK1.out (by omega) s FX.out (by omega)).mono ?_
        rintro e w4 ⟨vn4, vt4, rfl, j4, k4, ag1, ag2⟩
        obtain ⟨a1, a2, a3, a4⟩ := sim_app SM.out J s.data.toList
        obtain ⟨NR, hNR⟩ : ∃ x, x = (appT J T s.data.toList).n := ⟨_, rfl⟩
        obtain ⟨ER, hER⟩ : ∃ x, x = (appT J T s.data.toList).err := ⟨_, rfl⟩
        rw [a1, a2, ← hNR, ← hER]
        have HNR := Lib.hid hNR.symm
        have HER := Lib.hid hER.symm
        have Q4 := Lib.hid (blk_far Q3.out k4 AS.out.app)
        obtain ⟨h41, h42, h43, h44⟩ := B3.out.app j4 k4 ag1 ag2
        have J4 := Lib.hid h41
        have R4 := Lib.hid h42
        have D4 := Lib.hid h43
        have A4 := Lib.hid h44
        have HSJ := Lib.hid a3
        have HSS := Lib.hid a4
        have FA := Lib.hid (FX.out.app S s.data.toList (by have := SM.out.len; have := L.out; omega))
        have HLT := Lib.hid (show (appT J T s.data.toList).T.s.length = N by have h := a4.len; have h5 := (tame_appR J S s.data.toList).len; have := SM.out.len; have := L.out; omega)
        clear a1 a2 a3 a4 hNR hER h41 h42 h43 h44 j4 k4 ag1 ag2
        obtain ⟨y0, y1, y2, y3, y4, y5⟩ := blk6 Q4.out
        go_wp2_with fail
        refine (HTX.out _).mono ?_
        rintro e w5 ⟨rfl, b5⟩
        have J5 := Lib.hid (show JD w1 w5 j g gb gp gw (200 * i + 200) vn4 vb vt4 (appT J T s.data.toList).J (appR J S s.data.toList).S by rw [← HSJ.out]; exact J4.out.go b5)
        have R5 := Lib.hid (R4.out.below b5)
        have D5 := Lib.hid (ref_go D4.out b5)
        clear b5 y0 y1 y2 y3 y4 y5
        go_wp2_with fail
        refine (rapp_any w5 q r gs un ut ub J T R5.out D5.out (HKR1.out.below J5.out.dd.below) s FX.out.x1 FX.out.f0 FX.out.f1 (by have := FX.out.n; omega) (by have := FX.out.t; omega)).mono ?_
        rintro e w6 ⟨un6, ut6, rfl, j6, d6, k6, ag1, ag2⟩
        rw [HNR.out, HER.out]
        obtain ⟨JZ, hJZ⟩ : ∃ x, x = (appT J T s.data.toList).J := ⟨_, rfl⟩
        have BZ := Lib.hid (show Both w1 w6 j g gb gp gw (200 * i + 200) q r gs vn4 vb vt4 un6 ut6 ub JZ (appR J S s.data.toList).S (appT J T s.data.toList).T by
          rw [hJZ]; exact both_rapp J5.out R5.out B3.out.far A4.out (by exact j6) d6 k6 ag1 ag2)
        have SZ := HSS
        have FZ := Lib.hid (show Fair JZ (200 + i + 1) by rw [hJZ, ← HSJ.out]; exact FA.out)
        have LZ := HLT
        have y0 := True.intro
        have y1 := True.intro
        have y2 := True.intro
        have y3 := True.intro
        have y4 := True.intro
        have y5 := True.intro
        clear hJZ j6 d6 k6 ag1 ag2 J5 R5 D5 J4 R4 D4 Q4 A4
        obtain ⟨-, -, -, -, -, -, c6⟩ := BZ.out.rj.cells
        cases hcl : JZ.closed with
        | true =>
          rw [hcl] at c6
          clear hcl y0 y1 y2 y3 y4 y5
          go_wp2_with fail
          go_roundw
          case rel => exact ⟨i + 1, _, _, _, _, _, _, _, _, _, _, _, by omega, by go_num, rfl, rfl, Lib.hid (BZ.out.mono (by omega)), SZ, Lib.hid (FZ.out.mono (by omega)), LZ⟩
          case measure => simp [intOf]; omega
        | false =>
          rw [hcl] at c6
          clear hcl y0 y1 y2 y3 y4 y5
          go_wp2_with fail
          refine (same_any _ _ g gb gp gw _ _ r gs _ _ _ _ _ _ JZ _ _ 300 BZ.out.jd.jat BZ.out.jd.dd.disk BZ.out.rj BZ.out.rf SZ.out.len (FZ.out.mono (by omega)) (by omega)).mono ?_
          rintro e w20 ⟨rfl, b20⟩
          have B20 := Lib.hid (BZ.out.go b20)
          clear b20
          go_wp2_with fail
          go_roundw
          case rel => exact ⟨i + 1, _, _, _, _, _, _, _, _, _, _, _, by omega, by go_num, rfl, rfl, Lib.hid (B20.out.mono (by omega)), SZ, Lib.hid (FZ.out.mono (by omega)), LZ⟩
          case measure => simp [intOf]; omega
      have e1 : (ok == 1) = false := beq_eq_false_iff_ne.2 k1
      by_cases k2 : ok = 2
      · subst k2
        go_wp2_with fail
        obtain ⟨w2, hw2⟩ : ∃ w2, w2 = wr.alloc (.cells #[.int .i64 2, .int .i64 oi, .int .i64 obt, .int .i64 osz, .int .u8 (ofl.toNat : Int), .slice oA on oc] 25) := ⟨_, rfl⟩
        have QB := Lib.hid (show Below wr.heap.size wr w2 by rw [hw2]; exact below_new _ _)
        have Q2 := Lib.hid (show Blk w2 wr.heap.size 25 #[.int .i64 2, .int .i64 oi, .int .i64 obt, .int .i64 osz, .int .u8 (ofl.toNat : Int), .slice oA on oc] by rw [hw2]; exact Blk.new _ _ _)
        rw [← hw2]
        clear hw2 x0 x1 x2 x3 x4 x5
        have B2 := Lib.hid (BX.out.go QB.out)
        obtain ⟨y0, y1, y2, y3, y4, y5⟩ := blk6 Q2.out
        refine (Dk.trip_any w2 g gb gp gw _ S B2.out.jd.dd.disk oi HI1.out HI2.out).mono ?_
        rintro e w3 hp
        obtain ⟨rfl, b3⟩ := B2.out.disk hp (trip_pend B2.out.jd.dd.pend)
        have B3 := Lib.hid b3
        have Q3 := Lib.hid (blk_far Q2.out hp.2.2 AS.out.disk)
        clear b3 hp y0 y1 y2 y3 y4 y5
        obtain ⟨y0, y1, y2, y3, y4, y5⟩ := blk6 Q3.out
        go_wp2_with fail
        refine (Dk.rtrip_any w3 r gs T B3.out.rf oi HI1.out HI2.out).mono ?_
        rintro e w4 hp
        obtain ⟨rfl, b4⟩ := B3.out.rdisk hp
        obtain ⟨JZ, hJZ⟩ : ∃ x, x = J := ⟨_, rfl⟩
        have BZ := Lib.hid b4
        rw [← hJZ] at BZ
        have SZ := Lib.hid (SM.out.trip oi)
        have FZ := Lib.hid (show Fair JZ (200 + i) by rw [hJZ]; exact FX.out)
        have LZ := L
        clear b4 hp hJZ
        obtain ⟨-, -, -, -, -, -, c6⟩ := BZ.out.rj.cells
        cases hcl : JZ.closed with
        | true =>
          rw [hcl] at c6
          clear hcl y0 y1 y2 y3 y4 y5
          go_wp2_with fail
          go_roundw
          case rel => exact ⟨i + 1, _, _, _, _, _, _, _, _, _, _, _, by omega, by go_num, rfl, rfl, Lib.hid (BZ.out.mono (by omega)), SZ, Lib.hid (FZ.out.mono (by omega)), LZ⟩
          case measure => simp [intOf]; omega
        | false =>
          rw [hcl] at c6
          clear hcl y0 y1 y2 y3 y4 y5
          go_wp2_with fail
          refine (same_any _ _ g gb gp gw _ _ r gs _ _ _ _ _ _ JZ _ _ 300 BZ.out.jd.jat BZ.out.jd.dd.disk BZ.out.rj BZ.out.rf SZ.out.len (FZ.out.mono (by omega)) (by omega)).mono ?_
          rintro e w20 ⟨rfl, b20⟩
          have B20 := Lib.hid (BZ.out.go b20)
          clear b20
          go_wp2_with fail
          go_roundw
          case rel => exact ⟨i + 1, _, _, _, _, _, _, _, _, _, _, _, by omega, by go_num, rfl, rfl, Lib.hid (B20.out.mono (by omega)), SZ, Lib.hid (FZ.out.mono (by omega)), LZ⟩
          case measure => simp [intOf]; omega
      have e2 : (ok == 2) = false := beq_eq_false_iff_ne.2 k2
      by_cases k3 : ok = 3
      · subst k3
        go_wp2_with fail
        obtain ⟨w2, hw2⟩ : ∃ w2, w2 = wr.alloc (.cells #[.int .i64 3, .int .i64 oi, .int .i64 obt, .int .i64 osz, .int .u8 (ofl.toNat : Int), .slice oA on oc] 25) := ⟨_, rfl⟩
        have QB := Lib.hid (show Below wr.heap.size wr w2 by rw [hw2]; exact below_new _ _)
        have Q2 := Lib.hid (show Blk w2 wr.heap.size 25 #[.int .i64 3, .int .i64 oi, .int .i64 obt, .int .i64 osz, .int .u8 (ofl.toNat : Int), .slice oA on oc] by rw [hw2]; exact Blk.new _ _ _)
        rw [← hw2]
        clear hw2 x0 x1 x2 x3 x4 x5
        have B2 := Lib.hid (BX.out.go QB.out)
        obtain ⟨y0, y1, y2, y3, y4, y5⟩ := blk6 Q2.out
        have HRD := Lib.hid HO.out.rd
        have HN2 := Lib.hid HO.out.n2
        refine (Dk.mount_gen w2 g gb gp gw _ S B2.out.jd.dd.disk (by omega) B2.out.jd.dd.pend oA on oc ps ((HRD.out.keep (fun p hp => QB.out.cell (Nat.lt_of_lt_of_le hp (Nat.le_trans B1.out.size BX.out.jd.dd.below.size)))).more (Nat.le_trans B1.out.size B2.out.jd.dd.below.size)) HN2.out (fun h0 b x e hm => by
          obtain ⟨b', x', e', hb', -⟩ := HRD.out.2 h0
          have h1 := B2.out.jd.dd.four b hm
          have h2 := B1.out.size
          rw [e] at e'
          injection e' with e'
          injection e' with e'
          omega)).mono ?_
        rintro e w3 hp
        obtain ⟨rfl, b3⟩ := B2.out.disk hp (SM.out.mount ps).pendOK
        have B3 := Lib.hid b3
        have Q3 := Lib.hid (blk_far Q2.out hp.2.2 AS.out.disk)
        clear b3 hp y0 y1 y2 y3 y4 y5
        obtain ⟨y0, y1, y2, y3, y4, y5⟩ := blk6 Q3.out
        go_wp2_with fail
        refine (Dk.rmount_any w3 r gs T B3.out.rf oA on oc ps ((HRD.out.keep (fun p hp => (B3.out.jd.dd.below.cell (Nat.lt_of_lt_of_le hp B1.out.size)).trans (BX.out.jd.dd.below.cell (Nat.lt_of_lt_of_le hp B1.out.size)).symm)).more (Nat.le_trans B1.out.size B3.out.jd.dd.below.size)) HN2.out (fun h0 b x e hm => by
          obtain ⟨b', x', e', hb', -⟩ := HRD.out.2 h0
          have h1 := B3.out.pair.far b hm
          have h2 := B1.out.size
          rw [e] at e'
          injection e' with e'
          injection e' with e'
          omega)).mono ?_
        rintro e w4 hp
        obtain ⟨rfl, b4⟩ := B3.out.rdisk hp
        have P4 := Lib.hid b4.pair
        have SZ := Lib.hid (SM.out.mount ps)
        have LZ := Lib.hid (show (Dk.rMountS T ps).s.length = N from (Dk.mountL_length _ _ _).trans L.out)
        have HCZ := Lib.hid (check0 SZ.out rfl)
        have HSO := Lib.hid (sim_open SZ.out)
        have F4 := Lib.hid (fair_open (c := 200) (T := Dk.rMountS T ps) (by rw [LZ.out]; omega) (by rw [LZ.out]; omega))
        clear b4 hp y0 y1 y2 y3 y4 y5
        go_wp2_with fail
        refine (open_any w4 g gb gp gw _ _ P4.out.dd.disk (HK1.out.below P4.out.dd.below)).mono ?_
        rintro e w5 hp
        obtain ⟨j5, vn5, vb5, vt5, rfl, j5_, r5, a5⟩ := P4.out.open_ hp HCZ.out
        have J5 := Lib.hid j5_
        have R5 := Lib.hid r5
        have A5 := Lib.hid a5
        clear j5_ r5 a5 hp
        go_wp2_with fail
        refine (ropen_any w5 r gs _ R5.out (HKR1.out.below J5.out.dd.below)).mono ?_
        rintro e w6 hp
        obtain ⟨q6, un6, ut6, ub6, rfl, b6⟩ := both_open J5.out R5.out P4.out.far A5.out hp rfl HSO.out.symm
        obtain ⟨JZ, hJZ⟩ : ∃ x, x = openJ (Dk.mountS S ps) := ⟨_, rfl⟩
        have BZ := Lib.hid b6
        rw [← hJZ] at BZ
        have FZ := Lib.hid (show Fair JZ (200 + i) by rw [hJZ, HSO.out]; exact F4.out.mono (by omega))
        have y0 := True.intro
        have y1 := True.intro
        have y2 := True.intro
        have y3 := True.intro
        have y4 := True.intro
        have y5 := True.intro
        clear b6 hp J5 R5 A5 hJZ
        obtain ⟨-, -, -, -, -, -, c6⟩ := BZ.out.rj.cells
        cases hcl : JZ.closed with
        | true =>
          rw [hcl] at c6
          clear hcl y0 y1 y2 y3 y4 y5
          go_wp2_with fail
          go_roundw
          case rel => exact ⟨i + 1, _, _, _, _, _, _, _, _, _, _, _, by omega, by go_num, rfl, rfl, Lib.hid (BZ.out.mono (by omega)), SZ, Lib.hid (FZ.out.mono (by omega)), LZ⟩
          case measure => simp [intOf]; omega
        | false =>
          rw [hcl] at c6
          clear hcl y0 y1 y2 y3 y4 y5
          go_wp2_with fail
          refine (same_any _ _ g gb gp gw _ _ r gs _ _ _ _ _ _ JZ _ _ 300 BZ.out.jd.jat BZ.out.jd.dd.disk BZ.out.rj BZ.out.rf SZ.out.len (FZ.out.mono (by omega)) (by omega)).mono ?_
          rintro e w20 ⟨rfl, b20⟩
          have B20 := Lib.hid (BZ.out.go b20)
          clear b20
          go_wp2_with fail
          go_roundw
          case rel => exact ⟨i + 1, _, _, _, _, _, _, _, _, _, _, _, by omega, by go_num, rfl, rfl, Lib.hid (B20.out.mono (by omega)), SZ, Lib.hid (FZ.out.mono (by omega)), LZ⟩
          case measure => simp [intOf]; omega
      have e3 : (ok == 3) = false := beq_eq_false_iff_ne.2 k3
      by_cases k4 : ok = 4
      · subst k4
        go_wp2_with fail
        obtain ⟨w2, hw2⟩ : ∃ w2, w2 = wr.alloc (.cells #[.int .i64 4, .int .i64 oi, .int .i64 obt, .int .i64 osz, .int .u8 (ofl.toNat : Int), .slice oA on oc] 25) := ⟨_, rfl⟩
        have QB := Lib.hid (show Below wr.heap.size wr w2 by rw [hw2]; exact below_new _ _)
        have Q2 := Lib.hid (show Blk w2 wr.heap.size 25 #[.int .i64 4, .int .i64 oi, .int .i64 obt, .int .i64 osz, .int .u8 (ofl.toNat : Int), .slice oA on oc] by rw [hw2]; exact Blk.new _ _ _)
        rw [← hw2]
        clear hw2 x0 x1 x2 x3 x4 x5
        have B2 := Lib.hid (BX.out.go QB.out)
        obtain ⟨y0, y1, y2, y3, y4, y5⟩ := blk6 Q2.out
        obtain ⟨E, hE⟩ : ∃ E, E = Dk.rRotE T oi obt := ⟨_, rfl⟩
        have HPO := Lib.hid (SM.out.rot oi obt).pendOK
        have CP := Lib.hid (show ∀ W, Hid (Both w1 W j g gb gp gw (200 * i) q r gs vn vb vt un ut ub J S T) → Calls Tryz.prog 27 #[.pointer (some ⟨g, 0, none⟩), .int .i64 oi, .int .i64 obt] W (Dk.DPost (.int .i64 E) g gb gp gw (200 * i + 0) (Dk.rotS S oi obt) W) from fun W h => by
          rw [hE, ← SM.out.rotE oi obt]; exact Dk.rot_any W g gb gp gw _ S h.out.jd.dd.disk oi obt)
        have CR := Lib.hid (show ∀ W, Hid (Both w1 W j g gb gp gw (200 * i + 0) q r gs vn vb vt un ut ub J (Dk.rotS S oi obt) T) → Calls Tryz.prog 28 #[.pointer (some ⟨r, 0, none⟩), .int .i64 oi, .int .i64 obt] W (RPost (.int .i64 E) r gs (Dk.rRotS T oi obt) W) from fun W h => by
          rw [hE]; exact Dk.rrot_any W r gs T h.out.rf oi obt)
        have hwl := Q2.out.lt
        have BD := Lib.hid (show Both w1 w2.drew j g gb gp gw (200 * i) q r gs vn vb vt un ut ub J S T from B2.out.go (Below.refl _ _).drew)
        clear hE
        go_region_held3 (fun W => W.cell? ⟨wr.heap.size, 1, none⟩ = some (.int .i64 oi) ∧ W.cell? ⟨wr.heap.size, 2, none⟩ = some (.int .i64 obt))
          (first | exact ⟨y1, y2⟩ | exact ⟨z1, z2⟩ | exact ⟨u1, u2⟩ | (go_split_ands; refine ⟨?_, ?_⟩ <;> assumption) | go_keep)
          (first
            | (go_at_call 27; (with_reducible refine (CP.out _ BD).mono ?_); rintro e w3 hp; obtain ⟨rfl, b3⟩ := BD.out.disk hp HPO.out; have B3 := Lib.hid b3; have z1 := (hp.2.2.cell (p := ⟨wr.heap.size, 1, none⟩) hwl AS.out.disk).trans y1; have z2 := (hp.2.2.cell (p := ⟨wr.heap.size, 2, none⟩) hwl AS.out.disk).trans y2; have z3 := hp.2.2.size; clear b3 hp)
            | (go_at_call 28; (with_reducible refine (CR.out _ B3).mono ?_); rintro e w4 hp; obtain ⟨rfl, b4⟩ := B3.out.rdisk hp; have B4 := Lib.hid b4; have u1 := (hp.2.2.cell (p := ⟨wr.heap.size, 1, none⟩) (Nat.lt_of_lt_of_le hwl z3) AS.out.rdisk).trans z1; have u2 := (hp.2.2.cell (p := ⟨wr.heap.size, 2, none⟩) (Nat.lt_of_lt_of_le hwl z3) AS.out.rdisk).trans z2; clear b4 hp))
        obtain ⟨JZ, hJZ⟩ : ∃ x, x = J := ⟨_, rfl⟩
        have BZ := B4
        rw [← hJZ] at BZ
        have SZ := Lib.hid (SM.out.rot oi obt)
        have FZ := Lib.hid (show Fair JZ (200 + i) by rw [hJZ]; exact FX.out)
        have LZ := Lib.hid (show (Dk.rRotS T oi obt).s.length = N by
          have h := SZ.out.len
          have h2 := (Dk.tame_rot S oi obt).len
          have := SM.out.len
          have := L.out
          omega)
        clear hJZ
        obtain ⟨-, -, -, -, -, -, c6⟩ := BZ.out.rj.cells
        cases hcl : JZ.closed with
        | true =>
          rw [hcl] at c6
          clear hcl y0 y1 y2 y3 y4 y5
          go_wp2_with fail
          go_roundw
          case rel => exact ⟨i + 1, _, _, _, _, _, _, _, _, _, _, _, by omega, by go_num, rfl, rfl, Lib.hid (BZ.out.mono (by omega)), SZ, Lib.hid (FZ.out.mono (by omega)), LZ⟩
          case measure => simp [intOf]; omega
        | false =>
          rw [hcl] at c6
          clear hcl y0 y1 y2 y3 y4 y5
          go_wp2_with fail
          refine (same_any _ _ g gb gp gw _ _ r gs _ _ _ _ _ _ JZ _ _ 300 BZ.out.jd.jat BZ.out.jd.dd.disk BZ.out.rj BZ.out.rf SZ.out.len (FZ.out.mono (by omega)) (by omega)).mono ?_
          rintro e w20 ⟨rfl, b20⟩
          have B20 := Lib.hid (BZ.out.go b20)
          clear b20
          go_wp2_with fail
          go_roundw
          case rel => exact ⟨i + 1, _, _, _, _, _, _, _, _, _, _, _, by omega, by go_num, rfl, rfl, Lib.hid (B20.out.mono (by omega)), SZ, Lib.hid (FZ.out.mono (by omega)), LZ⟩
          case measure => simp [intOf]; omega
      have e4 : (ok == 4) = false := beq_eq_false_iff_ne.2 k4
      by_cases k5 : ok = 5
      · subst k5
        go_wp2_with fail
        obtain ⟨w2, hw2⟩ : ∃ w2, w2 = wr.alloc (.cells #[.int .i64 5, .int .i64 oi, .int .i64 obt, .int .i64 osz, .int .u8 (ofl.toNat : Int), .slice oA on oc] 25) := ⟨_, rfl⟩
        have QB := Lib.hid (show Below wr.heap.size wr w2 by rw [hw2]; exact below_new _ _)
        have Q2 := Lib.hid (show Blk w2 wr.heap.size 25 #[.int .i64 5, .int .i64 oi, .int .i64 obt, .int .i64 osz, .int .u8 (ofl.toNat : Int), .slice oA on oc] by rw [hw2]; exact Blk.new _ _ _)
        rw [← hw2]
        clear hw2 x0 x1 x2 x3 x4 x5
        have B2 := Lib.hid (BX.out.go QB.out)
        obtain ⟨y0, y1, y2, y3, y4, y5⟩ := blk6 Q2.out
        obtain ⟨E, hE⟩ : ∃ E, E = Dk.rWearE T oi := ⟨_, rfl⟩
        have HPO := Lib.hid (SM.out.wear oi).pendOK
        have CP := Lib.hid (show ∀ W, Hid (Both w1 W j g gb gp gw (200 * i) q r gs vn vb vt un ut ub J S T) → Calls Tryz.prog 29 #[.pointer (some ⟨g, 0, none⟩), .int .i64 oi] W (Dk.DPost (.int .i64 E) g gb gp gw (200 * i + 1) (Dk.wearS S oi) W) from fun W h => by
          rw [hE, ← SM.out.wearE oi]; exact Dk.wear_any W g gb gp gw _ S h.out.jd.dd.disk (by omega) oi HI1.out HI2.out)
        have CR := Lib.hid (show ∀ W, Hid (Both w1 W j g gb gp gw (200 * i + 1) q r gs vn vb vt un ut ub J (Dk.wearS S oi) T) → Calls Tryz.prog 30 #[.pointer (some ⟨r, 0, none⟩), .int .i64 oi] W (RPost (.int .i64 E) r gs (Dk.rWearS T oi) W) from fun W h => by
          rw [hE]; exact Dk.rwear_any W r gs T h.out.rf oi)
        have hwl := Q2.out.lt
        have BD := Lib.hid (show Both w1 w2.drew j g gb gp gw (200 * i) q r gs vn vb vt un ut ub J S T from B2.out.go (Below.refl _ _).drew)
        clear hE
        go_region_held3 (fun W => W.cell? ⟨wr.heap.size, 1, none⟩ = some (.int .i64 oi) ∧ W.cell? ⟨wr.heap.size, 2, none⟩ = some (.int .i64 obt))
          (first | exact ⟨y1, y2⟩ | exact ⟨z1, z2⟩ | exact ⟨u1, u2⟩ | (go_split_ands; refine ⟨?_, ?_⟩ <;> assumption) | go_keep)
          (first
            | (go_at_call 29; (with_reducible refine (CP.out _ BD).mono ?_); rintro e w3 hp; obtain ⟨rfl, b3⟩ := BD.out.disk hp HPO.out; have B3 := Lib.hid b3; have z1 := (hp.2.2.cell (p := ⟨wr.heap.size, 1, none⟩) hwl AS.out.disk).trans y1; have z2 := (hp.2.2.cell (p := ⟨wr.heap.size, 2, none⟩) hwl AS.out.disk).trans y2; have z3 := hp.2.2.size; clear b3 hp)
            | (go_at_call 30; (with_reducible refine (CR.out _ B3).mono ?_); rintro e w4 hp; obtain ⟨rfl, b4⟩ := B3.out.rdisk hp; have B4 := Lib.hid b4; have u1 := (hp.2.2.cell (p := ⟨wr.heap.size, 1, none⟩) (Nat.lt_of_lt_of_le hwl z3) AS.out.rdisk).trans z1; have u2 := (hp.2.2.cell (p := ⟨wr.heap.size, 2, none⟩) (Nat.lt_of_lt_of_le hwl z3) AS.out.rdisk).trans z2; clear b4 hp))
        obtain ⟨JZ, hJZ⟩ : ∃ x, x = J := ⟨_, rfl⟩
        have BZ := B4
        rw [← hJZ] at BZ
        have SZ := Lib.hid (SM.out.wear oi)
        have FZ := Lib.hid (show Fair JZ (200 + i) by rw [hJZ]; exact FX.out)
        have LZ := Lib.hid (show (Dk.rWearS T oi).s.length = N by
          have h := SZ.out.len
          have h2 := (Dk.tame_wear S oi).len
          have := SM.out.len
          have := L.out
          omega)
        clear hJZ
        obtain ⟨-, -, -, -, -, -, c6⟩ := BZ.out.rj.cells
        cases hcl : JZ.closed with
        | true =>
          rw [hcl] at c6
          clear hcl y0 y1 y2 y3 y4 y5
          go_wp2_with fail
          go_roundw
          case rel => exact ⟨i + 1, _, _, _, _, _, _, _, _, _, _, _, by omega, by go_num, rfl, rfl, Lib.hid (BZ.out.mono (by omega)), SZ, Lib.hid (FZ.out.mono (by omega)), LZ⟩
          case measure => simp [intOf]; omega
        | false =>
          rw [hcl] at c6
          clear hcl y0 y1 y2 y3 y4 y5
          go_wp2_with fail
          refine (same_any _ _ g gb gp gw _ _ r gs _ _ _ _ _ _ JZ _ _ 300 BZ.out.jd.jat BZ.out.jd.dd.disk BZ.out.rj BZ.out.rf SZ.out.len (FZ.out.mono (by omega)) (by omega)).mono ?_
          rintro e w20 ⟨rfl, b20⟩
          have B20 := Lib.hid (BZ.out.go b20)
          clear b20
          go_wp2_with fail
          go_roundw
          case rel => exact ⟨i + 1, _, _, _, _, _, _, _, _, _, _, _, by omega, by go_num, rfl, rfl, Lib.hid (B20.out.mono (by omega)), SZ, Lib.hid (FZ.out.mono (by omega)), LZ⟩
          case measure => simp [intOf]; omega
      have e5 : (ok == 5) = false := beq_eq_false_iff_ne.2 k5
      obtain ⟨-, -, -, -, -, -, c6⟩ := BX.out.rj.cells
      have hql := BX.out.rj.head.lt
      cases hcl : J.closed with
      | true =>
        rw [hcl] at c6
        clear hcl
        go_wp2_with fail
        go_roundw
        case rel => exact ⟨i + 1, _, _, _, _, _, _, _, _, _, _, _, by omega, by go_num, rfl, rfl, Lib.hid ((BX.out.go (below_new _ _)).mono (by omega)), SM, Lib.hid (FX.out.mono (by omega)), L⟩
        case measure => simp [intOf]; omega
      | false =>
        rw [hcl] at c6
        clear hcl
        go_wp2_with fail
        have BZ := Lib.hid (BX.out.go (below_new wr (.cells #[.int .i64 ok, .int .i64 oi, .int .i64 obt, .int .i64 osz, .int .u8 (ofl.toNat : Int), .slice oA on oc] 25)))
        refine (same_any _ _ g gb gp gw _ _ r gs _ _ _ _ _ _ J _ _ 300 BZ.out.jd.jat BZ.out.jd.dd.disk BZ.out.rj BZ.out.rf SM.out.len (FX.out.mono (by omega)) (by omega)).mono ?_
        rintro e w20 ⟨rfl, b20⟩
        have B20 := Lib.hid (BZ.out.go b20)
        clear b20
        go_wp2_with fail
        go_roundw
        case rel => exact ⟨i + 1, _, _, _, _, _, _, _, _, _, _, _, by omega, by go_num, rfl, rfl, Lib.hid (B20.out.mono (by omega)), SM, Lib.hid (FX.out.mono (by omega)), L⟩
        case measure => simp [intOf]; omega
    · obtain rfl : i = n := by omega
      go_wp2_with fail
      refine (sanity_any wr (HK1.out.below BX.out.jd.dd.below)).mono ?_
      rintro e w3 ⟨rfl, b3⟩
      have B3 := Lib.hid (BX.out.go b3)
      clear b3
      have HTS := Lib.hid SM.out.texts
      go_wp2_with fail
      refine (Dk.image_any w3 g gb gp gw _ S B3.out.jd.dd.disk).mono ?_
      rintro e w4 ⟨A4, c4, rfl, rd4, -, b4, -⟩
      have X4 := Lib.hid rd4
      have B4 := Lib.hid (B3.out.go b4)
      rw [show (strCells S.bl).length = S.bl.length by simp [strCells]] at X4 ⊢
      clear rd4 b4
      go_wp2_with fail
      refine (rimage_any w4 r gs T B4.out.rf).mono ?_
      rintro e w5 ⟨v5, rfl, own5, b5⟩
      obtain ⟨A5, c5, rfl, -⟩ := own_slice own5
      have X5 := Lib.hid (Rd.of_own own5)
      have B5 := Lib.hid (B4.out.go b5)
      have Y4 := Lib.hid (X4.out.go b5)
      clear own5 b5
      go_wp2_with fail
      refine (sameTexts_any A4 A5 _ _ c4 c5 S.bl (T.s.map (·.text)) w5 Y4.out X5.out rfl (by rw [List.length_map]) (by have := SM.out.len; have := L.out; omega) true (Lib.hid (decide_eq_true HTS.out))).mono ?_
      rintro e w6 ⟨rfl, b6⟩
      have B6 := Lib.hid (B5.out.go b6)
      clear b6
      go_wp2_with fail
      go_ret
      exact ⟨rfl, below_go B1.out B6.out.jd.dd.below⟩
end Go.Proofs.YtddpjahoeldleaaGreatDoor
