/- The walk of JournalSurvives. -/
import Derived.Test.YtddpjahoeldleaaGreatDoorZFill
import Derived.Test.YtddpjahoeldleaaGreatDoorZGenP
import Derived.Test.YtddpjahoeldleaaGreatDoorJSanity
import Derived.Test.YtddpjahoeldleaaGreatDoorJMore
namespace Go.Proofs.YtddpjahoeldleaaGreatDoor
open Go.RowKit Go.Maps
open Dk (Sim)

theorem full_mem (R : List Bs) (z : Int) : z ∈ (fullJ R).nums ↔ 1 ≤ z ∧ z ≤ R.length := by
  have h : (fullJ R).nums = (List.range' 1 R.length).map fun x : Nat => (x : Int) := by
    show (recsFrom 1 R).map (fun x => (x.1 : Int)) = _
    rw [← recs_fst R 1, List.map_map]; rfl
  rw [h, List.mem_map]
  constructor
  · rintro ⟨a, ha, rfl⟩
    rw [List.mem_range'_1] at ha
    omega
  · intro h
    exact ⟨z.toNat, List.mem_range'_1.2 (by omega), by omega⟩
theorem lost_full (R : List Bs) : lostL (fullJ R).nums R.length = [] := by
  unfold lostL
  rw [List.filter_eq_nil_iff]
  intro z hz
  obtain ⟨k, hk, rfl⟩ := List.mem_map.1 hz
  rw [List.mem_range] at hk
  simp only [Bool.not_eq_true', decide_eq_false_iff_not, Decidable.not_not]
  exact (full_mem R _).2 (by omega)
theorem JD.post {w0 W W' : World} {j g gb gp gw K K' : Nat} {vn vb vt v : Value} {J : JV} {S S' : Dk.St} {e : Ending} (h : JD w0 W j g gb gp gw K vn vb vt J S) (hp : Dk.DPost v g gb gp gw K' S' W e W') (hP : Dk.PendOK S') :
    e = .returned v ∧ JD w0 W' j g gb gp gw K' vn vb vt J S' ∧ Keep [g, gb, gp, gw] W W' :=
  ⟨hp.1, ⟨⟨hp.2.1, h.dd.below.trans (hp.2.2.below h.dd.below.size h.dd.four), h.dd.g0, h.dd.gb0, h.dd.gp0, h.dd.gw0, hP⟩, h.jat.disk h.dd.disk hp.2.2, h.j0, h.fn, h.fb, h.ft⟩, hp.2.2⟩
theorem DD.open2 {w0 W W' : World} {g gb gp gw K : Nat} {S : Dk.St} (h : DD w0 W g gb gp gw K S) {e : Ending} (hp : OpenPost W g S e W') (hc : Dk.checkE S 0 = 0) : ∃ j vn vb vt, e = .returned (.tuple #[.pointer (some ⟨j, 0, none⟩), .int .i64 0]) ∧ JD w0 W' j g gb gp gw K vn vb vt (openJ S) S ∧ fresh W vt ∧ Below W.heap.size W W' := by
  obtain ⟨hb, hp⟩ := hp
  rcases hp with ⟨hn, _⟩ | ⟨_, j, vn, vb, vt, rfl, hj, hj0, f1, f2, f3⟩
  · exact absurd hc hn
  · have hs := h.below.size
    exact ⟨j, vn, vb, vt, rfl, ⟨h.go hb, hj, Nat.le_trans hs hj0, fresh_older f1 hs, fresh_older f2 hs, fresh_older f3 hs⟩, f3, hb⟩
theorem own_eq {g k n c : Nat} (h : (Value.slice (some ⟨g, 0, none⟩) n c).ownBlock = some k) : k = g := by injection h with h; exact h.symm
/-- a row that reads stays where its block stays -/
theorem rd_far {w w' : World} {n : Nat} {A : Option Addr} {xs : List Value} (h : Rd w w.heap.size 1 A n xs) (hs : w.heap.size ≤ w'.heap.size) (hb : 0 < n → ∀ b o, A = some ⟨b, o, none⟩ → b < w.heap.size → w'.heap[b]? = w.heap[b]?) : Rd w' w'.heap.size 1 A n xs :=
  ⟨h.1, fun hn => by
    obtain ⟨b, o, e, hlt, hc⟩ := h.2 hn
    exact ⟨b, o, e, Nat.lt_of_lt_of_le hlt hs, fun j u hu => (World.cell?_of_block (a := ⟨b, o + j, none⟩) (hb hn b o e hlt)).trans (hc j u hu)⟩⟩
theorem DD.postP {w0 W W' : World} {g gb gp gw K K' : Nat} {S S' : Dk.St} {v : Value} {e : Ending} (h : DD w0 W g gb gp gw K S) (hp : Dk.DPost v g gb gp gw K' S' W e W') (hP : Dk.PendOK S') : e = .returned v ∧ DD w0 W' g gb gp gw K' S' ∧ Keep [g, gb, gp, gw] W W' :=
  ⟨hp.1, ⟨hp.2.1, h.below.trans (hp.2.2.below h.below.size h.four), h.g0, h.gb0, h.gp0, h.gw0, hP⟩, hp.2.2⟩
theorem Own1.keepF {w0 W W' : World} {vT vt : Value} {R : List Bs} {F : List Nat} (h : Own1 w0 W vT R vt) (hk : Keep F W W') (hF : ∀ k, vT.ownBlock = some k → k ∉ F) : Own1 w0 W' vT R vt := ⟨own_keepF h.texts hk hF, h.apart⟩
set_option maxHeartbeats 16000000 in
set_option maxRecDepth 100000 in
theorem law_surv (sectors : Int) (n1 : -9223372036854775808 ≤ sectors) (n2 : sectors ≤ 9223372036854775807) (Al : Option Addr) (nl cl : Nat) (os : List StepV) (kd si bit size : Int) (fill : UInt8) (A : Option Addr) (m c : Nat) (left : Nat) (hl : left ≤ 255) (Ap : Option Addr) (np cp : Nat) (ps : List Int) (w : World)
    (hs : Script w w.heap.size Al nl os) (hl : nl ≤ 9223372036854775807) (hp : Rd w w.heap.size 1 Ap np (intCells ps)) (hp2 : np ≤ 9223372036854775807) (hk : Consts w) (hkr : RConsts w) :
    Calls Tryz.prog 3 #[.int .i64 sectors, .slice Al nl cl, .agg #[.int .i64 kd, .int .i64 si, .int .i64 bit, .int .i64 size, .int .u8 (fill.toNat : Int), .slice A m c], .int .u8 (left : Int), .slice Ap np cp] w (RetB (.bool true) w) := by
  have HK := Lib.hid hk
  have HKR := Lib.hid hkr
  have HS := Lib.hid hs
  have HP := Lib.hid hp
  clear hk hs hp hkr
  by_cases g1 : 200 < sectors
  · go_enter Tryz.func3, Tryz.ntmps3
    go_wp2_with fail
    refine (sanity_any _ (HK.out.below (below_new w _))).mono ?_
    rintro e w' ⟨rfl, b⟩
    have B := Lib.hid (below_go (below_new w _) b)
    clear b
    go_wp2_with fail
    go_ret
    exact ⟨rfl, B.out⟩
  by_cases g2 : 12 < nl
  · have d2 : (12 : Int) < (nl : Int) := by omega
    go_enter Tryz.func3, Tryz.ntmps3
    go_wp2_with fail
    refine (sanity_any _ (HK.out.below (below_new w _))).mono ?_
    rintro e w' ⟨rfl, b⟩
    have B := Lib.hid (below_go (below_new w _) b)
    clear b
    go_wp2_with fail
    go_ret
    exact ⟨rfl, B.out⟩
  have d2 : ¬ (12 : Int) < (nl : Int) := by omega
  by_cases g3 : 200 < np
  · have d3 : (200 : Int) < (np : Int) := by omega
    go_enter Tryz.func3, Tryz.ntmps3
    go_wp2_with fail
    refine (sanity_any _ (HK.out.below (below_new w _))).mono ?_
    rintro e w' ⟨rfl, b⟩
    have B := Lib.hid (below_go (below_new w _) b)
    clear b
    go_wp2_with fail
    go_ret
    exact ⟨rfl, B.out⟩
  have d3 : ¬ (200 : Int) < (np : Int) := by omega
  by_cases g4 : sectors < 1
  · go_enter Tryz.func3, Tryz.ntmps3
    go_wp2_with fail
    refine (filled_bad sectors n1 n2 (.inl g4) _ _).mono ?_
    rintro e w' ⟨rfl, rfl⟩
    go_wp2_with fail
    refine (sanity_any _ (HK.out.below (below_new w _))).mono ?_
    rintro e w' ⟨rfl, b⟩
    have B := Lib.hid (below_go (below_new w _) b)
    clear b
    go_wp2_with fail
    go_ret
    exact ⟨rfl, B.out⟩
  obtain ⟨N, rfl⟩ : ∃ N : Nat, sectors = (N : Int) := ⟨sectors.toNat, by omega⟩
  have N1 : 1 ≤ N := by omega
  have N2 : N ≤ 200 := by omega
  clear n1 n2 g1 g2 g3 g4
  go_enter Tryz.func3, Tryz.ntmps3
  go_wp2_with fail
  obtain ⟨w1, hw1⟩ : ∃ w1, w1 = w.alloc (.cells #[.int .i64 kd, .int .i64 si, .int .i64 bit, .int .i64 size, .int .u8 (fill.toNat : Int), .slice A m c] 25) := ⟨_, rfl⟩
  have B1 := Lib.hid (show Below w.heap.size w w1 by rw [hw1]; exact below_new _ _)
  have Q1 := Lib.hid (show Blk w1 w.heap.size 25 #[.int .i64 kd, .int .i64 si, .int .i64 bit, .int .i64 size, .int .u8 (fill.toNat : Int), .slice A m c] by rw [hw1]; exact Blk.new _ _ _)
  rw [← hw1]
  clear hw1
  refine (filled_any N N1 N2 Al nl cl os w1 w.heap.size B1.out.size (HS.out.keep (fun p hp => B1.out.cell hp)) (by omega) (HK.out.below B1.out)).mono ?_
  rintro e w2 ⟨g, gb, gp, gw, K, S, T, R, vT, rfl, d2, k2, s2, f2, r2, l2, o2⟩
  have D2 := Lib.hid d2
  have SM := Lib.hid s2
  have HF := Lib.hid f2
  have L2 := Lib.hid l2
  have O2 := Lib.hid o2
  have HC0 := Lib.hid (check0 s2 f2.off)
  have HOJ := Lib.hid (show openJ S = fullJ R by rw [sim_open s2, f2.open_])
  obtain ⟨AT, cT, rfl, -⟩ := own_slice o2
  clear d2 s2 f2 l2 o2
  go_wp2_with fail
  refine (open_any w2 g gb gp gw K _ D2.out.disk ((HK.out.below B1.out).below D2.out.below)).mono ?_
  rintro e w3 hp
  obtain ⟨j, vn, vb, vt, rfl, j3, f3, b3⟩ := D2.out.open2 hp HC0.out
  rw [HOJ.out] at j3
  have J3 := Lib.hid j3
  have O3 := Lib.hid (show Own1 w1 w3 (.slice AT R.length cT) R vt from ⟨own_below O2.out b3, fun k hk e => by have h1 := (O2.out.lt k hk).2; have h2 := f3 k e; omega⟩)
  clear j3 hp f3 b3
  go_wp2_with fail
  refine (jtexts_any w3 j g vn vb vt (fullJ R) J3.out.jat (show R.length ≤ 100000 by omega)).mono ?_
  rintro e w4 ⟨v4, rfl, own4, b4⟩
  have J4 := Lib.hid (J3.out.go b4)
  have O4 := Lib.hid (O3.out.below b4)
  obtain ⟨A4, c4, rfl, -⟩ := own_slice own4
  have X4 := Lib.hid own4
  clear own4 b4
  go_wp2_with fail
  refine (sameTexts_any A4 AT _ _ c4 cT R R w4 (Rd.of_own X4.out) (Rd.of_own O4.out.texts) rfl rfl (show R.length ≤ _ by omega) true (Lib.hid (decide_eq_true rfl))).mono ?_
  rintro e w5 ⟨rfl, b5⟩
  have J5 := Lib.hid (J4.out.go b5)
  have O5 := Lib.hid (O4.out.below b5)
  clear b5 X4
  go_wp2_with fail
  have HFW := Lib.hid HF.out.few
  refine (damaged_any w5 j g vn vb vt (fullJ R) J5.out.jat (by show ((recsFrom 1 R).map _).length ≤ _; rw [List.length_map, ← List.length_map (f := Prod.fst), recs_fst, List.length_range']; omega) (fun z hz => by have := (full_mem R z).1 hz; omega) R.length rfl (by omega)).mono ?_
  rw [lost_full R]
  rintro e w6 ⟨v6, rfl, own6, b6⟩
  have J6 := Lib.hid (J5.out.go b6)
  have O6 := Lib.hid (O5.out.below b6)
  obtain ⟨A6, c6, rfl, -⟩ := own_slice own6
  clear own6 b6
  go_wp2_with fail
  have SM7 := Lib.hid (SM.out.trip (left : Int))
  refine (Dk.trip_any w6 g gb gp gw K S J6.out.dd.disk (left : Int) (by omega) (by omega)).mono ?_
  rintro e w7 hp
  obtain ⟨rfl, j7, k7⟩ := J6.out.post hp SM7.out.pendOK
  have J7 := Lib.hid j7
  have O7 := Lib.hid (O6.out.keepF k7 (row_disk O6.out.texts J6.out.dd.disk (by decide) (by decide)))
  have Q7 := Lib.hid (Q1.out.below J7.out.dd.below Q1.out.lt)
  obtain ⟨y0, y1, y2, y3, y4, y5⟩ := blk6 Q7.out
  clear j7 k7 hp
  go_wp2_with fail
  obtain ⟨t, ht⟩ : ∃ t, t = stepT size fill := ⟨_, rfl⟩
  obtain ⟨s, hs⟩ : ∃ s : ByteArray, s = ⟨t.toArray⟩ := ⟨_, rfl⟩
  have HSD := Lib.hid (show s.data.toList = t by rw [hs])
  have HSS := Lib.hid (show str t = .string s by rw [hs])
  have HTX := Lib.hid (show ∀ W, Calls Tryz.prog 15 #[.agg #[.int .i64 kd, .int .i64 si, .int .i64 bit, .int .i64 size, .int .u8 (fill.toNat : Int), .slice A m c]] W (RetB (.string s) W) from fun W => by
    have h := rtext_any kd si bit size fill A m c W
    rwa [← ht, show str t = .string s by rw [hs]] at h)
  clear ht hs
  refine (HTX.out _).mono ?_
  rintro e w8 ⟨rfl, b8⟩
  have J8 := Lib.hid (J7.out.go b8)
  have O8 := Lib.hid (O7.out.below b8)
  clear b8 y0 y1 y2 y3 y4 y5
  go_wp2_with fail
  refine (app_at1 J8.out (HK.out.below B1.out) (by omega) HF.out (by have := L2.out; omega) s).mono ?_
  rintro e w9 ⟨vn9, vt9, rfl, j9, k9, ag1, ag2⟩
  obtain ⟨a1, a2, a3, a4⟩ := sim_app SM7.out (fullJ R) s.data.toList
  rw [HSD.out] at a1 a2 a3 a4 j9 ⊢
  have J9 := Lib.hid j9
  have SM9 := Lib.hid a4
  obtain ⟨ER, hER⟩ : ∃ ER, ER = (appR (fullJ R) { S with left := (left : Int) } t).err := ⟨_, rfl⟩
  obtain ⟨NR, hNR⟩ : ∃ NR, NR = (appR (fullJ R) { S with left := (left : Int) } t).n := ⟨_, rfl⟩
  rw [← hER, ← hNR]
  have HER := Lib.hid (hER.trans a2)
  have O9 := Lib.hid (O8.out.app J8.out k9 ag2)
  have D9 := Lib.hid j9.dd
  clear j9 k9 ag1 ag2 a1 a2 a3 a4 hER hNR J9 J8 O8 J7 O7
  go_wp2_with fail
  have B19 := Lib.hid (below_go B1.out D9.out.below)
  have HPR := Lib.hid (HP.out.keep (fun p hp => B19.out.cell hp))
  refine (Dk.mount_gen w9 g gb gp gw _ _ D9.out.disk (by omega) D9.out.pend Ap np cp ps (HPR.out.more B19.out.size) hp2 (fun h0 b x e hm => by
    obtain ⟨b', x', e', hb', -⟩ := HP.out.2 h0
    have h1 := D9.out.four b hm
    have h2 := B1.out.size
    rw [e] at e'
    injection e' with e'
    injection e' with e'
    omega)).mono ?_
  rintro e w10 hp
  obtain ⟨rfl, d10, k10⟩ := D9.out.postP hp (SM9.out.mount ps).pendOK
  obtain ⟨hsv1, hsv2⟩ := surv_law HF.out t left ps (by omega)
  have SMT := SM9.out.mount ps
  obtain ⟨S10, hS10⟩ : ∃ x, x = Dk.mountS (appR (fullJ R) { S with left := (left : Int) } t).S ps := ⟨_, rfl⟩
  obtain ⟨T10, hT10⟩ : ∃ x, x = survT T R t left ps := ⟨_, rfl⟩
  rw [← hS10] at d10 SMT
  rw [← hT10] at hsv1 hsv2
  have D10 := Lib.hid d10
  have SM10 := Lib.hid (show Sim S10 T10 by rw [hT10]; exact SMT)
  have HSV := Lib.hid hsv2
  have HC10 := Lib.hid (check0 SM10.out hsv1)
  have O10 := Lib.hid (O9.out.keepF k10 (row_disk O9.out.texts D9.out.disk (by decide) (by decide)))
  have Q10 := Lib.hid (Q1.out.below D10.out.below Q1.out.lt)
  clear hp d10 k10 hsv1 hsv2 SMT hS10 hT10 B19 HPR
  obtain ⟨nb, hnb⟩ : ∃ x, x = S10.bl.length := ⟨_, rfl⟩
  obtain ⟨gv, hgv⟩ : ∃ x, x = genB S10.bl (R ++ [t]) := ⟨_, rfl⟩
  have IM := Lib.hid (show ∀ W, Hid (Below w10.heap.size w10 W) → Calls Tryz.prog 18 #[.pointer (some ⟨g, 0, none⟩)] W (fun e W' => ∃ A c, e = .returned (.slice A nb c) ∧ Rd W' W'.heap.size 1 A nb (strCells S10.bl) ∧ Below W.heap.size W W' ∧ ∀ b o, A = some ⟨b, o, none⟩ → W.heap.size ≤ b) from fun W h => by
    refine (Dk.image_any W g gb gp gw _ S10 (D10.out.disk.below h.out)).mono ?_
    rintro e W' ⟨A, c, rfl, hr, -, hb, hf⟩
    rw [show (strCells S10.bl).length = nb by rw [hnb]; simp [strCells]] at hr ⊢
    exact ⟨A, c, rfl, hr, hb, hf⟩)
  have GN := Lib.hid (show ∀ W, Hid (Below w10.heap.size w10 W) → ∀ A c A' c', Rd W W.heap.size 1 A nb (strCells S10.bl) → Rd W W.heap.size 1 A' (R.length + 1) (strCells (R ++ [t])) → Calls Tryz.prog 17 #[.slice A nb c, .slice A' (R.length + 1) c'] W (RetB (.bool gv) W) from fun W h A c A' c' h1 h2 => by
    rw [hgv]
    exact genuine_any A nb c S10.bl A' (R.length + 1) c' (R ++ [t]) W h1 h2 (by have := D10.out.disk.n2; omega) (by omega) ((HKR.out.below B1.out).below (D10.out.below.trans (h.out.mono D10.out.below.size))))
  have HGV := Lib.hid hgv
  have HST := Lib.hid (show [] ++ strCells R ++ [Value.string s] = strCells (R ++ [t]) by rw [← HSS.out]; simp [strCells])
  have HSL := Lib.hid (show (strCells (R ++ [t])).length = R.length + 1 by simp [strCells])
  have HSR := Lib.hid (show (strCells R).length = R.length by simp [strCells])
  have RT := Lib.hid (Rd.of_own O10.out.texts)
  have BX := Lib.hid (show Below w10.heap.size w10 (w10.alloc (.cells #[] 9)).drew from (below_new w10 _).drew)
  have BD := Lib.hid (show Below w10.heap.size w10 w10.drew from (Below.refl _ _).drew)
  have QX := Lib.hid (Q10.out.below BX.out Q10.out.lt)
  have HX := Lib.hid (show (w10.alloc (.cells #[] 9)).drew.heap.size = w10.heap.size + 1 by show (w10.alloc _).heap.size = _; simp)
  have HR12 := Lib.hid r2
  have QD := Lib.hid (show Blk w10.drew w.heap.size 25 _ from Q10.out)
  clear hnb hgv
  go_wp2_with fail
  go_region_held3 (fun W => W.cell? ⟨w.heap.size, 0, none⟩ = some (.int .i64 kd) ∧ W.cell? ⟨w.heap.size, 1, none⟩ = some (.int .i64 si) ∧ W.cell? ⟨w.heap.size, 2, none⟩ = some (.int .i64 bit) ∧ W.cell? ⟨w.heap.size, 3, none⟩ = some (.int .i64 size) ∧ W.cell? ⟨w.heap.size, 4, none⟩ = some (.int .u8 (fill.toNat : Int)) ∧ W.cell? ⟨w.heap.size, 5, none⟩ = some (.slice A m c))
    (first | exact blk6 Q15.out | exact blk6 Q14.out | exact blk6 QA.out | exact blk6 Q13.out | exact blk6 Q12.out | exact blk6 QY.out | exact blk6 Q11.out | exact blk6 QX.out | exact blk6 QD.out | go_keep)
    (first
    | (go_at_call 18; first | ((with_reducible refine (IM.out _ BX).mono ?_); rintro e w11 ⟨A11, c11, rfl, rd11, b11, f11⟩; have B11 := Lib.hid (below_go BX.out b11); have HF11 := Lib.hid (show ∀ b o, A11 = some ⟨b, o, none⟩ → w10.heap.size < b from fun b o e => by have := f11 b o e; have := HX.out; omega); have HL11 := Lib.hid (show w10.heap.size < w11.heap.size by have := b11.size; have := HX.out; omega); have RI11 := Lib.hid rd11; have RT11 := Lib.hid (RT.out.keep (fun p hp => B11.out.cell hp)); have Q11 := Lib.hid (Q10.out.below B11.out Q10.out.lt); clear rd11 b11 f11) | ((with_reducible refine (IM.out _ BD).mono ?_); rintro e w11 ⟨A11, c11, rfl, rd11, b11, f11⟩; have B11 := Lib.hid (below_go BD.out b11); have BY := Lib.hid (below_go B11.out (below_new w11 (.cells #[] 9))); have HY := Lib.hid (show (w11.alloc (.cells #[] 9)).heap.size = w11.heap.size + 1 by simp); have RIY := Lib.hid (rd11.go (below_new w11 (.cells #[] 9))); have RI11 := Lib.hid rd11; have RT11 := Lib.hid (RT.out.keep (fun p hp => BY.out.cell hp)); have Q11 := Lib.hid (Q10.out.below B11.out Q10.out.lt); have QY := Lib.hid (Q10.out.below BY.out Q10.out.lt); clear rd11 b11 f11))
    | (refine step_append_q _ (by rfl) _ _ (by rfl) (by rfl) w10.heap.size (.slice (some ⟨w10.heap.size, 0, none⟩) 0 0) [] (by rfl) (QAt.empty (Nat.le_refl _) HL11.out) (Nat.le_of_lt HL11.out) (.slice AT R.length cT) R.length (strCells R) (by rfl) (src_rd RT11.out) (by have := HR12.out; simp; omega) ?_; intro v12 w12 hq12 hg12 ho12; have B12 := Lib.hid (Below.grown B11.out hg12 B11.out.size (fun k hk => Nat.le_of_eq (own_eq hk).symm)); have RI12 := Lib.hid (rd_far RI11.out hg12.size (fun _ b o e hlt => hg12.block b hlt (fun e' => by have := HF11.out b o e; have := own_eq e'.symm; omega))); have HQ12 := Lib.hid hq12; have HNE := Lib.hid (show ∀ b o, A11 = some ⟨b, o, none⟩ → 0 < nb → ∀ k, v12.ownBlock = some k → b ≠ k from fun b o e h0 k hk => by have h1 := HF11.out b o e; obtain ⟨b', o', e', h2, -⟩ := RI11.out.2 h0; rw [e] at e'; injection e' with e'; injection e' with e'; rcases ho12 with h | h; (have := own_eq (h.symm.trans hk); omega); (rw [hk] at h; injection h with h; omega)); have Q12 := Lib.hid (Q10.out.below B12.out Q10.out.lt); clear hq12 hg12 ho12)
    | (refine step_append_q _ (by rfl) _ _ (by rfl) (by rfl) w10.heap.size (.slice (some ⟨w11.heap.size, 0, none⟩) 0 0) [] (by rfl) (QAt.empty B11.out.size (by have := HY.out; omega)) BY.out.size (.slice AT R.length cT) R.length (strCells R) (by rfl) (src_rd RT11.out) (by have := HR12.out; simp; omega) ?_; intro v12 w12 hq12 hg12 ho12; have B12 := Lib.hid (Below.grown BY.out hg12 BY.out.size (fun k hk => by have := B11.out.size; have := own_eq hk; omega)); have HLB := Lib.hid (show ∀ b o, A11 = some ⟨b, o, none⟩ → 0 < nb → b < w11.heap.size from fun b o e h0 => by obtain ⟨b', o', e', h2, -⟩ := RI11.out.2 h0; rw [e] at e'; injection e' with e'; injection e' with e'; omega); have RI12 := Lib.hid (rd_far RIY.out hg12.size (fun h0 b o e hlt => hg12.block b hlt (fun e' => by have := HLB.out b o e h0; have := own_eq e'.symm; omega))); have HQ12 := Lib.hid hq12; have HNE := Lib.hid (show ∀ b o, A11 = some ⟨b, o, none⟩ → 0 < nb → ∀ k, v12.ownBlock = some k → b ≠ k from fun b o e h0 k hk => by have h1 := HLB.out b o e h0; have h2 := HY.out; rcases ho12 with h | h; (have := own_eq (h.symm.trans hk); omega); (rw [hk] at h; injection h with h; omega)); have Q12 := Lib.hid (Q10.out.below B12.out Q10.out.lt); clear hq12 hg12 ho12)
    | (go_at_call 15; refine (HTX.out _).mono ?_; rintro e w13 ⟨rfl, b13⟩; have B13 := Lib.hid (below_go B12.out b13); have BA := Lib.hid (below_go B13.out (below_new w13 (.cells #[.string s] 9))); have nA : (w13.alloc (.cells #[.string s] 9)).cell? ⟨w13.heap.size, 0, none⟩ = some (.string s) := (Blk.new w13 9 #[.string s]).cell 0; have HQA := Lib.hid ((HQ12.out.below b13 (Nat.le_refl _)).below (below_new w13 (.cells #[.string s] 9)) (Nat.le_refl _)); have RIA := Lib.hid ((RI12.out.go b13).go (below_new w13 (.cells #[.string s] 9))); have Q13 := Lib.hid (Q10.out.below B13.out Q10.out.lt); have QA := Lib.hid (Q10.out.below BA.out Q10.out.lt); clear b13)
    | (refine step_append_q _ (by rfl) _ _ (by rfl) (by rfl) w10.heap.size v12 ([] ++ strCells R) (by rfl) HQA.out BA.out.size (.slice (some ⟨w13.heap.size, 0, none⟩) 1 1) 1 [.string s] (by rfl) (src_cellS nA) (by have := HR12.out; have := HSR.out; simp; omega) ?_; intro v14 w14 hq14 hg14 ho14; rw [HST.out] at hq14; obtain ⟨A14, c14, e14, -, hr14⟩ := hq14.rd; rw [HSL.out] at e14 hr14; subst e14; have B14 := Lib.hid (Below.grown BA.out hg14 BA.out.size (fun k hk => (HQA.out.lt hk).1)); have RI14 := Lib.hid (rd_far RIA.out hg14.size (fun h0 b o e hlt => hg14.block b hlt (fun e' => HNE.out b o e h0 b e'.symm rfl))); have RM14 := Lib.hid hr14; have Q14 := Lib.hid (Q10.out.below B14.out Q10.out.lt); clear hq14 hg14 ho14 hr14)
    | (go_at_call 17; (with_reducible refine (GN.out _ B14 _ _ _ _ RI14.out RM14.out).mono ?_); rintro e w15 ⟨rfl, b15⟩; have B15 := Lib.hid (below_go B14.out b15); have Q15 := Lib.hid (Q10.out.below B15.out Q10.out.lt); clear b15))
  all_goals
    go_split_ands
    have D15 := Lib.hid (D10.out.go B15.out)
    have O15 := Lib.hid (O10.out.below B15.out)
    clear IM GN RT BX BD QX HX QD HSL HSR
    cases gv
    · go_wp2_with fail
      refine (sanity_any w15 ((HK.out.below B1.out).below D15.out.below)).mono ?_
      rintro e w16 ⟨rfl, b16⟩
      have B16 := Lib.hid (below_go (below_go B1.out D15.out.below) b16)
      clear b16
      go_wp2_with fail
      go_ret
      exact ⟨rfl, B16.out⟩
    · have HF2 := Lib.hid (HSV.out (by rw [← SM10.out.texts]; exact HGV.out.symm))
      obtain ⟨FD, hFD⟩ : ∃ x, x = (openT T10).texts := ⟨_, rfl⟩
      obtain ⟨nf, hnf⟩ : ∃ x, x = FD.length := ⟨_, rfl⟩
      have hnf2 : nf ≤ 13 := by
        rw [hnf, hFD]
        rcases HF2.out with h | ⟨-, h⟩
        · rw [h, List.length_append, List.length_singleton]; omega
        · rw [h]; omega
      have HSO := Lib.hid (sim_open SM10.out)
      go_wp2_with fail
      refine (open_any w15 g gb gp gw _ S10 D15.out.disk ((HK.out.below B1.out).below D15.out.below)).mono ?_
      rintro e w16 hp
      obtain ⟨j16, un, ub, ut, rfl, jj, -, b16⟩ := D15.out.open2 hp HC10.out
      rw [HSO.out] at jj
      have J16 := Lib.hid jj
      have O16 := Lib.hid (O15.out.below b16)
      have TX := Lib.hid (show Calls Tryz.prog 11 #[.pointer (some ⟨j16, 0, none⟩)] w16 (OwnPost w16.heap.size 9 1 nf (strCells FD) w16) from by
        rw [hnf, hFD]; exact jtexts_any w16 j16 g un ub ut (openT T10) J16.out.jat (by rw [← hFD, ← hnf]; omega))
      clear jj b16 hp
      go_wp2_with fail
      refine TX.out.mono ?_
      rintro e w17 ⟨v17, rfl, own17, b17⟩
      obtain ⟨A17, c17, rfl, -⟩ := own_slice own17
      have D17 := Lib.hid (J16.out.go b17).dd
      have O17 := Lib.hid (O16.out.below b17)
      have X17 := Lib.hid own17
      have Q17 := Lib.hid (Q1.out.below D17.out.below Q1.out.lt)
      have HFL := Lib.hid (show FD.length = nf from hnf.symm)
      have HFD := Lib.hid hFD
      clear own17 b17 hnf hFD TX
      have RT17 := Lib.hid (Rd.of_own O17.out.texts)
      have BX := Lib.hid (show Below w17.heap.size w17 (w17.alloc (.cells #[] 9)).drew from (below_new w17 _).drew)
      have HX := Lib.hid (show w17.heap.size < (w17.alloc (.cells #[] 9)).drew.heap.size by show _ < (w17.alloc _).heap.size; simp)
      have RX := Lib.hid (RT17.out.keep (fun p hp => BX.out.cell hp))
      have QX := Lib.hid (Q17.out.below BX.out Q17.out.lt)
      have QD := Lib.hid (show Blk w17.drew w.heap.size 25 _ from Q17.out)
      have HSL := Lib.hid (show (strCells (R ++ [t])).length = R.length + 1 by simp [strCells])
      have HSR := Lib.hid (show (strCells R).length = R.length by simp [strCells])
      go_wp2_with fail
      go_region_held3 (fun W => W.cell? ⟨w.heap.size, 0, none⟩ = some (.int .i64 kd) ∧ W.cell? ⟨w.heap.size, 1, none⟩ = some (.int .i64 si) ∧ W.cell? ⟨w.heap.size, 2, none⟩ = some (.int .i64 bit) ∧ W.cell? ⟨w.heap.size, 3, none⟩ = some (.int .i64 size) ∧ W.cell? ⟨w.heap.size, 4, none⟩ = some (.int .u8 (fill.toNat : Int)) ∧ W.cell? ⟨w.heap.size, 5, none⟩ = some (.slice A m c))
        (first | exact blk6 Q24.out | exact blk6 QA2.out | exact blk6 Q23.out | exact blk6 Q22.out | exact blk6 QX.out | exact blk6 QD.out | go_keep)
        (first
        | (refine step_append_q _ (by rfl) _ _ (by rfl) (by rfl) w17.heap.size (.slice (some ⟨w17.heap.size, 0, none⟩) 0 0) [] (by rfl) (QAt.empty (Nat.le_refl _) HX.out) BX.out.size (.slice AT R.length cT) R.length (strCells R) (by rfl) (src_rd RX.out) (by have := HR12.out; simp; omega) ?_; intro v22 w22 hq22 hg22 ho22; have B22 := Lib.hid (Below.grown BX.out hg22 BX.out.size (fun k hk => Nat.le_of_eq (own_eq hk).symm)); have HQ22 := Lib.hid hq22; have Q22 := Lib.hid (Q17.out.below B22.out Q17.out.lt); clear hq22 hg22 ho22)
        | (go_at_call 15; refine (HTX.out _).mono ?_; rintro e w23 ⟨rfl, b23⟩; have B23 := Lib.hid (below_go B22.out b23); have BA2 := Lib.hid (below_go B23.out (below_new w23 (.cells #[.string s] 9))); have nA2 : (w23.alloc (.cells #[.string s] 9)).cell? ⟨w23.heap.size, 0, none⟩ = some (.string s) := (Blk.new w23 9 #[.string s]).cell 0; have HQA2 := Lib.hid ((HQ22.out.below b23 (Nat.le_refl _)).below (below_new w23 (.cells #[.string s] 9)) (Nat.le_refl _)); have Q23 := Lib.hid (Q17.out.below B23.out Q17.out.lt); have QA2 := Lib.hid (Q17.out.below BA2.out Q17.out.lt); clear b23)
        | (refine step_append_q _ (by rfl) _ _ (by rfl) (by rfl) w17.heap.size v22 ([] ++ strCells R) (by rfl) HQA2.out BA2.out.size (.slice (some ⟨w23.heap.size, 0, none⟩) 1 1) 1 [.string s] (by rfl) (src_cellS nA2) (by have := HR12.out; have := HSR.out; simp; omega) ?_; intro v24 w24 hq24 hg24 ho24; rw [HST.out] at hq24; obtain ⟨A24, c24, e24, -, hr24⟩ := hq24.rd; rw [HSL.out] at e24 hr24; subst e24; have B24 := Lib.hid (Below.grown BA2.out hg24 BA2.out.size (fun k hk => (HQA2.out.lt hk).1)); have RM24 := Lib.hid hr24; have Q24 := Lib.hid (Q17.out.below B24.out Q17.out.lt); clear hq24 hg24 ho24 hr24))
      all_goals
        have D24 := Lib.hid (D17.out.go B24.out)
        have O24 := Lib.hid (O17.out.below B24.out)
        have X24 := Lib.hid (own_below X17.out B24.out)
        clear RT17 BX HX RX QX QD HSL HSR
        go_wp2_with fail
        refine (sanity_any w24 ((HK.out.below B1.out).below D24.out.below)).mono ?_
        rintro e w25 ⟨rfl, b25⟩
        have D25 := Lib.hid (D24.out.go b25)
        have O25 := Lib.hid (O24.out.below b25)
        have X25 := Lib.hid (own_below X24.out b25)
        have RM25 := Lib.hid (RM24.out.go b25)
        clear b25
        go_wp2_with fail
        rcases HF2.out with h | ⟨h1, h2⟩
        · have HEQ := Lib.hid (decide_eq_true (HFD.out.trans h))
          clear h
          refine (sameTexts_any A17 A24 nf (R.length + 1) c17 c24 FD (R ++ [t]) w25 (Rd.of_own X25.out) RM25.out HFL.out (by rw [List.length_append, List.length_singleton]) (by omega) true HEQ).mono ?_
          rintro e w26 ⟨rfl, b26⟩
          have B26 := Lib.hid (below_go (below_go B1.out D25.out.below) b26)
          clear b26
          go_wp2_with fail
          go_ret
          exact ⟨rfl, B26.out⟩
        · have HNE2 := Lib.hid (show decide (FD = R ++ [t]) = false from decide_eq_false (fun e => by
            have h3 := congrArg List.length ((HFD.out.trans h2).symm.trans e)
            rw [List.length_append, List.length_singleton] at h3
            omega))
          have HEQ := Lib.hid (decide_eq_true (HFD.out.trans h2))
          have hne : ER ≠ 0 := by rw [HER.out]; exact h1
          have e1 : (ER == 0) = false := beq_eq_false_iff_ne.2 hne
          have e2 : (ER != 0) = true := by rw [bne, e1]; rfl
          clear h1 h2
          refine (sameTexts_any A17 A24 nf (R.length + 1) c17 c24 FD (R ++ [t]) w25 (Rd.of_own X25.out) RM25.out HFL.out (by rw [List.length_append, List.length_singleton]) (by omega) false HNE2).mono ?_
          rintro e w26 ⟨rfl, b26⟩
          have D26 := Lib.hid (D25.out.go b26)
          have O26 := Lib.hid (O25.out.below b26)
          have X26 := Lib.hid (own_below X25.out b26)
          clear b26
          go_wp2_with fail
          refine (sameTexts_any A17 AT nf R.length c17 cT FD R w26 (Rd.of_own X26.out) (Rd.of_own O26.out.texts) HFL.out rfl (by omega) true HEQ).mono ?_
          rintro e w27 ⟨rfl, b27⟩
          have B27 := Lib.hid (below_go (below_go B1.out D26.out.below) b27)
          clear b27
          go_wp2_with fail
          go_ret
          exact ⟨rfl, B27.out⟩
end Go.Proofs.YtddpjahoeldleaaGreatDoor
