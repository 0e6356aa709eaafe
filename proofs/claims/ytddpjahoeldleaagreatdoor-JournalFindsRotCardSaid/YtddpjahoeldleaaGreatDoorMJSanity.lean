/- Contract of sanity. -/
import Derived.Test.YtddpjahoeldleaaGreatDoorMJStateB
import Derived.Test.YtddpjahoeldleaaGreatDoorMJMore
import Derived.Test.YtddpjahoeldleaaGreatDoorMPSane
import Derived.Test.YtddpjahoeldleaaGreatDoorMShelf

namespace Go.Proofs.YtddpjahoeldleaaGreatDoor
open Go.RowKit Go.Maps Go.Shelf

theorem repX : Builder.Extra Tryz.prog Tryz.repS_ren := {
  sizeBuilder := by kernel_rfl
  liesBuilder := by kernel_rfl
  t5 := Tryz.underlying5
  a5 := Tryz.isAgg5
  z5 := Tryz.sizeOf5
  v5 := Tryz.zeroValue5
  infoByte := by kernel_rfl
  cellsByte := by kernel_rfl
  sizeByte := by kernel_rfl
  neB5 := by decide }
theorem repeat_any (w : World) : Calls Tryz.prog 39 #[.string ⟨#[120]⟩, .int .i64 50] w (RetB (str tX) w) :=
  (Any.strings_Repeat Tryz.repS repX ⟨#[120]⟩ 50 w (by decide) (by decide)).mono fun e w' h => ⟨h.1.trans (by rw [show Lib.repeatL (⟨#[120]⟩ : ByteArray).data.toList 50 = tX from by kernel_rfl]), h.2⟩
/-- a new row of cells reads as they are -/
theorem rd_lit (w : World) (e : TypeId) (xs : List Value) : Rd (w.alloc (.cells xs.toArray e)) (w.alloc (.cells xs.toArray e)).heap.size 1 (some ⟨w.heap.size, 0, none⟩) xs.length xs := by
  refine ⟨by simp, fun _ => ⟨w.heap.size, 0, rfl, by simp, fun j u hu => ?_⟩⟩
  rw [Nat.zero_add, (Blk.new w e xs.toArray).cell j, List.getElem?_toArray]
  exact hu
theorem app_at {w0 W : World} {j g gb gp gw K : Nat} {vn vb vt : Value} {J : JV} {S : Dk.St} (h : JD w0 W j g gb gp gw K vn vb vt J S) (hk : Consts w0) (hK : K + 200 ≤ 100000) (s : ByteArray) (t : Bs) (hs : s.data.toList = t) (hx1 : 1 ≤ J.next) (f0 : 0 ≤ J.fin) (f1 : J.fin ≤ 4096) (hn : J.nums.length ≤ 90000) (ht : J.texts.length ≤ 90000) :
    Calls Tryz.prog 14 #[.pointer (some ⟨j, 0, none⟩), .string s] W (fun e W' => ∃ vn' vt', e = .returned (.tuple #[.int .i64 (appR J S t).n, .int .i64 (appR J S t).err]) ∧ JD w0 W' j g gb gp gw (K + 200) vn' vb vt' (appR J S t).J (appR J S t).S) := by
  subst hs
  exact (app_any W j g vn vb vt J gb gp gw K S h.jat h.dd.disk h.dd.pend (hk.below h.dd.below) hK s hx1 f0 f1 hn ht).mono fun e W' hp => h.app hp

set_option maxHeartbeats 4000000 in
set_option maxRecDepth 100000 in
theorem sanity_any (w : World) (hk : Consts w) : Calls Tryz.prog 7 #[] w (RetB (.bool true) w) := by
  have HK := Lib.hid hk
  obtain ⟨hs0, ho0, hc0⟩ := sane_open
  obtain ⟨S1, ha1, T1, hs1, hF1, hl1⟩ := sane_app hs0 (full_new 4 4 []) rfl tA (by decide) (by decide)
  obtain ⟨S2, ha2, T2, hs2, hF2, hl2⟩ := sane_app hs1 hF1 hl1 tX (by decide) (by decide)
  obtain ⟨hr1, hc3, ho3, S3, ha3, ha4⟩ := sane_rot hs2 hF2 hl2
  have HF := Lib.hid (And.intro ho0 (And.intro hc0 (And.intro ha1 (And.intro ha2 (And.intro hr1 (And.intro hc3 (And.intro ho3 (And.intro ha3 ha4))))))))
  have HL2 := Lib.hid (show (S2.bl.length : Int) = 4 by rw [← hs2.len, hl2]; rfl)
  clear hk hs0 ho0 hc0 ha1 hs1 hF1 hl1 ha2 hs2 hF2 hl2 hr1 hc3 ho3 ha3 ha4
  go_enter Tryz.func7, Tryz.ntmps7
  go_wp2_with fail
  refine (Dk.new_any w 4 (by decide) (by decide)).mono ?_
  rintro e w1 hn
  obtain ⟨g, gb, gp, gw, rfl, d1⟩ := dd_new hn
  have D1 := Lib.hid d1
  clear d1 hn
  go_wp2_with fail
  refine (open_any w1 g gb gp gw 0 _ D1.out.disk (HK.out.below D1.out.below)).mono ?_
  rintro e w2 hp
  obtain ⟨j, vn, vb, vt, rfl, j2⟩ := D1.out.open_ hp HF.out.2.1
  rw [HF.out.1] at j2
  have J2 := Lib.hid j2
  clear j2 hp D1
  go_wp2_with fail
  have hnx := next_any w2 j g vn vb vt _ J2.out.jat
  rw [show (fullJ []).next = 1 from rfl] at hnx
  refine hnx.mono ?_
  rintro e w' ⟨rfl, rfl⟩
  clear hnx
  go_wp2_with fail
  have hrm := room_any w2 j g vn vb vt _ J2.out.jat J2.out.dd.disk (by decide) (by decide)
  rw [show ((Dk.newS 4).bl.length : Int) - (fullJ []).fin = 4 from rfl] at hrm
  refine hrm.mono ?_
  rintro e w3 ⟨rfl, b3⟩
  have J3 := Lib.hid (J2.out.go b3)
  clear hrm b3 J2
  go_wp2_with fail
  refine (app_at J3.out HK.out (by decide) ⟨#[97]⟩ tA rfl (by decide) (by decide) (by decide) (by decide) (by decide)).mono ?_
  rintro e w4 ⟨vn, vt, rfl, j4⟩
  rw [HF.out.2.2.1] at j4 ⊢
  have J4 := Lib.hid j4
  clear j4 J3
  go_wp2_with fail
  refine (repeat_any w4).mono ?_
  rintro e w5 ⟨rfl, b5⟩
  have J5 := Lib.hid (J4.out.go b5)
  clear b5 J4
  have f1 : ((fullJ ([] ++ [tA])).fin) = 1 := by decide
  have f2 : ((fullJ ([] ++ [tA] ++ [tX])).fin) = 3 := by decide
  have f3 : ((fullJ ([] ++ [tA])).next) = 2 := by decide
  go_wp2_with fail
  refine (app_at J5.out HK.out (by decide) ⟨tX.toArray⟩ tX rfl (by rw [f3]; decide) (by rw [f1]; decide) (by rw [f1]; decide) (by decide) (by decide)).mono ?_
  rintro e w6 ⟨vn, vt, rfl, j6⟩
  rw [HF.out.2.2.2.1] at j6 ⊢
  have J6 := Lib.hid j6
  clear j6 J5
  go_wp2_with fail
  have hrm := room_any w6 j g vn vb vt _ J6.out.jat J6.out.dd.disk (by rw [f2]; decide) (by rw [f2]; decide)
  rw [f2, HL2.out] at hrm
  refine hrm.mono ?_
  rintro e w7 ⟨rfl, b7⟩
  have D7 := Lib.hid (J6.out.go b7).dd
  clear hrm b7 J6 f1 f2 f3
  go_wp2_with fail
  refine (Dk.rot_any w7 g gb gp gw _ S2 D7.out.disk 1 70).mono ?_
  rintro e w8 hp
  obtain ⟨rfl, d8⟩ := D7.out.post hp (Dk.tame_rot _ _ _)
  rw [HF.out.2.2.2.2.1]
  have D8 := Lib.hid d8
  clear d8 hp D7
  go_wp2_with fail
  refine (open_any w8 g gb gp gw _ _ D8.out.disk (HK.out.below D8.out.below)).mono ?_
  rintro e w9 hp
  obtain ⟨k, vn, vb, vt, rfl, j9⟩ := D8.out.open_ hp HF.out.2.2.2.2.2.1
  rw [HF.out.2.2.2.2.2.2.1] at j9
  have J9 := Lib.hid j9
  clear j9 hp D8
  go_wp2_with fail
  refine (app_at J9.out HK.out (by decide) ⟨#[98]⟩ tB rfl (by decide) (by decide) (by decide) (by decide) (by decide)).mono ?_
  rintro e w10 ⟨vn, vt, rfl, j10⟩
  rw [HF.out.2.2.2.2.2.2.2.1] at j10 ⊢
  have J10 := Lib.hid j10
  clear j10 J9
  go_wp2_with fail
  refine (app_at J10.out HK.out (by decide) ⟨#[99]⟩ tC rfl (by decide) (by decide) (by decide) (by decide) (by decide)).mono ?_
  rintro e w11 ⟨vn, vt, rfl, j11⟩
  rw [HF.out.2.2.2.2.2.2.2.2] at j11 ⊢
  have J11 := Lib.hid j11
  clear j11 J10
  go_wp2_with fail
  refine (packV_any 1 ⟨#[97]⟩ w11 (HK.out.below J11.out.dd.below)).mono ?_
  rintro e w12 ⟨v12, rfl, own12, b12⟩
  rw [show packV 1 (⟨#[97]⟩ : ByteArray).data.toList = [sA] from rfl] at own12
  rw [show packE 1 (⟨#[97]⟩ : ByteArray).data.toList = 0 from rfl]
  have J12 := Lib.hid (J11.out.go b12)
  obtain ⟨A12, c12, rfl, -⟩ := own_slice own12
  have O12 := Lib.hid own12
  clear own12 b12 J11
  obtain ⟨b12, o12, rfl, -, x12⟩ := (Rd.of_own O12.out).str rfl (k := 0) (by decide)
  obtain ⟨sq, hsq⟩ : ∃ sq : ByteArray, sq = ⟨sA.toArray⟩ := ⟨_, rfl⟩
  have x12 : w12.cell? ⟨b12, o12, none⟩ = some (.string sq) := by rw [hsq]; exact x12
  have HSQ := Lib.hid (show sq.data.toList = sA by rw [hsq])
  clear hsq
  go_wp2_with fail
  refine (unpack5_any sq w12 (HK.out.below J12.out.dd.below)).mono ?_
  rintro e w13 ⟨rfl, b13⟩
  rw [HSQ.out, part_A.1]
  rw [show (partOf 1 tA 0).payload = tA from rfl, show (partOf 1 tA 0).number = 1 from rfl, show (partOf 1 tA 0).part = 0 from rfl, show (partOf 1 tA 0).left = 1 from rfl, show (partOf 1 tA 0).ok = true from rfl]
  have J13 := Lib.hid (J12.out.go b13)
  clear b13 J12 x12 O12 HSQ
  go_wp2_with fail
  refine (numbers_any w13 k g vn vb vt saneK J13.out.jat (by decide)).mono ?_
  rintro e w14 ⟨v14, rfl, own14, b14⟩
  have J14 := Lib.hid (J13.out.go b14)
  obtain ⟨A14, c14, rfl, -⟩ := own_slice own14
  have O14 := Lib.hid own14
  clear own14 b14 J13
  go_wp2_with fail
  refine (sameInts_any A14 _ 2 2 c14 2 [1, 3] [1, 3] _ ((Rd.of_own O14.out).go (below_new _ _)) (rd_lit w14 3 [.int .i64 1, .int .i64 3]) rfl (by decide)).mono ?_
  rintro e w15 ⟨rfl, b15⟩
  have J15 := Lib.hid (J14.out.go (below_go (below_new _ _) b15))
  clear b15 J14 O14
  go_wp2_with fail
  refine (jtexts_any w15 k g vn vb vt saneK J15.out.jat (by decide)).mono ?_
  rintro e w16 ⟨v16, rfl, own16, b16⟩
  have J16 := Lib.hid (J15.out.go b16)
  obtain ⟨A16, c16, rfl, -⟩ := own_slice own16
  have O16 := Lib.hid own16
  clear own16 b16 J15
  go_wp2_with fail
  refine (sameTexts_any A16 _ 2 2 c16 2 [tA, tB] [tA, tB] _ ((Rd.of_own O16.out).go (below_new _ _)) (rd_lit w16 9 [str tA, str tB]) rfl rfl (by decide) true (Lib.hid (by decide))).mono ?_
  rintro e w17 ⟨rfl, b17⟩
  have J17 := Lib.hid (J16.out.go (below_go (below_new _ _) b17))
  clear b17 J16 O16
  go_wp2_with fail
  refine (damaged_any w17 k g vn vb vt saneK J17.out.jat (by decide) (by decide) 3 rfl (by decide)).mono ?_
  rw [show lostL saneK.nums 3 = [2] from by decide]
  rintro e w18 ⟨v18, rfl, own18, b18⟩
  have J18 := Lib.hid (J17.out.go b18)
  obtain ⟨A18, c18, rfl, -⟩ := own_slice own18
  have O18 := Lib.hid own18
  clear own18 b18 J17
  go_wp2_with fail
  refine (sameInts_any A18 _ 1 1 c18 1 [2] [2] _ ((Rd.of_own O18.out).go (below_new _ _)) (rd_lit w18 3 [.int .i64 2]) rfl (by decide)).mono ?_
  rintro e w19 ⟨rfl, b19⟩
  have J19 := Lib.hid (J18.out.go (below_go (below_new _ _) b19))
  clear b19 J18 O18
  go_wp2_with fail
  refine (bad_any w19 k g vn vb vt saneK J19.out.jat (by decide)).mono ?_
  rintro e w20 ⟨v20, rfl, own20, b20⟩
  have J20 := Lib.hid (J19.out.go b20)
  obtain ⟨A20, c20, rfl, -⟩ := own_slice own20
  have O20 := Lib.hid own20
  clear own20 b20 J19
  go_wp2_with fail
  refine (sameInts_any A20 _ 1 1 c20 1 [1] [1] _ ((Rd.of_own O20.out).go (below_new _ _)) (rd_lit w20 3 [.int .i64 1]) rfl (by decide)).mono ?_
  rintro e w21 ⟨rfl, b21⟩
  have J21 := Lib.hid (J20.out.go (below_go (below_new _ _) b21))
  clear b21 J20 O20
  go_wp2_with fail
  refine (count_any 49 w21).mono ?_
  rintro e w' ⟨rfl, rfl⟩
  rw [show countI 49 = 2 from by decide]
  go_wp2_with fail
  go_ret
  exact ⟨rfl, J21.out.dd.below⟩
end Go.Proofs.YtddpjahoeldleaaGreatDoor
