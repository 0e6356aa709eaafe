/- same: the program's disk is as the reference's. -/
import Derived.Test.YtibhnjnfifpepaaRefClone
import Derived.Test.YtibhnjnfifpepaaLawRots
namespace Go.Proofs.Ytibhnjnfifpepaa
open Go.RowKit Go.Maps

set_option maxHeartbeats 2000000 in
set_option maxRecDepth 100000 in
theorem same_any (w : World) (g gb gp gw K : Nat) (S : St) (h : DiskAt w g gb gp gw K S) (hK : K ≤ 100000) (r gs : Nat) (T : RSt) (hr : RefAt w r gs T) (hs : Sim S T) :
    Calls Try.prog 28 #[.pointer (some ⟨g, 0, none⟩), .pointer (some ⟨r, 0, none⟩)] w (RetB (.bool true) w) := by
  have hlen := hs.len
  obtain ⟨n, hn⟩ : ∃ n, n = S.bl.length := ⟨_, rfl⟩
  rw [← hn] at hlen
  have hT := hs.texts
  have e1 : S.bl = textsTo T T.s.length := by rw [textsTo, List.take_length]; exact hT
  have n2 := h.n2
  rw [← hn] at n2
  have HE1 := Lib.hid e1
  have HE2 := Lib.hid hs.pend
  have HE3 := Lib.hid hs.worn
  have HO := Lib.hid hs.off
  have D := Lib.hid h
  have R := Lib.hid hr
  have HN := Lib.hid hn.symm
  have HL := Lib.hid hlen
  have HP := Lib.hid (show (placesFrom (·.dirty) T.s 0).length ≤ n by rw [← hlen]; exact places_le _ _ _)
  have HW := Lib.hid (show (placesFrom (·.worn) T.s 0).length ≤ n by rw [← hlen]; exact places_le _ _ _)
  clear h hr hs hn hlen hT e1
  go_enter Try.func28, Try.ntmps28
  go_wp2_with fail
  refine (image_m _ g gb gp gw K n S D.out HN.out).mono ?_
  rintro e w1 ⟨A1, c1, rfl, r1, l1, b1, -⟩
  have D1 := Lib.hid (D.out.below b1)
  have R1 := Lib.hid (R.out.go b1)
  have X1 := Lib.hid r1
  have Q1 := Lib.hid b1
  clear r1 b1
  go_wp2_with fail
  refine (rimage_any _ r gs T R1.out).mono ?_
  rintro e w2 h2
  obtain ⟨A2, c2, rfl, r2, l2, b2⟩ := OwnPost.open_ h2
  rw [HL.out] at r2 l2 ⊢
  have D2 := Lib.hid (D1.out.below b2)
  have R2 := Lib.hid (R1.out.go b2)
  have X2 := Lib.hid r2
  have X12 := Lib.hid (X1.out.go b2)
  have Q2 := Lib.hid (below_go Q1.out b2)
  clear r2 b2 h2 X1
  go_wp2_with fail
  refine (sameTexts_any A1 A2 n n c1 c2 S.bl (textsTo T n) _ X12.out X2.out HN.out (by rw [textsTo, List.length_map, List.length_take, HL.out, Nat.min_self]) (by omega) true (Lib.hid (by rw [HE1.out, HL.out]; simp))).mono ?_
  rintro e w3 ⟨rfl, b3⟩
  have D3 := Lib.hid (D2.out.below b3)
  have R3 := Lib.hid (R2.out.go b3)
  have Q3 := Lib.hid (below_go Q2.out b3)
  clear b3 D D1 D2 R R1 R2 X12 X2
  go_wp2_with fail
  refine (pending_any _ g gb gp gw K S D3.out hK).mono ?_
  rintro e w4 ⟨v4, rfl, row4, b4⟩
  obtain ⟨A4, c4, rfl, -⟩ := own_slice row4
  have X4 := Lib.hid (Rd.of_own row4)
  rw [HE2.out] at X4 ⊢
  have D4 := Lib.hid (D3.out.below b4)
  have R4 := Lib.hid (R3.out.go b4)
  have Q4 := Lib.hid (below_go Q3.out b4)
  clear b4 row4 D3 R3
  go_wp2_with fail
  refine (rpending_any _ r gs T R4.out).mono ?_
  rintro e w5 h5
  obtain ⟨A5, c5, rfl, r5, l5, b5⟩ := OwnPost.open_ h5
  have X5 := Lib.hid r5
  have X45 := Lib.hid (X4.out.go b5)
  have D5 := Lib.hid (D4.out.below b5)
  have R5 := Lib.hid (R4.out.go b5)
  have Q5 := Lib.hid (below_go Q4.out b5)
  clear r5 b5 h5 X4 D4 R4 l5
  go_wp2_with fail
  refine (sameInts_any A4 A5 _ _ c4 c5 (placesFrom (·.dirty) T.s 0) (placesFrom (·.dirty) T.s 0) _ X45.out X5.out rfl (by have := HP.out; omega)).mono ?_
  rintro e w6 ⟨rfl, b6⟩
  have D6 := Lib.hid (D5.out.below b6)
  have R6 := Lib.hid (R5.out.go b6)
  have Q6 := Lib.hid (below_go Q5.out b6)
  clear b6 D5 R5 X45 X5
  go_wp2_with fail
  refine (worn_any _ g gb gp gw K S D6.out hK).mono ?_
  rintro e w7 ⟨v7, rfl, row7, b7⟩
  obtain ⟨A7, c7, rfl, -⟩ := own_slice row7
  have X7 := Lib.hid (Rd.of_own row7)
  rw [HE3.out] at X7 ⊢
  have D7 := Lib.hid (D6.out.below b7)
  have R7 := Lib.hid (R6.out.go b7)
  have Q7 := Lib.hid (below_go Q6.out b7)
  clear b7 row7 D6 R6
  go_wp2_with fail
  refine (rworn_any _ r gs T R7.out).mono ?_
  rintro e w8 h8
  obtain ⟨A8, c8, rfl, r8, l8, b8⟩ := OwnPost.open_ h8
  have X8 := Lib.hid r8
  have X78 := Lib.hid (X7.out.go b8)
  have D8 := Lib.hid (D7.out.below b8)
  have R8 := Lib.hid (R7.out.go b8)
  have Q8 := Lib.hid (below_go Q7.out b8)
  clear r8 b8 h8 X7 D7 R7 l8
  go_wp2_with fail
  refine (sameInts_any A7 A8 _ _ c7 c8 (placesFrom (·.worn) T.s 0) (placesFrom (·.worn) T.s 0) _ X78.out X8.out rfl (by have := HW.out; omega)).mono ?_
  rintro e w9 ⟨rfl, b9⟩
  have D9 := Lib.hid (D8.out.below b9)
  have R9 := Lib.hid (R8.out.go b9)
  have Q9 := Lib.hid (below_go Q8.out b9)
  clear b9 D8 R8 X78 X8
  go_wp2_with fail
  refine (len_any _ g gb gp gw K S D9.out).mono ?_
  rintro e w10 ⟨rfl, rfl⟩
  rw [HN.out]
  go_wp2_with fail
  refine (rlen_any _ r gs T R9.out).mono ?_
  rintro e w11 ⟨rfl, rfl⟩
  rw [HL.out]
  go_wp2_with fail
  refine (up_any _ g gb gp gw K S D9.out).mono ?_
  rintro e w12 ⟨rfl, rfl⟩
  go_wp2_with fail
  refine (rup_any _ r gs T R9.out).mono ?_
  rintro e w13 ⟨rfl, rfl⟩
  rw [HO.out]
  go_wp2_with fail
  go_ret
  exact ⟨rfl, Q9.out⟩
end Go.Proofs.Ytibhnjnfifpepaa
