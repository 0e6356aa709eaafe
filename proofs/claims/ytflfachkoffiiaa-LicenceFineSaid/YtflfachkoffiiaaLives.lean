/- The documented examples. -/
import Derived.Test.YtflfachkoffiiaaLiveP
namespace Go.Proofs.Ytflfachkoffiiaa
open Go.RowKit Go.Lib

theorem rd_lit (w : World) (cs : Array Value) (e : TypeId) (xs : List Value) (n : Nat) (hx : cs.toList = xs) (hn : xs.length = n) : Rd (w.alloc (.cells cs e)) (w.alloc (.cells cs e)).heap.size 1 (some ⟨w.heap.size, 0, none⟩) n xs := by
  refine ⟨by omega, fun _ => ⟨w.heap.size, 0, rfl, by simp, fun j u hu => ?_⟩⟩
  rw [Nat.zero_add, World.cell?_alloc_at _ _ _ _ rfl, ← hu, ← hx, Array.getElem?_toList]
/-- the world in which the examples' clauses lie -/
def liveW (w : World) : World :=
  ((((((w.alloc (.cells #[.string ⟨#[111, 112, 101, 110]⟩] 9)).alloc (.cells #[.string ⟨#[111, 112, 101, 110, 62, 115, 104, 97, 114, 101]⟩, .string ⟨#[115, 104, 97, 114, 101, 62, 110, 97, 109, 101]⟩] 9)).alloc (.cells #[.string ⟨#[110, 97, 109, 101]⟩] 9)).alloc
    (.cells #[.string ⟨#[115, 101, 108, 108]⟩] 9)).alloc (.cells #[.string ⟨#[115, 101, 108, 108]⟩] 9)).alloc (.cells #[.string ⟨#[115, 101, 108, 108]⟩] 9)).alloc
    (.cells #[.string ⟨#[]⟩, .slice (some ⟨w.heap.size, 0, none⟩) 1 1, .slice none 0 0, .string ⟨#[]⟩, .slice (some ⟨w.heap.size + 1, 0, none⟩) 2 2, .slice none 0 0, .string ⟨#[]⟩, .slice none 0 0, .slice (some ⟨w.heap.size + 1 + 1, 0, none⟩) 1 1,
      .string ⟨#[]⟩, .slice none 0 0, .slice (some ⟨w.heap.size + 1 + 1 + 1, 0, none⟩) 1 1, .string ⟨#[]⟩, .slice (some ⟨w.heap.size + 1 + 1 + 1 + 1, 0, none⟩) 1 1, .slice (some ⟨w.heap.size + 1 + 1 + 1 + 1 + 1, 0, none⟩) 1 1] 36)
theorem size_new (w : World) (o : Obj) {n : Nat} (h : w.heap.size = n) : (w.alloc o).heap.size = n + 1 := by simp [h]
theorem rd_lit' (w : World) (cs : Array Value) (e : TypeId) (xs : List Value) (n g : Nat) (hx : cs.toList = xs) (hn : xs.length = n) (hg : w.heap.size = g) : Rd (w.alloc (.cells cs e)) (w.alloc (.cells cs e)).heap.size 1 (some ⟨g, 0, none⟩) n xs := by
  subst hg; exact rd_lit w cs e xs n hx hn
theorem live_world (w : World) : ∃ l, l.map ClV.bare = liveL ∧ Cls (liveW w) (liveW w).heap.size (some ⟨w.heap.size + 1 + 1 + 1 + 1 + 1 + 1, 0, none⟩) 5 l ∧ Below w.heap.size w (liveW w) ∧ (liveW w).heap.size = w.heap.size + 1 + 1 + 1 + 1 + 1 + 1 + 1 := by
  unfold liveW
  generalize hw1 : w.alloc (.cells #[.string ⟨#[111, 112, 101, 110]⟩] 9) = w1
  have s1 : w1.heap.size = w.heap.size + 1 := by rw [← hw1]; exact size_new _ _ rfl
  have b1 : Below w.heap.size w w1 := by rw [← hw1]; exact below_new _ _
  have r1 : Rd w1 w1.heap.size 1 (some ⟨w.heap.size, 0, none⟩) 1 (strCells [[111, 112, 101, 110]]) := by rw [← hw1]; exact rd_lit' _ _ _ _ _ _ rfl rfl rfl
  clear hw1
  generalize hw2 : w1.alloc (.cells #[.string ⟨#[111, 112, 101, 110, 62, 115, 104, 97, 114, 101]⟩, .string ⟨#[115, 104, 97, 114, 101, 62, 110, 97, 109, 101]⟩] 9) = w2
  have s2 : w2.heap.size = w.heap.size + 1 + 1 := by rw [← hw2]; exact size_new _ _ s1
  have b2 : Below w1.heap.size w1 w2 := by rw [← hw2]; exact below_new _ _
  have r2 : Rd w2 w2.heap.size 1 (some ⟨w.heap.size + 1, 0, none⟩) 2 (strCells [[111, 112, 101, 110, 62, 115, 104, 97, 114, 101], [115, 104, 97, 114, 101, 62, 110, 97, 109, 101]]) := by rw [← hw2]; exact rd_lit' _ _ _ _ _ _ rfl rfl s1
  clear hw2
  generalize hw3 : w2.alloc (.cells #[.string ⟨#[110, 97, 109, 101]⟩] 9) = w3
  have s3 : w3.heap.size = w.heap.size + 1 + 1 + 1 := by rw [← hw3]; exact size_new _ _ s2
  have b3 : Below w2.heap.size w2 w3 := by rw [← hw3]; exact below_new _ _
  have r3 : Rd w3 w3.heap.size 1 (some ⟨w.heap.size + 1 + 1, 0, none⟩) 1 (strCells [[110, 97, 109, 101]]) := by rw [← hw3]; exact rd_lit' _ _ _ _ _ _ rfl rfl s2
  clear hw3
  generalize hw4 : w3.alloc (.cells #[.string ⟨#[115, 101, 108, 108]⟩] 9) = w4
  have s4 : w4.heap.size = w.heap.size + 1 + 1 + 1 + 1 := by rw [← hw4]; exact size_new _ _ s3
  have b4 : Below w3.heap.size w3 w4 := by rw [← hw4]; exact below_new _ _
  have r4 : Rd w4 w4.heap.size 1 (some ⟨w.heap.size + 1 + 1 + 1, 0, none⟩) 1 (strCells [[115, 101, 108, 108]]) := by rw [← hw4]; exact rd_lit' _ _ _ _ _ _ rfl rfl s3
  clear hw4
  generalize hw5 : w4.alloc (.cells #[.string ⟨#[115, 101, 108, 108]⟩] 9) = w5
  have s5 : w5.heap.size = w.heap.size + 1 + 1 + 1 + 1 + 1 := by rw [← hw5]; exact size_new _ _ s4
  have b5 : Below w4.heap.size w4 w5 := by rw [← hw5]; exact below_new _ _
  have r5 : Rd w5 w5.heap.size 1 (some ⟨w.heap.size + 1 + 1 + 1 + 1, 0, none⟩) 1 (strCells [[115, 101, 108, 108]]) := by rw [← hw5]; exact rd_lit' _ _ _ _ _ _ rfl rfl s4
  clear hw5
  generalize hw6 : w5.alloc (.cells #[.string ⟨#[115, 101, 108, 108]⟩] 9) = w6
  have s6 : w6.heap.size = w.heap.size + 1 + 1 + 1 + 1 + 1 + 1 := by rw [← hw6]; exact size_new _ _ s5
  have b6 : Below w5.heap.size w5 w6 := by rw [← hw6]; exact below_new _ _
  have r6 : Rd w6 w6.heap.size 1 (some ⟨w.heap.size + 1 + 1 + 1 + 1 + 1, 0, none⟩) 1 (strCells [[115, 101, 108, 108]]) := by rw [← hw6]; exact rd_lit' _ _ _ _ _ _ rfl rfl s5
  clear hw6
  generalize hcs : (#[.string ⟨#[]⟩, .slice (some ⟨w.heap.size, 0, none⟩) 1 1, .slice none 0 0, .string ⟨#[]⟩, .slice (some ⟨w.heap.size + 1, 0, none⟩) 2 2, .slice none 0 0, .string ⟨#[]⟩, .slice none 0 0, .slice (some ⟨w.heap.size + 1 + 1, 0, none⟩) 1 1,
      .string ⟨#[]⟩, .slice none 0 0, .slice (some ⟨w.heap.size + 1 + 1 + 1, 0, none⟩) 1 1, .string ⟨#[]⟩, .slice (some ⟨w.heap.size + 1 + 1 + 1 + 1, 0, none⟩) 1 1, .slice (some ⟨w.heap.size + 1 + 1 + 1 + 1 + 1, 0, none⟩) 1 1] : Array Value) = cs
  generalize hw7 : w6.alloc (.cells cs 36) = w7
  have s7 : w7.heap.size = w.heap.size + 1 + 1 + 1 + 1 + 1 + 1 + 1 := by rw [← hw7]; exact size_new _ _ s6
  have b7 : Below w6.heap.size w6 w7 := by rw [← hw7]; exact below_new _ _
  have B67 := b7
  have B57 := below_go b6 B67
  have B47 := below_go b5 B57
  have B37 := below_go b4 B47
  have B27 := below_go b3 B37
  have B17 := below_go b2 B27
  have B07 := below_go b1 B17
  refine ⟨[⟨[], some ⟨w.heap.size, 0, none⟩, 1, 1, [[111, 112, 101, 110]], none, 0, 0, []⟩, ⟨[], some ⟨w.heap.size + 1, 0, none⟩, 2, 2, [[111, 112, 101, 110, 62, 115, 104, 97, 114, 101], [115, 104, 97, 114, 101, 62, 110, 97, 109, 101]], none, 0, 0, []⟩,
    ⟨[], none, 0, 0, [], some ⟨w.heap.size + 1 + 1, 0, none⟩, 1, 1, [[110, 97, 109, 101]]⟩, ⟨[], none, 0, 0, [], some ⟨w.heap.size + 1 + 1 + 1, 0, none⟩, 1, 1, [[115, 101, 108, 108]]⟩,
    ⟨[], some ⟨w.heap.size + 1 + 1 + 1 + 1, 0, none⟩, 1, 1, [[115, 101, 108, 108]], some ⟨w.heap.size + 1 + 1 + 1 + 1 + 1, 0, none⟩, 1, 1, [[115, 101, 108, 108]]⟩], rfl, ⟨?_, rfl, ?_⟩, B07, s7⟩
  · refine ⟨rfl, fun _ => ⟨_, 0, rfl, by omega, fun j u hu => ?_⟩⟩
    rw [← hw7, Nat.zero_add, World.cell?_alloc_at _ _ _ _ (by show w.heap.size + 1 + 1 + 1 + 1 + 1 + 1 = w6.heap.size; omega), ← hu, ← hcs, List.getElem?_toArray]
    rfl
  · intro c hc
    simp only [List.mem_cons, List.not_mem_nil, or_false] at hc
    rcases hc with rfl | rfl | rfl | rfl | rfl
    · exact ⟨Nat.zero_le _, by dsimp only; decide, by dsimp only; decide, r1.go B17, Rd.nil, by dsimp only; decide, by dsimp only; decide⟩
    · exact ⟨Nat.zero_le _, by dsimp only; decide, by dsimp only; decide, r2.go B27, Rd.nil, by dsimp only; decide, by dsimp only; decide⟩
    · exact ⟨Nat.zero_le _, by dsimp only; decide, by dsimp only; decide, Rd.nil, r3.go B37, by dsimp only; decide, by dsimp only; decide⟩
    · exact ⟨Nat.zero_le _, by dsimp only; decide, by dsimp only; decide, Rd.nil, r4.go B47, by dsimp only; decide, by dsimp only; decide⟩
    · exact ⟨Nat.zero_le _, by dsimp only; decide, by dsimp only; decide, r5.go B57, r6.go B67, by dsimp only; decide, by dsimp only; decide⟩

set_option maxHeartbeats 8000000 in
set_option maxRecDepth 100000 in
theorem lives_any (w : World) : Calls Try.prog 16 #[] w (RetB (.bool true) w) := by
  obtain ⟨l, hl, hc, hb, hs⟩ := live_world w
  have HL := Lib.hid hl
  have HS := Lib.hid hs
  obtain ⟨W, hW⟩ : ∃ W, W = liveW w := ⟨_, rfl⟩
  rw [← hW] at hc hb hs
  obtain ⟨B6, hB6⟩ : ∃ B, B = w.heap.size + 1 + 1 + 1 + 1 + 1 + 1 := ⟨_, rfl⟩
  rw [← hB6] at hc
  have HC := Lib.hid hc
  have HB := Lib.hid hb
  have HW := Lib.hid hW
  have H6 := Lib.hid hB6
  have HSZ := Lib.hid hs
  clear hl hc hb hs hW hB6
  go_enter Try.func16, Try.ntmps16
  go_wp2_with fail
  show Calls Try.prog 18 _ ((liveW w).alloc (.cells #[.int .i64 0, .int .i64 1, .int .i64 2, .int .i64 3] 3)) _
  rw [← HW.out, ← HSZ.out, ← H6.out]
  refine (core_any (some ⟨B6, 0, none⟩) 5 5 l _ 4 4 [0, 1, 2, 3] _ (HC.out.go (below_new _ _)) (by decide) (rd_lit _ _ 3 (intCells [0, 1, 2, 3]) 4 rfl rfl) (by decide) [0, 1, 2] (Lib.hid (live_a HL.out))).mono ?_
  rintro e w2 ⟨A2, c2, rfl, hr2, K0, b2⟩
  have HBz := Lib.hid (below_go (below_new _ _) b2)
  have HC := Lib.hid (HC.out.go HBz.out)
  have HB := Lib.hid (below_go HB.out HBz.out)
  have R2 := Lib.hid hr2
  clear hr2 b2 HBz
  dsimp only [List.length]
  go_wp2_with fail
  refine (core_any (some ⟨B6, 0, none⟩) 5 5 l _ 5 5 [0, 1, 2, 3, 4] _ (HC.out.go (below_new _ _)) (by decide) (rd_lit _ _ 3 (intCells [0, 1, 2, 3, 4]) 5 rfl rfl) (by decide) [4] (Lib.hid (live_b HL.out))).mono ?_
  rintro e w3 ⟨A3, c3, rfl, hr3, K1, b3⟩
  have HBz := Lib.hid (below_go (below_new _ _) b3)
  have HC := Lib.hid (HC.out.go HBz.out)
  have HB := Lib.hid (below_go HB.out HBz.out)
  have R2 := Lib.hid (R2.out.go HBz.out)
  have R3 := Lib.hid hr3
  clear hr3 b3 HBz
  go_wp2_with fail
  refine (great_any (some ⟨B6, 0, none⟩) 5 5 l _ 5 5 [2, 1, 0, 4, 3] _ (HC.out.go (below_new _ _)) (by decide) (rd_lit _ _ 3 (intCells [2, 1, 0, 4, 3]) 5 rfl rfl) (by decide)).mono ?_
  rw [live_c HL.out]
  rintro e w4 ⟨A4, c4, rfl, hr4, _, b4⟩
  have HBz := Lib.hid (below_go (below_new _ _) b4)
  have HC := Lib.hid (HC.out.go HBz.out)
  have HB := Lib.hid (below_go HB.out HBz.out)
  have R2 := Lib.hid (R2.out.go HBz.out)
  have R3 := Lib.hid (R3.out.go HBz.out)
  have R4 := Lib.hid hr4
  clear hr4 b4 HBz
  go_wp2_with fail
  refine (pfine_any (some ⟨B6, 0, none⟩) 5 5 l _ 2 2 [0, 1] _ (HC.out.go (below_new _ _)) (by decide) (rd_lit _ _ 3 (intCells [0, 1]) 2 rfl rfl) (by decide)).mono ?_
  rw [live_f1 HL.out]
  rintro e w5 ⟨rfl, b5⟩
  have HBz := Lib.hid (below_go (below_new _ _) b5)
  have HC := Lib.hid (HC.out.go HBz.out)
  have HB := Lib.hid (below_go HB.out HBz.out)
  have R2 := Lib.hid (R2.out.go HBz.out)
  have R3 := Lib.hid (R3.out.go HBz.out)
  have R4 := Lib.hid (R4.out.go HBz.out)
  clear b5 HBz
  go_wp2_with fail
  refine (pfine_any (some ⟨B6, 0, none⟩) 5 5 l _ 2 2 [0, 2] _ (HC.out.go (below_new _ _)) (by decide) (rd_lit _ _ 3 (intCells [0, 2]) 2 rfl rfl) (by decide)).mono ?_
  rw [live_f2 HL.out]
  rintro e w6 ⟨rfl, b5⟩
  have HBz := Lib.hid (below_go (below_new _ _) b5)
  have HC := Lib.hid (HC.out.go HBz.out)
  have HB := Lib.hid (below_go HB.out HBz.out)
  have R2 := Lib.hid (R2.out.go HBz.out)
  have R3 := Lib.hid (R3.out.go HBz.out)
  have R4 := Lib.hid (R4.out.go HBz.out)
  clear b5 HBz
  go_wp2_with fail
  refine (pfine_any (some ⟨B6, 0, none⟩) 5 5 l _ 3 3 [0, 1, 2] _ (HC.out.go (below_new _ _)) (by decide) (rd_lit _ _ 3 (intCells [0, 1, 2]) 3 rfl rfl) (by decide)).mono ?_
  rw [live_f3 HL.out]
  rintro e w7 ⟨rfl, b5⟩
  have HBz := Lib.hid (below_go (below_new _ _) b5)
  have HC := Lib.hid (HC.out.go HBz.out)
  have HB := Lib.hid (below_go HB.out HBz.out)
  have R2 := Lib.hid (R2.out.go HBz.out)
  have R3 := Lib.hid (R3.out.go HBz.out)
  have R4 := Lib.hid (R4.out.go HBz.out)
  clear b5 HBz
  go_wp2_with fail
  refine (valid_any (some ⟨B6, 0, none⟩) 5 5 l _ HC.out (by decide) true (Lib.hid (live_valid HL.out))).mono ?_
  rintro e w8 ⟨rfl, b8⟩
  have HC := Lib.hid (HC.out.go b8)
  have HB := Lib.hid (below_go HB.out b8)
  have R2 := Lib.hid (R2.out.go b8)
  have R3 := Lib.hid (R3.out.go b8)
  have R4 := Lib.hid (R4.out.go b8)
  clear b8
  go_wp2_with fail
  refine (sameInts_any A2 _ 3 3 c2 _ [0, 1, 2] [0, 1, 2] _ (R2.out.go (below_new _ _)) (rd_lit _ _ 3 (intCells [0, 1, 2]) 3 rfl rfl) (by decide) true (Lib.hid (by decide))).mono ?_
  rintro e w9 ⟨rfl, b5⟩
  have HBz := Lib.hid (below_go (below_new _ _) b5)
  have HC := Lib.hid (HC.out.go HBz.out)
  have HB := Lib.hid (below_go HB.out HBz.out)
  have R2 := Lib.hid (R2.out.go HBz.out)
  have R3 := Lib.hid (R3.out.go HBz.out)
  have R4 := Lib.hid (R4.out.go HBz.out)
  clear b5 HBz
  go_wp2_with fail
  refine (sameInts_any A3 _ 1 1 c3 _ [4] [4] _ (R3.out.go (below_new _ _)) (rd_lit _ _ 3 (intCells [4]) 1 rfl rfl) (by decide) true (Lib.hid (by decide))).mono ?_
  rintro e w10 ⟨rfl, b5⟩
  have HBz := Lib.hid (below_go (below_new _ _) b5)
  have HC := Lib.hid (HC.out.go HBz.out)
  have HB := Lib.hid (below_go HB.out HBz.out)
  have R2 := Lib.hid (R2.out.go HBz.out)
  have R3 := Lib.hid (R3.out.go HBz.out)
  have R4 := Lib.hid (R4.out.go HBz.out)
  clear b5 HBz
  go_wp2_with fail
  refine (sameInts_any A4 _ 3 3 c4 _ [1, 2, 3] [1, 2, 3] _ (R4.out.go (below_new _ _)) (rd_lit _ _ 3 (intCells [1, 2, 3]) 3 rfl rfl) (by decide) true (Lib.hid (by decide))).mono ?_
  rintro e w11 ⟨rfl, b5⟩
  have HBz := Lib.hid (below_go (below_new _ _) b5)
  have HC := Lib.hid (HC.out.go HBz.out)
  have HB := Lib.hid (below_go HB.out HBz.out)
  have R2 := Lib.hid (R2.out.go HBz.out)
  have R3 := Lib.hid (R3.out.go HBz.out)
  have R4 := Lib.hid (R4.out.go HBz.out)
  clear b5 HBz
  go_wp2_with fail
  refine (check_any (some ⟨B6, 0, none⟩) 5 5 l _ 4 4 [0, 1, 2, 3] A2 3 c2 [0, 1, 2] _ (HC.out.go (below_new _ _)) (by decide) (rd_lit _ _ 3 (intCells [0, 1, 2, 3]) 4 rfl rfl) (by decide) (R2.out.go (below_new _ _)) (by decide) K0 0 (Lib.hid (live_k1 HL.out))).mono ?_
  rintro e w12 ⟨rfl, b5⟩
  have HBz := Lib.hid (below_go (below_new _ _) b5)
  have HC := Lib.hid (HC.out.go HBz.out)
  have HB := Lib.hid (below_go HB.out HBz.out)
  have R2 := Lib.hid (R2.out.go HBz.out)
  have R3 := Lib.hid (R3.out.go HBz.out)
  have R4 := Lib.hid (R4.out.go HBz.out)
  clear b5 HBz
  go_wp2_with fail
  refine (check_any (some ⟨B6, 0, none⟩) 5 5 l _ 4 4 [0, 1, 2, 3] A3 1 c3 [4] _ (HC.out.go (below_new _ _)) (by decide) (rd_lit _ _ 3 (intCells [0, 1, 2, 3]) 4 rfl rfl) (by decide) (R3.out.go (below_new _ _)) (by decide) K1 27 (Lib.hid (live_k2 HL.out))).mono ?_
  rintro e w13 ⟨rfl, b5⟩
  have HBz := Lib.hid (below_go (below_new _ _) b5)
  have HC := Lib.hid (HC.out.go HBz.out)
  have HB := Lib.hid (below_go HB.out HBz.out)
  have R2 := Lib.hid (R2.out.go HBz.out)
  have R3 := Lib.hid (R3.out.go HBz.out)
  have R4 := Lib.hid (R4.out.go HBz.out)
  clear b5 HBz
  go_wp2_with fail
  go_ret
  exact ⟨rfl, HB.out⟩
end Go.Proofs.Ytflfachkoffiiaa
