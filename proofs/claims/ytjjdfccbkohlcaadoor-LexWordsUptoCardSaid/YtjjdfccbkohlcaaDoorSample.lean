/- Sample: some string of bounded length. -/
import Derived.Test.YtjjdfccbkohlcaaDoorPiece
namespace Go.Proofs.YtjjdfccbkohlcaaDoor
open Go.RowKit

/-- some string of at most N bytes comes back -/
def SomeStr (N : Nat) (w : World) (e : Ending) (w' : World) : Prop := ∃ s : ByteArray, e = .returned (.string s) ∧ s.size ≤ N ∧ Below w.heap.size w w'

theorem gapRaw_len (k : Nat) : (gapRaw k).length ≤ 16 := by
  have h1 := gapL_len (k % 8)
  have h2 := gapL_len (k / 8 % 8)
  unfold gapRaw; split
  · rw [List.length_append]; omega
  · omega
theorem gapB_len (k : Nat) (sm : Int) : (gapB k sm).length ≤ 16 := by
  have := gapRaw_len k
  unfold gapB; split <;> simp_all
theorem pieceB_len (k : Nat) : (pieceB k).length ≤ 16 := by
  have h : ∀ (L : List Lx.Bs) (i : Nat), (∀ x ∈ L, x.length ≤ 16) → (L.getD i []).length ≤ 16 := by
    intro L i hL
    by_cases hi : i < L.length
    · simp [hi]; exact hL _ (List.getElem_mem hi)
    · simp [List.getElem?_eq_none (Nat.not_lt.1 hi)]
  unfold pieceB
  split
  · exact h _ _ (by decide)
  · split
    · exact h _ _ (by decide)
    · exact h _ _ (by decide)

def atI (zs : List Int) (i m : Int) : Int := if i.toNat < zs.length then aroundI (zs.getD i.toNat 0) m else 0
theorem at_nat (zs : List Int) (i : Int) (m : Nat) (hm : 0 < m) : ∃ r : Nat, (r : Int) = atI zs i m ∧ r < m := by
  unfold atI; split
  · exact around_nat _ _ hm
  · exact ⟨0, rfl, hm⟩
theorem at_any (A : Option Addr) (n c : Nat) (zs : List Int) (i m : Int) (w : World) (h1 : Rd w w.heap.size 1 A n (intCells zs)) (hf : Fits zs) (hi : 0 ≤ i) (hm : 0 < m) (hm2 : m ≤ 4611686018427387904) (r : Nat) (hr : Hid ((r : Int) = atI zs i m)) :
    Calls Tryd.prog 20 #[.slice A n c, .int .i64 i, .int .i64 m] w (Ret (.int .i64 (r : Int)) w) := by
  obtain ⟨k, rfl⟩ := Int.eq_ofNat_of_zero_le hi
  have hl : zs.length = n := by have := h1.1; simpa [intCells] using this
  by_cases hlt : k < n
  · obtain ⟨b, o, rfl, hbb, x1⟩ := h1.int hlt
    obtain ⟨f1, f2⟩ := h1.fits hf hlt
    have Hr : Hid ((r : Int) = aroundI (zs.getD k 0) m) := Lib.hid (by rw [hr.out, atI, if_pos (by simp; omega)]; rfl)
    clear hr hl
    generalize zs.getD k 0 = z at *
    go_enter Tryd.func20, Tryd.ntmps20
    go_wp2_with fail
    refine (around_any _ _ _ f1 f2 hm hm2 r Hr).mono ?_
    rintro e w' ⟨rfl, rfl⟩
    go_wp2_with fail
    go_ret
    exact Ret.mk
  · have Hr : Hid ((r : Int) = 0) := Lib.hid (by rw [hr.out, atI, if_neg (by simp; omega)])
    clear hr hl
    go_enter Tryd.func20, Tryd.ntmps20
    go_wp2_with fail
    go_ret
    exact Ret.int Hr.out.symm

theorem extra_cell (k : Nat) (h : k < 8) : ∃ x : ByteArray, ([.string ⟨#[63]⟩, .string ⟨#[62]⟩, .string ⟨#[9]⟩, .string ⟨#[195, 169]⟩, .string ⟨#[95]⟩, .string ⟨#[33]⟩, .string ⟨#[97, 97, 97, 97, 97, 97, 97, 97, 97, 97, 97, 97, 97, 97, 97, 97, 97]⟩, .string ⟨#[49, 50, 51, 52, 53, 54, 55, 56, 57, 48, 49, 50, 51, 52, 53, 54, 55]⟩] : List Value)[k]? = some (.string x) ∧ x.size ≤ 17 := by
  match k, h with
  | 0, _ => exact ⟨_, rfl, by decide⟩
  | 1, _ => exact ⟨_, rfl, by decide⟩
  | 2, _ => exact ⟨_, rfl, by decide⟩
  | 3, _ => exact ⟨_, rfl, by decide⟩
  | 4, _ => exact ⟨_, rfl, by decide⟩
  | 5, _ => exact ⟨_, rfl, by decide⟩
  | 6, _ => exact ⟨_, rfl, by decide⟩
  | 7, _ => exact ⟨_, rfl, by decide⟩
  | k + 8, h => omega

set_option maxHeartbeats 2000000 in
set_option maxRecDepth 100000 in
theorem sample_any (A : Option Addr) (n c : Nat) (zs : List Int) (w : World) (h1 : Rd w w.heap.size 1 A n (intCells zs)) (hf : Fits zs) :
    Calls Tryd.prog 9 #[.slice A n c] w (SomeStr 5000 w) := by
  go_enter Tryd.func9, Tryd.ntmps9
  go_wp2_with fail
  go_loopw [3, 4] (fun v x wr => ∃ (j : Nat) (s : ByteArray), j ≤ 61 ∧ x = .int .i64 j ∧ v = .string s ∧ s.size ≤ 50 * j ∧ Below w.heap.size w wr) (fun _ x _ => 62 - (intOf x).toNat)
  case atStart => exact ⟨0, ByteArray.empty, by omega, rfl, rfl, by simp, Below.refl _ _⟩
  case round =>
    obtain ⟨j, s, hj, rfl, rfl, hs, hb⟩ := hrel
    have hsz := hb.size
    by_cases hlt : j + 1 < n ∧ j < 60
    · obtain ⟨hl1, hl2⟩ := hlt
      obtain ⟨b, o, rfl, hbb, x1⟩ := (h1.below hb).int (show j < n by omega)
      obtain ⟨f1, f2⟩ := h1.fits hf (show j < n by omega)
      obtain ⟨g1, g2⟩ := h1.fits hf hl1
      have x2 : wr.cell? ⟨b, o + (j + 1), none⟩ = some (.int .i64 (zs.getD (j + 1) 0)) := by
        obtain ⟨b', o', e, _, x2⟩ := (h1.below hb).int hl1
        injection e with e
        injection e with e1 e2
        subst e1 e2
        exact x2
      generalize zs.getD j 0 = z1 at *
      generalize zs.getD (j + 1) 0 = z2 at *
      obtain ⟨k1, hk1, hk1'⟩ := around_nat z1 1000000 (by omega)
      obtain ⟨k2, hk2, hk2'⟩ := around_nat z2 1000000 (by omega)
      obtain ⟨k3, hk3, hk3'⟩ := around_nat z1 97 (by omega)
      obtain ⟨k4, hk4, hk4'⟩ := around_nat z2 8 (by omega)
      have K1 := Lib.hid hk1
      have K2 := Lib.hid hk2
      have K3 := Lib.hid hk3
      have K4 := Lib.hid hk4
      clear hk1 hk2 hk3 hk4
      have p1 := pieceB_len k1
      have p2 := gapB_len k2 0
      have i1 : (0 : Int) ≤ (j : Int) := by omega
      have i2 : (j : Int) + 1 < (n : Int) := by omega
      have i3 : (j : Int) < (n : Int) := by omega
      go_wp2_with fail
      have v1 : IntKind.i64.wrap ((j : Int) + 1) = (j : Int) + 1 := IntWalk.i64_in _ (by omega)
      have v2 : (0 : Int) ≤ (j : Int) + 1 := by omega
      have v3 : ((j : Int) + 1).toNat = j + 1 := by omega
      have a1 : ¬ 9223372036854775807 < s.size + (gapB k2 0).length := by omega
      have a2 : ¬ 9223372036854775807 < s.size + (gapB k2 0).length + (pieceB k1).length := by omega
      go_region_held3 (fun w' => w'.cell? ⟨b, o + j, none⟩ = some (.int .i64 z1) ∧ w'.cell? ⟨b, o + (j + 1), none⟩ = some (.int .i64 z2))
        (first | exact ⟨y3, y4⟩ | exact ⟨y1, y2⟩ | go_keep)
        (first | (go_at_call 19; refine (gap_any _ _ _ g1 g2 k2 K2 hk2').mono ?_; rintro e w1 ⟨rfl, hb1⟩; have hq1 : wr.heap.size ≤ w1.heap.size := hb1.size; have y1 := (hb1.cell (p := ⟨b, o + j, none⟩) (by simp; omega)).trans (by assumption); have y2 := (hb1.cell (p := ⟨b, o + (j + 1), none⟩) (by simp; omega)).trans (by assumption)) | (go_at_call 29; refine (piece_any _ _ f1 f2 k1 K1 hk1').mono ?_; rintro e w2 ⟨rfl, hb2⟩; have hq2 : w1.heap.size ≤ w2.heap.size := hb2.size; have y3 := (hb2.cell (p := ⟨b, o + j, none⟩) (by simp; omega)).trans (by assumption); have y4 := (hb2.cell (p := ⟨b, o + (j + 1), none⟩) (by simp; omega)).trans (by assumption)))
      have hb3 : Below w.heap.size w w2 := hb.drew.trans ((hb1.trans (hb2.mono hq1)).mono hsz)
      have hs2 : (s ++ ⟨(gapB k2 0).toArray⟩ ++ ⟨(pieceB k1).toArray⟩ : ByteArray).size ≤ s.size + 32 := by
        rw [ByteArray.size_append, ByteArray.size_append]
        show s.size + (gapB k2 0).length + (pieceB k1).length ≤ _
        omega
      generalize (s ++ ⟨(gapB k2 0).toArray⟩ ++ ⟨(pieceB k1).toArray⟩ : ByteArray) = s2 at *
      have hsz3 := hb3.size
      obtain ⟨x, cx0, cxl⟩ := extra_cell k4 hk4'
      obtain ⟨hcx, cx⟩ := List.getElem?_eq_some_iff.1 cx0
      clear cx0
      clear hb1 hb2 hq1 hq2 y1 y2 x1 x2 a1 a2 p1 p2 hb hsz
      go_wp2_with fail
      refine (around_any _ _ _ f1 f2 (by omega) (by omega) k3 K3).mono ?_
      rintro e w' ⟨rfl, rfl⟩
      have y5 : ∀ O, (w2.alloc O).cell? ⟨b, o + (j + 1), none⟩ = some (.int .i64 z2) := fun O => (World.cell?_alloc_lt w2 O ⟨b, o + (j + 1), none⟩ (by show b < _; omega)).trans y4
      by_cases h3 : k3 = 3
      · go_wp2_with fail
        refine (around_any _ _ _ g1 g2 (by omega) (by omega) k4 K4).mono ?_
        rintro e w' ⟨rfl, rfl⟩
        have a1 : ¬ 9223372036854775807 < s2.size + x.size := by omega
        go_wp2_with fail
        go_roundw
        case rel => exact ⟨j + 2, _, by omega, by go_num, rfl, by rw [ByteArray.size_append]; omega, hb3.alloc hsz3 _⟩
        case measure => simp [intOf]; omega
      · go_wp2_with fail
        go_roundw
        case rel => exact ⟨j + 2, _, by omega, by go_num, rfl, by omega, hb3⟩
        case measure => simp [intOf]; omega
    · have hd1 : j + 1 < n ∨ ¬ j + 1 < n := by omega
      rcases hd1 with hd1 | hd1
      all_goals
        first | (have b1 : decide ((j : Int) + 1 < (n : Int)) = true := by simp; omega) | (have b1 : decide ((j : Int) + 1 < (n : Int)) = false := by simp; omega)
        go_wp2_with fail
        obtain ⟨k5, hk5, hk5'⟩ := at_nat zs 0 4 (by omega)
        have K5 := Lib.hid hk5
        clear hk5
        refine (at_any _ _ _ _ 0 4 _ ((h1.below hb).more hsz) hf (by omega) (by omega) (by omega) k5 K5).mono ?_
        rintro e w' ⟨rfl, rfl⟩
        have a1 : ¬ 9223372036854775807 < s.size + 6 := by omega
        by_cases h5 : k5 = 1
        · have b5 : ((k5 : Int) == 1) = true := by simp; omega
          go_wp2_with fail
          go_ret
          exact ⟨_, rfl, by rw [ByteArray.size_append]; show s.size + 6 ≤ 5000; omega, hb⟩
        · have b5 : ((k5 : Int) == 1) = false := by simp; omega
          go_wp2_with fail
          go_ret
          exact ⟨_, rfl, by omega, hb⟩
end Go.Proofs.YtjjdfccbkohlcaaDoor
