/- Pieces: at most thirty texts of tokens. -/
import Derived.Test.YtjjdfccbkohlcaaDoorLives
import Derived.Test.YtjjdfccbkohlcaaDoorSample
namespace Go.Proofs.YtjjdfccbkohlcaaDoor
open Go.RowKit

def pieceOf (z : Int) : Lx.Bs := pieceB (aroundI z 1000000).toNat
def pieces (zs : List Int) : List Lx.Bs := (zs.take 30).map pieceOf
theorem pieces_step {zs : List Int} {k : Nat} (h : k < zs.length) (h2 : k < 30) : (pieces zs).take (k + 1) = (pieces zs).take k ++ [pieceOf (zs.getD k 0)] := by
  have hl : k < (pieces zs).length := by simp [pieces]; omega
  rw [take_snoc hl]
  congr 2
  simp [pieces, h]

set_option maxHeartbeats 2000000 in
set_option maxRecDepth 100000 in
theorem pieces_any (A : Option Addr) (n c : Nat) (zs : List Int) (w : World) (h1 : Rd w w.heap.size 1 A n (intCells zs)) (hf : Fits zs) :
    Calls Tryd.prog 17 #[.slice A n c] w (OwnPost w.heap.size 9 1 (pieces zs).length (strCells (pieces zs)) w) := by
  obtain ⟨i0, hi, hz0, hz1, hz2⟩ := info_parts info9
  have hl : zs.length = n := by have := h1.1; simpa [intCells] using this
  have Hl := Lib.hid hl
  clear hl
  go_enter Tryd.func17, Tryd.ntmps17
  go_wp2_with fail
  go_loopw [3, 4] (fun v x wr => ∃ k : Nat, k ≤ n ∧ k ≤ 30 ∧ x = .int .i64 k ∧ wr.ownsRow w.heap.size 9 1 v k (strCells ((pieces zs).take k)) ∧ Below w.heap.size w wr) (fun _ x _ => 31 - (intOf x).toNat)
  case atStart => exact ⟨0, by omega, by omega, rfl, World.ownsRow_nil _ _ _ _, Below.refl _ _⟩
  case round =>
    obtain ⟨k, hk, hk3, rfl, hown, hb⟩ := hrel
    have hsz := hb.size
    by_cases hlt : k < n ∧ k < 30
    · obtain ⟨hl1, hl2⟩ := hlt
      obtain ⟨b, o, rfl, hbb, x1⟩ := (h1.below hb).int hl1
      obtain ⟨f1, f2⟩ := h1.fits hf hl1
      have Hts := Lib.hid (pieces_step (zs := zs) (k := k) (by have := Hl.out; omega) hl2)
      obtain ⟨j, hj⟩ : ∃ j, j = pieceOf (zs.getD k 0) := ⟨_, rfl⟩
      obtain ⟨k1, hk1, hk1'⟩ := around_nat (zs.getD k 0) 1000000 (by omega)
      have hk1x : aroundI (zs.getD k 0) 1000000 = (k1 : Int) := hk1.symm
      have hjk : j = pieceB k1 := by rw [hj, pieceOf, hk1x, Int.toNat_natCast]
      clear hk1x
      have Hj := Lib.hid hj
      have K1 := Lib.hid hk1
      clear hj hk1
      generalize zs.getD k 0 = z1 at *
      go_wp2_with fail
      refine (piece_any _ _ f1 f2 k1 K1 hk1').mono ?_
      rintro e w1 ⟨rfl, hb1⟩
      have hown := own_below hown hb1
      have hb := below_go hb hb1
      have hsz := hb.size
      rw [← hjk]
      unfold str
      clear hb1 x1 hjk
      go_wp2_with (at_builtin; refine wpList_append_own _ rfl _ _ 26 rfl w.heap.size 9 i0 _ 1 16 Tryd.underlying26 hi hz0 hz1 hz2 rfl (by decide) _ _ _ rfl (hown.alloc _) ⟨w1.heap.size, 0, none⟩ 1 1 [str j] rfl rfl ?c1 ?c2 ?c3 ?c4 ?c5 ?_)
      case c1 => exact cells_one _ _ _
      case c2 => intro u hu; simp at hu; subst hu; rfl
      case c3 => unfold maxLen; omega
      case c4 => omega
      case c5 => simp; omega
      intro v' w2 hown1 hgrow _
      have hb3 : Below w.heap.size w w2 := (hb.alloc hsz _).grown hgrow (by simp; omega) (fun g hg => (hown.lt g hg).1)
      clear hgrow hown
      go_wp2_with fail
      go_roundw
      case rel =>
        refine ⟨k + 1, by omega, by omega, by go_num, ?_, hb3⟩
        rw [Hts.out, strCells_snoc, ← Hj.out]
        exact hown1
      case measure => simp [intOf]; omega
    · have hd1 : decide ((k : Int) < (n : Int)) = true ∨ decide ((k : Int) < (n : Int)) = false := by cases decide ((k : Int) < (n : Int)) <;> simp
      have hpl : (pieces zs).length = k := by have := Hl.out; simp [pieces]; omega
      have hpt : (pieces zs).take k = pieces zs := List.take_of_length_le (by omega)
      rw [hpt] at hown
      have HP := Lib.hid hpl
      clear hpl hpt
      by_cases hn : k < n
      · obtain rfl : k = 30 := by omega
        go_wp2_with fail
        go_ret
        exact ⟨_, rfl, by rw [HP.out]; exact hown, hb⟩
      · go_wp2_with fail
        go_ret
        exact ⟨_, rfl, by rw [HP.out]; exact hown, hb⟩
end Go.Proofs.YtjjdfccbkohlcaaDoor
