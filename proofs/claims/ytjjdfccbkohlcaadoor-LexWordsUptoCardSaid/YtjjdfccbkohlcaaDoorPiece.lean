/- Piece: the text of a token. -/
import Derived.Test.YtjjdfccbkohlcaaDoorGen
namespace Go.Proofs.YtjjdfccbkohlcaaDoor
open Go.RowKit

def wordsL : List Lx.Bs := [[102], [120, 49], [99, 97, 115, 101], [80, 111, 105, 110, 116], [97, 86, 101, 114, 121, 76, 111, 110, 103, 78, 97, 109, 101, 49, 50, 51], [105, 102], [90, 57], [110, 111, 116]]
theorem words_cell (k : Nat) : ([.string ⟨#[102]⟩, .string ⟨#[120, 49]⟩, .string ⟨#[99, 97, 115, 101]⟩, .string ⟨#[80, 111, 105, 110, 116]⟩, .string ⟨#[97, 86, 101, 114, 121, 76, 111, 110, 103, 78, 97, 109, 101, 49, 50, 51]⟩, .string ⟨#[105, 102]⟩, .string ⟨#[90, 57]⟩, .string ⟨#[110, 111, 116]⟩] : List Value)[k % 8]? = some (str (wordsL.getD (k % 8) [])) := by
  have h : k % 8 < 8 := by omega
  generalize k % 8 = j at h
  match j, h with
  | 0, _ => rfl
  | 1, _ => rfl
  | 2, _ => rfl
  | 3, _ => rfl
  | 4, _ => rfl
  | 5, _ => rfl
  | 6, _ => rfl
  | 7, _ => rfl
  | j + 8, h => omega
def psignsL : List Lx.Bs := [[40], [41], [123], [125], [91], [93], [44], [58], [46], [61], [61, 61], [45, 62], [43], [45], [42], [47], [37], [60]]
theorem psigns_cell (k : Nat) : ([.string ⟨#[40]⟩, .string ⟨#[41]⟩, .string ⟨#[123]⟩, .string ⟨#[125]⟩, .string ⟨#[91]⟩, .string ⟨#[93]⟩, .string ⟨#[44]⟩, .string ⟨#[58]⟩, .string ⟨#[46]⟩, .string ⟨#[61]⟩, .string ⟨#[61, 61]⟩, .string ⟨#[45, 62]⟩, .string ⟨#[43]⟩, .string ⟨#[45]⟩, .string ⟨#[42]⟩, .string ⟨#[47]⟩, .string ⟨#[37]⟩, .string ⟨#[60]⟩] : List Value)[k % 18]? = some (str (psignsL.getD (k % 18) [])) := by
  have h : k % 18 < 18 := by omega
  generalize k % 18 = j at h
  match j, h with
  | 0, _ => rfl
  | 1, _ => rfl
  | 2, _ => rfl
  | 3, _ => rfl
  | 4, _ => rfl
  | 5, _ => rfl
  | 6, _ => rfl
  | 7, _ => rfl
  | 8, _ => rfl
  | 9, _ => rfl
  | 10, _ => rfl
  | 11, _ => rfl
  | 12, _ => rfl
  | 13, _ => rfl
  | 14, _ => rfl
  | 15, _ => rfl
  | 16, _ => rfl
  | 17, _ => rfl
  | j + 18, h => omega
def numsL : List Lx.Bs := [[48], [55], [52, 50], [49, 50, 51, 52, 53, 54, 55, 56, 57, 48, 49, 50, 51, 52, 53, 54]]
theorem nums_cell (k : Nat) : ([.string ⟨#[48]⟩, .string ⟨#[55]⟩, .string ⟨#[52, 50]⟩, .string ⟨#[49, 50, 51, 52, 53, 54, 55, 56, 57, 48, 49, 50, 51, 52, 53, 54]⟩] : List Value)[k % 4]? = some (str (numsL.getD (k % 4) [])) := by
  have h : k % 4 < 4 := by omega
  generalize k % 4 = j at h
  match j, h with
  | 0, _ => rfl
  | 1, _ => rfl
  | 2, _ => rfl
  | 3, _ => rfl
  | j + 4, h => omega
def pieceB (k : Nat) : Lx.Bs := if k % 5 = 0 ∨ k % 5 = 1 then wordsL.getD (k / 5 % 8) [] else if k % 5 = 2 then numsL.getD (k / 5 % 4) [] else psignsL.getD (k / 5 % 18) []

set_option maxHeartbeats 2000000 in
set_option maxRecDepth 100000 in
theorem piece_any (n : Int) (w : World) (h1 : -9223372036854775808 ≤ n) (h2 : n ≤ 9223372036854775807) (k : Nat) (hk : Hid ((k : Int) = aroundI n 1000000)) (hk2 : k < 1000000) :
    Calls Tryd.prog 29 #[.int .i64 n] w (RetB (str (pieceB k)) w) := by
  have hP : pieceB k = if k % 5 = 0 ∨ k % 5 = 1 then wordsL.getD (k / 5 % 8) [] else if k % 5 = 2 then numsL.getD (k / 5 % 4) [] else psignsL.getD (k / 5 % 18) [] := rfl
  have c1 := words_cell (k / 5)
  have c2 := psigns_cell (k / 5)
  have c3 := nums_cell (k / 5)
  unfold str at c1 c2 c3
  generalize wordsL.getD (k / 5 % 8) [] = g1 at *
  generalize psignsL.getD (k / 5 % 18) [] = g2 at *
  generalize numsL.getD (k / 5 % 4) [] = g3 at *
  have h5 : k % 5 = 0 ∨ k % 5 = 1 ∨ k % 5 = 2 ∨ 3 ≤ k % 5 := by omega
  have HP := Lib.hid hP
  clear hP
  rcases h5 with h5 | h5 | h5 | h5
  all_goals
    have H5 := Lib.hid h5
    first | (have b1 : ((k : Int) % 5 == 0) = true := by simp; omega) | (have b1 : ((k : Int) % 5 == 0) = false := by simp; omega)
    first | (have b2 : ((k : Int) % 5 == 1) = true := by simp; omega) | (have b2 : ((k : Int) % 5 == 1) = false := by simp; omega)
    first | (have b3 : ((k : Int) % 5 == 2) = true := by simp; omega) | (have b3 : ((k : Int) % 5 == 2) = false := by simp; omega)
    clear h5
    go_enter Tryd.func29, Tryd.ntmps29
    go_wp2_with fail
    refine (around_any _ _ _ h1 h2 (by omega) (by omega) k hk).mono ?_
    rintro e w' ⟨rfl, rfl⟩
    go_wp2_with fail
    all_goals go_ret
    all_goals have h5 := H5.out
  · exact RetB.str (by rw [HP.out, if_pos (.inl h5)]) (by go_grown)
  · exact RetB.str (by rw [HP.out, if_pos (.inr h5)]) (by go_grown)
  · exact RetB.str (by rw [HP.out, if_neg (by omega), if_pos h5]) (by go_grown)
  · exact RetB.str (by rw [HP.out, if_neg (by omega), if_neg (by omega)]) (by go_grown)
end Go.Proofs.YtjjdfccbkohlcaaDoor
