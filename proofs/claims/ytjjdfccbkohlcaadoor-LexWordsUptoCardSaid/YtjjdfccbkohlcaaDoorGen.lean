/- The generators: Around, At, Gap, Piece, Sample. -/
import Derived.Test.YtjjdfccbkohlcaaDoorPlain
namespace Go.Proofs.YtjjdfccbkohlcaaDoor
open Go.RowKit

def aroundI (n m : Int) : Int := (if n < 0 then -(n + 1) else n) % m
theorem around_nat (n : Int) (m : Nat) (hm : 0 < m) : ∃ r : Nat, (r : Int) = aroundI n m ∧ r < m := by
  have h1 := Int.emod_nonneg (if n < 0 then -(n + 1) else n) (b := (m : Int)) (by omega)
  have h2 := Int.emod_lt_of_pos (if n < 0 then -(n + 1) else n) (b := (m : Int)) (by omega)
  exact ⟨(aroundI n m).toNat, by unfold aroundI; omega, by unfold aroundI; omega⟩

theorem around_neg {n m : Int} (h : n < 0) : -(n + 1).tmod m = aroundI n m := by rw [aroundI, if_pos h, ← Int.neg_tmod, Int.tmod_eq_emod_of_nonneg (by omega)]
theorem around_pos {n m : Int} (h : 0 ≤ n) : aroundI n m = n % m := by rw [aroundI, if_neg (by omega)]
theorem around_any (n m : Int) (w : World) (h1 : -9223372036854775808 ≤ n) (h2 : n ≤ 9223372036854775807) (hm : 0 < m) (hm2 : m ≤ 4611686018427387904) (r : Nat) (hr : Hid ((r : Int) = aroundI n m)) :
    Calls Tryd.prog 10 #[.int .i64 n, .int .i64 m] w (Ret (.int .i64 (r : Int)) w) := by
  by_cases h0 : n < 0
  · go_enter Tryd.func10, Tryd.ntmps10
    go_wp2_with fail
    go_ret
    exact Ret.int (by rw [hr.out, ← around_neg h0])
  · go_enter Tryd.func10, Tryd.ntmps10
    go_wp2_with fail
    go_ret
    exact Ret.int (by rw [hr.out, around_pos (by omega)])

def intCells (zs : List Int) : List Value := zs.map (Value.int .i64)
def Fits (zs : List Int) : Prop := ∀ z ∈ zs, -9223372036854775808 ≤ z ∧ z ≤ 9223372036854775807
/-- element k of a slice of numbers -/
theorem Rd.int {w : World} {B : Nat} {A : Option Addr} {n : Nat} {zs : List Int} (h : Rd w B 1 A n (intCells zs)) {k : Nat} (hk : k < n) :
    ∃ b off, A = some ⟨b, off, none⟩ ∧ b < B ∧ w.cell? ⟨b, off + k, none⟩ = some (.int .i64 (zs.getD k 0)) := by
  obtain ⟨b, off, e, hb, hc⟩ := h.2 (by omega)
  have hl : k < zs.length := by have := h.1; simp [intCells] at this; omega
  exact ⟨b, off, e, hb, hc _ _ (by simp [intCells, hl])⟩
theorem Rd.fits {w : World} {B : Nat} {A : Option Addr} {n : Nat} {zs : List Int} (h : Rd w B 1 A n (intCells zs)) (hf : Fits zs) {k : Nat} (hk : k < n) : -9223372036854775808 ≤ zs.getD k 0 ∧ zs.getD k 0 ≤ 9223372036854775807 := by
  have hl : k < zs.length := by have := h.1; simp [intCells] at this; omega
  have := hf zs[k] (List.getElem_mem hl)
  simpa [hl] using this

def gapL : List Lx.Bs := [[], [32], [10], [32, 32], [35, 32, 97, 32, 40, 98, 10], [32, 35, 10, 32], [10, 10], [35, 255, 35, 32, 49, 10]]
def gapRaw (k : Nat) : Lx.Bs := if k % 3 = 0 then gapL.getD (k % 8) [] ++ gapL.getD (k / 8 % 8) [] else gapL.getD (k % 8) []
def gapB (k : Nat) (some : Int) : Lx.Bs := if gapRaw k = [] ∧ some ≠ 0 then [32] else gapRaw k
theorem getD_some {α : Type} {l : List α} {k : Nat} (d : α) (h : k < l.length) : l[k]? = some (l.getD k d) := by simp [h]
theorem gap_cell (k : Nat) : ([.string ⟨#[]⟩, .string ⟨#[32]⟩, .string ⟨#[10]⟩, .string ⟨#[32, 32]⟩, .string ⟨#[35, 32, 97, 32, 40, 98, 10]⟩, .string ⟨#[32, 35, 10, 32]⟩, .string ⟨#[10, 10]⟩, .string ⟨#[35, 255, 35, 32, 49, 10]⟩] : List Value)[k % 8]? = some (str (gapL.getD (k % 8) [])) := by
  have h : k % 8 < 8 := by omega
  generalize k % 8 = j at h
  match j, h with
  | 0, _ => rfl
  | 1, _ => rfl
  | 2, _ => rfl
  | 3, _ => rfl
  | 4, _ => rfl
  | 5, _ => rfl
  | 6, _ => rfl
  | 7, _ => rfl
  | j + 8, h => omega
theorem str_empty (l : Lx.Bs) : (⟨l.toArray⟩ : ByteArray).toList.isEmpty = decide (l = []) := by
  rw [Lib.toList_data]; cases l <;> simp

theorem bytes_append (a b : Lx.Bs) : (⟨a.toArray⟩ : ByteArray) ++ ⟨b.toArray⟩ = ⟨(a ++ b).toArray⟩ := by
  apply ByteArray.ext
  simp
theorem RetB.str {a b : Lx.Bs} {w w' : World} (h : a = b) (hb : Below w.heap.size w w') : RetB (str b) w (.returned (.string ⟨a.toArray⟩)) w' := by rw [h]; exact ⟨rfl, hb⟩
theorem gapL_len (k : Nat) : (gapL.getD k []).length ≤ 8 := by
  match k with
  | 0 => decide
  | 1 => decide
  | 2 => decide
  | 3 => decide
  | 4 => decide
  | 5 => decide
  | 6 => decide
  | 7 => decide
  | k + 8 => simp [gapL]

set_option maxRecDepth 100000 in
theorem gap_any (n sm : Int) (w : World) (h1 : -9223372036854775808 ≤ n) (h2 : n ≤ 9223372036854775807) (k : Nat) (hk : Hid ((k : Int) = aroundI n 1000000)) (hk2 : k < 1000000) :
    Calls Tryd.prog 19 #[.int .i64 n, .int .i64 sm] w (RetB (str (gapB k sm)) w) := by
  go_enter Tryd.func19, Tryd.ntmps19
  go_wp2_with fail
  refine (around_any _ _ _ h1 h2 (by omega) (by omega) k hk).mono ?_
  rintro e w' ⟨rfl, rfl⟩
  have c1 := gap_cell k
  have c2 := gap_cell (k / 8)
  have l1 := gapL_len (k % 8)
  have l2 := gapL_len (k / 8 % 8)
  have hG : gapB k sm = if gapRaw k = [] ∧ sm ≠ 0 then [32] else gapRaw k := rfl
  unfold gapRaw at hG
  unfold str at c1 c2
  generalize gapL.getD (k % 8) [] = g1 at *
  generalize gapL.getD (k / 8 % 8) [] = g2 at *
  by_cases h3 : k % 3 = 0
  · rw [if_pos h3] at hG
    have HG := Lib.hid hG
    clear hG
    go_wp2_with fail
    all_goals go_ret
    · have he : (⟨g1.toArray⟩ ++ ⟨g2.toArray⟩ : ByteArray).toList = [] := by assumption
      rw [bytes_append, Lib.toList_data] at he
      have hs : (sm != 0) = true := by assumption
      exact RetB.str (a := [32]) (by rw [HG.out, if_pos ⟨he, by simpa using hs⟩]) (by go_grown)
    · have he : (⟨g1.toArray⟩ ++ ⟨g2.toArray⟩ : ByteArray).toList = [] := by assumption
      have hs : (sm != 0) = false := by assumption
      rw [bytes_append]
      exact RetB.str (by rw [HG.out, if_neg (fun h => h.2 (by simpa using hs))]) (by go_grown)
    · have he : ¬ (⟨g1.toArray⟩ ++ ⟨g2.toArray⟩ : ByteArray).toList = [] := by assumption
      rw [bytes_append, Lib.toList_data] at he
      rw [bytes_append]
      exact RetB.str (by rw [HG.out, if_neg (fun h => he h.1)]) (by go_grown)
  · rw [if_neg h3] at hG
    have HG := Lib.hid hG
    clear hG
    go_wp2_with fail
    all_goals go_ret
    · have he : g1 = [] := by assumption
      have hs : (sm != 0) = true := by assumption
      exact RetB.str (a := [32]) (by rw [HG.out, if_pos ⟨he, by simpa using hs⟩]) (by go_grown)
    · have hs : (sm != 0) = false := by assumption
      have he : g1 = [] := by assumption
      exact RetB.str (a := []) (by rw [HG.out, if_neg (fun h => h.2 (by simpa using hs)), he]) (by go_grown)
    · have he : ¬ g1 = [] := by assumption
      exact RetB.str (by rw [HG.out, if_neg (fun h => he h.1)]) (by go_grown)
end Go.Proofs.YtjjdfccbkohlcaaDoor
