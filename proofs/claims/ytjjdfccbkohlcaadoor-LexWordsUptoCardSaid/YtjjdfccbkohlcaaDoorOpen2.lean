/- An argument '[]string', opened; with a bound on its letters. -/
import Derived.Test.YtjjdfccbkohlcaaDoorOpen
import Derived.Test.YtjjdfccbkohlcaaDoorBulk
import Derived.SliceStrings
namespace Go.Proofs.YtjjdfccbkohlcaaDoor
open Go.RowKit Go.WideShapes Go.ChangeShapes Go.ChangeAt

section
variable {H : Type} {enc : TypeId × Value → H}
theorem open_strs {W : World} {base : Nat} {v : Value} {d : DataW H} {p : List MemPlace} (hv : Value.okWide Tryd.prog W .any base 26 v) (h : DataW.Trod enc Tryd.prog W 0 (fun _ => true) true 26 v d p) (hlt : ∀ x ∈ p, x.block < W.heap.size) :
    ∃ A n c, ∃ ss : List Lx.Bs, v = .slice A n c ∧ Rd W W.heap.size 1 A n (strCells ss) ∧ n ≤ 9223372036854775807 ∧ (∀ x ∈ ss, x.length ≤ Rows.uptoBulk d) := by
  obtain ⟨a0, len, cap, rfl⟩ := okWide_slice Tryd.underlying26 hv
  obtain ⟨fuel, hf⟩ := h
  rcases open_strings Tryd.underlying26 Tryd.underlying9 (by kernel_rfl) hf with ⟨hcs, hx⟩ | ⟨a, len', cap', ss, hcs, _, hl, hm, hz, hx, hcell, hwz⟩
  · simp [Value.cells] at hcs
    obtain ⟨rfl, rfl, rfl⟩ := hcs
    exact ⟨none, 0, 0, [], rfl, Rd.nil, by omega, fun z hz => by cases hz⟩
  · simp [Value.cells] at hcs
    obtain ⟨rfl, rfl, rfl⟩ := hcs
    simp only [if_true] at hz
    simp only [Prod.mk.injEq] at hx
    unfold maxLen at hm
    refine ⟨some a, len, cap, (ss.take len).map (·.data.toList), rfl, ⟨by simp [strCells]; omega, fun hn => ?_⟩, by omega, fun x hx' => ?_⟩
    · obtain ⟨b, off, spot⟩ := a
      have hspot : spot = none := by simpa [Addr.add] using World.cell?_spot (hcell 0 (by omega))
      subst hspot
      refine ⟨b, off, rfl, hlt (.cell b off) (by rw [hx.2]; exact MemPlace.mem_row.2 ⟨0, by omega, by simp⟩), fun j u hu => ?_⟩
      simp only [strCells, List.map_take, List.getElem?_take, List.getElem?_map] at hu
      split at hu
      · rename_i hj
        have := hcell j (by omega)
        rw [← add_plain]
        rw [this]
        rw [List.getElem?_eq_getElem (by omega)] at hu
        rw [List.getD_eq_getElem?_getD, List.getElem?_eq_getElem (by omega)]
        exact hu
      · cases hu
    · obtain ⟨y, hy, rfl⟩ := List.mem_map.1 hx'
      rw [hx.1]
      have h1 := bulks.slice_elems (H := H) (Go.ChangeShapes.strs (ss.take len)) (Go.ChangeShapes.strs (ss.drop len))
      have h2 := bulks.part_le (H := H) (d := .lit (.string y.data.toList)) (l := Go.ChangeShapes.strs (ss.take len)) (List.mem_map.2 ⟨y, hy, rfl⟩)
      rw [bulks.string_eq] at h2
      omega
end
end Go.Proofs.YtjjdfccbkohlcaaDoor
