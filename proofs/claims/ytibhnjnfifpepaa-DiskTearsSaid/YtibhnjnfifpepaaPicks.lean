/- An argument '[]int' opened. -/
import Derived.Test.YtibhnjnfifpepaaOps
namespace Go.Proofs.Ytibhnjnfifpepaa
open Go.RowKit Go.WideShapes Go.ChangeShapes Go.ChangeAt

set_option maxRecDepth 100000 in
theorem open_picks {H : Type} {enc : TypeId × Value → H} {W : World} {base : Nat} {v : Value} {d : DataW H} {p : List MemPlace} (hv : Value.okWide Try.prog W .any base 36 v) (h : DataW.Trod enc Try.prog W 0 (fun _ => true) true 36 v d p) (hlt : ∀ x ∈ p, x.block < W.heap.size) :
    ∃ A n c zs, v = .slice A n c ∧ Rd W W.heap.size 1 A n (intCells zs) ∧ n ≤ 9223372036854775807 := by
  obtain ⟨a0, len, cap, rfl⟩ := okWide_slice Try.underlying36 hv
  obtain ⟨fuel, hf⟩ := h
  obtain ⟨A, n, c, zs, e, hr, hn⟩ := open_nums_trod (fun _ => rfl) hf (B := W.heap.size) hlt
  refine ⟨A, n, c, zs, ?_, hr, hn⟩
  simp [Value.cells] at e
  obtain ⟨rfl, rfl, rfl⟩ := e
  rfl
end Go.Proofs.Ytibhnjnfifpepaa
