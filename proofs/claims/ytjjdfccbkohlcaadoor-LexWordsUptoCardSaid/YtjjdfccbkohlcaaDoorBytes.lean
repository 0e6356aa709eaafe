/- []byte(s), a store, and back to a string. -/
import Derived.Test.YtjjdfccbkohlcaaDoorUsual
import Derived.Lib.ConvBytes
import Derived.Lib.SlBytesRow
namespace Go.Proofs.YtjjdfccbkohlcaaDoor
open Go.RowKit

theorem to_bytes (s : ByteArray) (w : World) : ∃ W C, (convert 9 24 (.string s)).run Tryd.prog w = .ok (.slice (some ⟨w.heap.size, 0, none⟩) s.size C) W ∧ s.size ≤ C ∧ Below w.heap.size w W ∧ w.heap.size < W.heap.size ∧
    (∀ j, j < s.size → W.cell? ⟨w.heap.size, j, none⟩ = some (.int .u8 (s.data.toList.getD j 0).toNat)) ∧ (∀ j, j < s.size → W.frozen? ⟨w.heap.size, j, none⟩ = false) := by
  refine ⟨Lib.bytesWorld w 5 s, _, Lib.run_convert_string_bytes w 9 24 5 s Tryd.underlying9 Tryd.underlying24 Tryd.underlying5, grownCap_ge w _ _ _, ?_, by rw [Lib.bytesWorld_size]; omega, fun j hj => Lib.bytesWorld_cell w 5 s j hj, fun j hj => ?_⟩
  · exact ⟨rfl, rfl, rfl, by rw [Lib.bytesWorld_size]; omega, fun k hk => Lib.bytesWorld_at_old w 5 s k hk⟩
  · have hs : s.size ≤ (Lib.bytesCells w 5 s).size := by simp [Lib.bytesCells]
    unfold World.frozen?
    rw [Lib.bytesWorld_at_new]
    simp
    omega
theorem back (s : ByteArray) (W : World) (g r : Nat) (cc : Int) (C : Nat) (hr : r < s.size) (h0 : 0 ≤ cc) (h1 : cc ≤ 255)
    (hc : ∀ j, j < s.size → W.cell? ⟨g, j, none⟩ = some (.int .u8 (s.data.toList.getD j 0).toNat)) (n : Nat) (hn : n = s.size) :
    ∃ t : ByteArray, t.size = n ∧ ∀ W' : World, (∀ j, j < s.size → W'.cell? ⟨g, j, none⟩ = (W.setCell ⟨g, r, none⟩ (.int .u8 cc)).cell? ⟨g, j, none⟩) → (convert 24 9 (.slice (some ⟨g, 0, none⟩) n C)).run Tryd.prog W' = .ok (.string t) W' := by
  subst hn
  obtain ⟨t, hT⟩ : ∃ t : ByteArray, t.data = s.data.setIfInBounds r (UInt8.ofNat cc.toNat) := ⟨⟨_⟩, rfl⟩
  have ht : t.size = s.size := by show t.data.size = s.data.size; rw [hT]; simp
  refine ⟨t, ht, fun W' hW => ?_⟩
  rw [← ht]
  refine Lib.run_convert_whole _ 24 5 9 Tryd.underlying24 Tryd.underlying5 Tryd.underlying9 g 0 t ?_ C
  intro i hi
  have hi' : i < s.size := by rw [← ht]; exact hi
  rw [Nat.zero_add, hW i hi']
  have hb := at_byte t i hi
  rw [hT, Array.toList_setIfInBounds, List.getElem?_set] at hb
  have hl : s.data.toList.length = s.size := size_list s
  by_cases e : r = i
  · subst e
    rw [if_pos rfl, if_pos (by omega)] at hb
    rw [World.cell?_setCell_same _ _ _ (hc r hr), ← Option.some.inj hb]
    have : ((UInt8.ofNat cc.toNat).toNat : Int) = cc := by
      rw [UInt8.toNat_ofNat']
      omega
    rw [this]
  · rw [if_neg e] at hb
    rw [World.cell?_setCell_other _ _ _ _ (by simp; try exact e), hc i hi', List.getD_eq_getElem?_getD, hb]
    rfl
end Go.Proofs.YtjjdfccbkohlcaaDoor
