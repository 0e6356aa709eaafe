/- The documented examples, computed. -/
import Derived.Test.YtflfachkoffiiaaCore
namespace Go.Proofs.Ytflfachkoffiiaa
open Go.RowKit

/-- the clause without its places -/
def ClV.bare (c : ClV) : ClV := ⟨c.name, none, 0, 0, c.must, none, 0, 0, c.nots⟩
def okD (l : List ClV) (sel : List Int) (i : Int) : Bool := match clOf l i with
  | some c => c.nots.all fun s => !(followsB (mustsB l sel)).contains s
  | none => true
def fineD (l : List ClV) (sel : List Int) : Bool := sel.all (okD l sel)
theorem fineD_eq (l : List ClV) (sel : List Int) : fineB l sel = fineD l sel := by
  rw [Bool.eq_iff_iff, fineB_iff, fineD, List.all_eq_true]
  constructor
  · intro h i hi
    unfold okD
    cases hc : clOf l i with
    | none => rfl
    | some c =>
      show (c.nots.all _) = true
      rw [List.all_eq_true]
      intro s hs
      have := h i hi c hc s hs
      rw [← mem_follows] at this
      simpa using this
  · intro h i hi c hc s hs
    have h1 := h i hi
    unfold okD at h1
    rw [hc] at h1
    have h2 := List.all_eq_true.1 h1 s hs
    rw [← mem_follows]
    simpa using h2
theorem clOf_bare (l : List ClV) (i : Int) : clOf (l.map ClV.bare) i = (clOf l i).map ClV.bare := by
  unfold clOf
  split
  · rw [List.getElem?_map]
  · rfl
theorem mustOf_bare (l : List ClV) : mustOf (l.map ClV.bare) = mustOf l := by
  funext i
  unfold mustOf
  rw [clOf_bare]
  cases clOf l i <;> rfl
theorem fineD_bare (l : List ClV) (sel : List Int) : fineD (l.map ClV.bare) sel = fineD l sel := by
  have hm : mustsB (l.map ClV.bare) sel = mustsB l sel := by unfold mustsB; rw [mustOf_bare]
  have ho : okD (l.map ClV.bare) sel = okD l sel := by
    funext i
    unfold okD
    rw [clOf_bare, hm]
    cases clOf l i <;> rfl
  unfold fineD
  rw [ho]
theorem valid_bare (l : List ClV) : validB (l.map ClV.bare) = validB l := by
  unfold validB
  rw [List.length_map, List.any_map]
  rfl
/-- the examples' clauses -/
def liveL : List ClV := [⟨[], none, 0, 0, [[111, 112, 101, 110]], none, 0, 0, []⟩, ⟨[], none, 0, 0, [[111, 112, 101, 110, 62, 115, 104, 97, 114, 101], [115, 104, 97, 114, 101, 62, 110, 97, 109, 101]], none, 0, 0, []⟩,
  ⟨[], none, 0, 0, [], none, 0, 0, [[110, 97, 109, 101]]⟩, ⟨[], none, 0, 0, [], none, 0, 0, [[115, 101, 108, 108]]⟩, ⟨[], none, 0, 0, [[115, 101, 108, 108]], none, 0, 0, [[115, 101, 108, 108]]⟩]
section
variable {l : List ClV}
theorem live_fine (h : l.map ClV.bare = liveL) (x : List Int) : fineB l x = fineD liveL x := by rw [fineD_eq, ← h, fineD_bare]
theorem live_len (h : l.map ClV.bare = liveL) : l.length = 5 := by have := congrArg List.length h; simpa [liveL] using this
theorem live_valid (h : l.map ClV.bare = liveL) : validB l = true := by rw [← valid_bare, h]; decide
theorem live_core {all b : List Int} (h : l.map ClV.bare = liveL) (h1 : b.Sublist all) (h2 : fineD liveL b = false) (h3 : ∀ k, k < 2 ^ all.length → (fineD liveL (chosenL all k) || !lessB (chosenL all k) b) = true) : IsCore l all b := by
  refine ⟨h1, by rw [live_fine h]; exact h2, fun x hx hb => ?_⟩
  obtain ⟨k, hk, rfl⟩ := sub_chosen hx
  rw [live_fine h] at hb
  have := h3 k hk
  rw [hb, Bool.false_or] at this
  simpa using this
set_option maxRecDepth 100000 in
theorem live_a (h : l.map ClV.bare = liveL) : coreV l [0, 1, 2, 3] = [0, 1, 2] :=
  coreV_of (live_valid h) (by rw [live_len h]; decide) (by rw [live_len h, show sortedTo [0, 1, 2, 3] 5 = [0, 1, 2, 3] by decide]; exact live_core h (by decide) (by decide) (by decide))
set_option maxRecDepth 100000 in
theorem live_b (h : l.map ClV.bare = liveL) : coreV l [0, 1, 2, 3, 4] = [4] :=
  coreV_of (live_valid h) (by rw [live_len h]; decide) (by rw [live_len h, show sortedTo [0, 1, 2, 3, 4] 5 = [0, 1, 2, 3, 4] by decide]; exact live_core h (by decide) (by decide) (by decide))
def greatD (out : List Int) (i : Int) : List Int := if fineD liveL (sortedTo (out ++ [i]) 5) = true then sortedTo (out ++ [i]) 5 else out
set_option maxRecDepth 100000 in
theorem live_c (h : l.map ClV.bare = liveL) : greatV l [2, 1, 0, 4, 3] = [1, 2, 3] := by
  have : greatS l = greatD := by funext out i; unfold greatS greatD; rw [live_fine h, live_len h]
  rw [greatV, if_pos (live_valid h), greatL, this]
  decide
theorem live_f1 (h : l.map ClV.bare = liveL) : fineV l [0, 1] = true := by rw [fineV, live_valid h, live_fine h]; decide
theorem live_f2 (h : l.map ClV.bare = liveL) : fineV l [0, 2] = true := by rw [fineV, live_valid h, live_fine h]; decide
theorem live_f3 (h : l.map ClV.bare = liveL) : fineV l [0, 1, 2] = false := by rw [fineV, live_valid h, live_fine h]; decide
set_option maxRecDepth 100000 in
theorem live_k1 (h : l.map ClV.bare = liveL) : checkV l [0, 1, 2, 3] [0, 1, 2] = 0 := by
  unfold checkV
  rw [live_valid h, live_len h, if_pos rfl, if_pos (by decide), live_fine h, if_neg (by decide), if_pos]
  rw [show (fun i => fineB l (([0, 1, 2] : List Int).eraseIdx i)) = fun i => fineD liveL (([0, 1, 2] : List Int).eraseIdx i) from funext fun i => live_fine h _]
  decide
theorem live_k2 (h : l.map ClV.bare = liveL) : checkV l [0, 1, 2, 3] [4] = 27 := by
  unfold checkV
  rw [live_valid h, live_len h, if_pos rfl, if_neg (by decide)]
end
end Go.Proofs.Ytflfachkoffiiaa
