/- What follows from conditions; fine selections: the plain law. -/
import Derived.Test.YtflfachkoffiiaaSorted
import Derived.Test.YtflfachkoffiiaaRefValid
namespace Go.Proofs.Ytflfachkoffiiaa
open Go.RowKit

/-- what follows from conditions -/
inductive Der (ms : List Bs) : Bs → Prop
  | fact {m : Bs} : m ∈ ms → cutB m = none → Der ms m
  | rule {m a b : Bs} : m ∈ ms → cutB m = some (a, b) → Der ms a → Der ms b

theorem Der.mono {ms ms' : List Bs} (h : ∀ m ∈ ms, m ∈ ms') {s : Bs} (hd : Der ms s) : Der ms' s := by
  induction hd with
  | fact hm hc => exact .fact (h _ hm) hc
  | rule hm hc _ ih => exact .rule (h _ hm) hc ih

/-- one condition of the reference's round -/
def addB (out : List Bs) (m : Bs) : List Bs := match cutB m with
  | some (a, b) => if out.contains a && !out.contains b then out ++ [b] else out
  | none => if out.contains m then out else out ++ [m]
def headB (m : Bs) : Bs := match cutB m with
  | some (_, b) => b
  | none => m
def roundsB (ms : List Bs) : Nat → List Bs
  | 0 => []
  | k + 1 => ms.foldl addB (roundsB ms k)
def followsB (ms : List Bs) : List Bs := roundsB ms (ms.length + 1)

theorem addB_cases (out : List Bs) (m : Bs) : addB out m = out ∨ (addB out m = out ++ [headB m] ∧ headB m ∉ out) := by
  unfold addB headB
  cases h : cutB m with
  | none =>
    dsimp only
    cases hc : out.contains m
    · exact .inr ⟨rfl, fun hm => by rw [List.contains_iff_mem.2 hm] at hc; cases hc⟩
    · exact .inl rfl
  | some p =>
    obtain ⟨a, b⟩ := p
    dsimp only
    cases hc : out.contains b
    · cases ha : out.contains a
      · exact .inl rfl
      · exact .inr ⟨rfl, fun hm => by rw [List.contains_iff_mem.2 hm] at hc; cases hc⟩
    · refine .inl ?_
      rw [Bool.not_true, Bool.and_false]; rfl
theorem addB_len (out : List Bs) (m : Bs) : out.length ≤ (addB out m).length := by
  rcases addB_cases out m with h | ⟨h, _⟩ <;> rw [h]
  · exact Nat.le_refl _
  · simp
theorem addB_fix {out : List Bs} {m : Bs} (h : (addB out m).length ≤ out.length) : addB out m = out := by
  rcases addB_cases out m with h1 | ⟨h1, _⟩
  · exact h1
  · rw [h1, List.length_append, List.length_singleton] at h; omega
theorem fold_len (l : List Bs) : ∀ out : List Bs, out.length ≤ (l.foldl addB out).length := by
  induction l with
  | nil => intro out; exact Nat.le_refl _
  | cons m l ih => intro out; exact Nat.le_trans (addB_len out m) (ih _)
theorem fold_fix (l : List Bs) : ∀ out : List Bs, (l.foldl addB out).length ≤ out.length → l.foldl addB out = out ∧ ∀ m ∈ l, addB out m = out := by
  induction l with
  | nil => intro out _; exact ⟨rfl, fun m hm => by cases hm⟩
  | cons m l ih =>
    intro out h
    have h1 : addB out m = out := addB_fix (Nat.le_trans (fold_len l (addB out m)) h)
    rw [List.foldl_cons, h1] at h ⊢
    obtain ⟨h2, h3⟩ := ih out h
    refine ⟨h2, fun x hx => ?_⟩
    rcases List.mem_cons.1 hx with rfl | hx
    · exact h1
    · exact h3 x hx
theorem fold_sound {ms : List Bs} (l : List Bs) : ∀ out : List Bs, (∀ m ∈ l, m ∈ ms) → (∀ s ∈ out, Der ms s) → ∀ s ∈ l.foldl addB out, Der ms s := by
  induction l with
  | nil => intro out _ h; exact h
  | cons m l ih =>
    intro out hl h
    refine ih _ (fun x hx => hl x (List.mem_cons_of_mem _ hx)) ?_
    have hm := hl m List.mem_cons_self
    intro s hs
    unfold addB at hs
    cases hc : cutB m with
    | none =>
      rw [hc] at hs
      dsimp only at hs
      split at hs
      · exact h s hs
      · rcases List.mem_append.1 hs with hs | hs
        · exact h s hs
        · rw [List.mem_singleton.1 hs]; exact .fact hm hc
    | some p =>
      obtain ⟨a, b⟩ := p
      rw [hc] at hs
      dsimp only at hs
      split at hs
      · rename_i hq
        rcases List.mem_append.1 hs with hs | hs
        · exact h s hs
        · rw [List.mem_singleton.1 hs]
          rw [Bool.and_eq_true] at hq
          exact .rule hm hc (h a (List.contains_iff_mem.1 hq.1))
      · exact h s hs
theorem fold_heads {hs : List Bs} (l : List Bs) : ∀ out : List Bs, (∀ m ∈ l, headB m ∈ hs) → out.Nodup → (∀ s ∈ out, s ∈ hs) → (l.foldl addB out).Nodup ∧ ∀ s ∈ l.foldl addB out, s ∈ hs := by
  induction l with
  | nil => intro out _ h1 h2; exact ⟨h1, h2⟩
  | cons m l ih =>
    intro out hl h1 h2
    have hm := hl m List.mem_cons_self
    refine ih _ (fun x hx => hl x (List.mem_cons_of_mem _ hx)) ?_ ?_
    · rcases addB_cases out m with h | ⟨h, hn⟩ <;> rw [h]
      · exact h1
      · rw [List.nodup_append]
        exact ⟨h1, by simp, fun a ha b hb e => hn (by rw [List.mem_singleton.1 hb] at e; rw [← e]; exact ha)⟩
    · rcases addB_cases out m with h | ⟨h, hn⟩ <;> rw [h]
      · exact h2
      · intro s hs
        rcases List.mem_append.1 hs with hs | hs
        · exact h2 s hs
        · rw [List.mem_singleton.1 hs]; exact hm
theorem nodup_len : ∀ (out hs : List Bs), out.Nodup → (∀ s ∈ out, s ∈ hs) → out.length ≤ hs.length := by
  intro out
  induction out with
  | nil => intro hs _ _; exact Nat.zero_le _
  | cons x out ih =>
    intro hs h1 h2
    obtain ⟨hx, h1⟩ := List.nodup_cons.1 h1
    have hm := h2 x List.mem_cons_self
    have := ih (hs.erase x) h1 (fun s hs' => (List.mem_erase_of_ne (fun e => hx (by rw [← e]; exact hs'))).2 (h2 s (List.mem_cons_of_mem _ hs')))
    rw [List.length_erase_of_mem hm] at this
    have := List.length_pos_of_mem hm
    rw [List.length_cons]; omega
theorem rounds_heads (ms : List Bs) : ∀ k, (roundsB ms k).Nodup ∧ ∀ s ∈ roundsB ms k, s ∈ ms.map headB := by
  intro k
  induction k with
  | zero => exact ⟨List.nodup_nil, fun s hs => by cases hs⟩
  | succ k ih => exact fold_heads ms _ (fun m hm => List.mem_map.2 ⟨m, hm, rfl⟩) ih.1 ih.2
/-- within a round -/
def midB (ms : List Bs) (r i : Nat) : List Bs := (ms.take i).foldl addB (roundsB ms r)
theorem mid_len (ms : List Bs) (r i : Nat) : (midB ms r i).length ≤ ms.length := by
  obtain ⟨h1, h2⟩ := rounds_heads ms r
  obtain ⟨h3, h4⟩ := fold_heads (ms.take i) _ (fun m hm => List.mem_map.2 ⟨m, List.mem_of_mem_take hm, rfl⟩) h1 h2
  have := nodup_len _ _ h3 h4
  rwa [List.length_map] at this
theorem mid_zero (ms : List Bs) (r : Nat) : midB ms r 0 = roundsB ms r := rfl
theorem mid_step {ms : List Bs} (r : Nat) {i : Nat} (h : i < ms.length) : midB ms r (i + 1) = addB (midB ms r i) ms[i] := by
  unfold midB
  rw [List.take_succ_eq_append_getElem h, List.foldl_append]; rfl
theorem mid_all {ms : List Bs} (r : Nat) {i : Nat} (h : ms.length ≤ i) : midB ms r i = roundsB ms (r + 1) := by
  unfold midB
  rw [List.take_of_length_le h]; rfl
theorem rounds_sound (ms : List Bs) : ∀ k, ∀ s ∈ roundsB ms k, Der ms s := by
  intro k
  induction k with
  | zero => intro s hs; cases hs
  | succ k ih => exact fold_sound ms _ (fun m hm => hm) ih
theorem rounds_grow (ms : List Bs) : ∀ k, k ≤ (roundsB ms k).length ∨ ms.foldl addB (roundsB ms k) = roundsB ms k := by
  intro k
  induction k with
  | zero => exact .inl (Nat.zero_le _)
  | succ k ih =>
    by_cases hf : (ms.foldl addB (roundsB ms k)).length ≤ (roundsB ms k).length
    · have := (fold_fix ms _ hf).1
      refine .inr ?_
      show ms.foldl addB (ms.foldl addB (roundsB ms k)) = ms.foldl addB (roundsB ms k)
      rw [this, this]
    · rcases ih with h | h
      · refine .inl ?_
        show k + 1 ≤ (ms.foldl addB (roundsB ms k)).length
        omega
      · rw [h] at hf; omega
theorem closed_of_fix {ms out : List Bs} (h : ∀ m ∈ ms, addB out m = out) {s : Bs} (hd : Der ms s) : s ∈ out := by
  induction hd with
  | fact hm hc =>
    have := h _ hm
    rw [addB, hc] at this
    dsimp only at this
    split at this
    · rename_i hq; exact List.contains_iff_mem.1 hq
    · have := congrArg List.length this; simp at this
  | @rule m a b hm hc _ ih =>
    have := h _ hm
    rw [addB, hc] at this
    dsimp only at this
    cases hb : out.contains b
    · rw [hb, List.contains_iff_mem.2 ih] at this
      have := congrArg List.length this; simp at this
    · exact List.contains_iff_mem.1 hb
theorem mem_follows (ms : List Bs) (s : Bs) : s ∈ followsB ms ↔ Der ms s := by
  refine ⟨rounds_sound ms _ s, fun hd => ?_⟩
  rcases rounds_grow ms (ms.length + 1) with h | h
  · obtain ⟨h1, h2⟩ := rounds_heads ms (ms.length + 1)
    have := nodup_len _ _ h1 h2
    rw [List.length_map] at this
    omega
  · exact closed_of_fix (fold_fix ms (roundsB ms (ms.length + 1)) (by rw [h]; exact Nat.le_refl _)).2 hd

/-- a clause of a list -/
def clOf (l : List ClV) (i : Int) : Option ClV := if 0 ≤ i then l[i.toNat]? else none
def mustOf (l : List ClV) (i : Int) : List Bs := match clOf l i with
  | some c => c.must
  | none => []
def mustsB (l : List ClV) (sel : List Int) : List Bs := sel.flatMap (mustOf l)
def FineP (l : List ClV) (sel : List Int) : Prop := ∀ i ∈ sel, ∀ c, clOf l i = some c → ∀ s ∈ c.nots, ¬ Der (mustsB l sel) s
open Classical in
noncomputable def fineB (l : List ClV) (sel : List Int) : Bool := decide (FineP l sel)
noncomputable def fineV (l : List ClV) (sel : List Int) : Bool := validB l && fineB l sel
theorem fineB_iff {l : List ClV} {sel : List Int} : fineB l sel = true ↔ FineP l sel := by unfold fineB; exact @decide_eq_true_iff _ (Classical.propDecidable _)
theorem clOf_in {l : List ClV} {i : Int} {c : ClV} (h : clOf l i = some c) : 0 ≤ i ∧ i < l.length := by
  unfold clOf at h
  split at h
  · have := (List.getElem?_eq_some_iff.1 h).1; omega
  · cases h
theorem musts_mono {l : List ClV} {a b : List Int} (h : ∀ i ∈ a, 0 ≤ i → i < l.length → i ∈ b) : ∀ m ∈ mustsB l a, m ∈ mustsB l b := by
  intro m hm
  obtain ⟨i, hi, hm⟩ := List.mem_flatMap.1 hm
  refine List.mem_flatMap.2 ⟨i, ?_, hm⟩
  unfold mustOf at hm
  cases hc : clOf l i with
  | none => rw [hc] at hm; cases hm
  | some c => obtain ⟨h1, h2⟩ := clOf_in hc; exact h i hi h1 h2
theorem FineP.mono {l : List ClV} {a b : List Int} (h : ∀ i ∈ a, 0 ≤ i → i < l.length → i ∈ b) (hf : FineP l b) : FineP l a := by
  intro i hi c hc s hs hd
  obtain ⟨h1, h2⟩ := clOf_in hc
  exact hf i (h i hi h1 h2) c hc s hs (hd.mono (musts_mono h))
theorem fineB_same {l : List ClV} {a b : List Int} (h : ∀ i : Int, 0 ≤ i → i < l.length → (i ∈ a ↔ i ∈ b)) : fineB l a = fineB l b := by
  rw [Bool.eq_iff_iff, fineB_iff, fineB_iff]
  exact ⟨fun hf => hf.mono (fun i hi h1 h2 => (h i h1 h2).2 hi), fun hf => hf.mono (fun i hi h1 h2 => (h i h1 h2).1 hi)⟩
theorem musts_len {l : List ClV} (h : ∀ c ∈ l, c.must.length ≤ 8) : ∀ sel : List Int, (mustsB l sel).length ≤ 8 * sel.length := by
  intro sel
  induction sel with
  | nil => exact Nat.le_refl _
  | cons i sel ih =>
    have : (mustOf l i).length ≤ 8 := by
      unfold mustOf
      cases hc : clOf l i with
      | none => exact Nat.zero_le _
      | some c =>
        unfold clOf at hc
        split at hc
        · exact h c (List.mem_of_getElem? hc)
        · cases hc
    rw [mustsB, List.flatMap_cons, List.length_append, List.length_cons]
    have e : sel.flatMap (mustOf l) = mustsB l sel := rfl
    rw [e]; omega
end Go.Proofs.Ytflfachkoffiiaa
