/- The plain laws of cores, greatest selections and sorted selections. -/
import Derived.Test.YtflfachkoffiiaaCore
import Derived.Test.YtflfachkoffiiaaRefGreat
namespace Go.Proofs.Ytflfachkoffiiaa
open Go.RowKit

section
variable {l : List ClV} {all b : List Int} {sel : List Int}
theorem best_exists (h : fineB l all = false) : ∀ bits, ∃ b, Best l all bits b := by
  intro bits
  induction bits with
  | zero => exact ⟨all, List.Sublist.refl _, h, fun j hj => absurd hj (by omega)⟩
  | succ bits ih =>
    obtain ⟨b, hb⟩ := ih
    cases h1 : lessB (chosenL all bits) b
    · exact ⟨b, hb.skip (.inl h1)⟩
    · cases h2 : fineB l (chosenL all bits)
      · exact ⟨_, hb.take h1 h2⟩
      · exact ⟨b, hb.skip (.inr h2)⟩
theorem core_is (hv : validB l = true) (h16 : (sortedTo sel l.length).length ≤ 16) (hf : fineB l sel = false) : IsCore l (sortedTo sel l.length) (coreV l sel) := by
  rw [← fine_sorted rfl sel] at hf
  obtain ⟨b, hb⟩ := best_exists hf (2 ^ (sortedTo sel l.length).length)
  rw [coreV_of hv h16 hb.done]
  exact hb.done
theorem IsCore.shorter (h : IsCore l all b) {x : List Int} (hx : x.Sublist all) (hlt : x.length < b.length) : fineB l x = true := by
  cases hf : fineB l x
  · have := h.least x hx hf
    unfold lessB at this
    rw [if_neg (by omega), decide_eq_false_iff_not] at this
    exact absurd hlt this
  · rfl
theorem fine_nil (l : List ClV) : fineB l [] = true := fineB_iff.2 (fun i hi => by cases hi)
theorem IsCore.ne (h : IsCore l all b) : 0 < b.length := by
  rcases Nat.eq_zero_or_pos b.length with h0 | h0
  · have := h.bad
    rw [List.eq_nil_of_length_eq_zero h0, fine_nil] at this
    cases this
  · exact h0
theorem IsCore.check (hv : validB l = true) (h : IsCore l (sortedTo sel l.length) b) : checkV l sel b = 0 := by
  have hr := (sortedTo_rising sel l.length).sublist h.sub
  unfold checkV
  rw [if_pos hv, if_pos, h.bad, if_neg (by simp), if_pos]
  · refine all_range (fun i hi => ?_)
    refine h.shorter ((List.eraseIdx_sublist b i).trans h.sub) ?_
    rw [List.length_eraseIdx, if_pos hi]; omega
  · refine all_range (fun i hi => ?_)
    unfold okAt
    rw [Bool.and_eq_true]
    constructor
    · rw [List.contains_iff_mem, List.getD_eq_getElem?_getD, List.getElem?_eq_getElem hi]
      exact h.sub.subset (List.getElem_mem hi)
    · rcases Nat.eq_zero_or_pos i with h0 | h0
      · rw [decide_eq_true h0]; rfl
      · rw [decide_eq_true (p := b.getD (i - 1) 0 < b.getD i 0), Bool.or_true]
        exact rising_get hr (by omega) hi
theorem sorted_sub {fs : List Int} (n : Nat) (h : ∀ x ∈ fs, x ∈ sel) : (sortedTo fs n).Sublist (sortedTo sel n) := by
  unfold sortedTo
  refine List.Sublist.map _ ?_
  have e : (List.range n).filter (fun (i : Nat) => fs.contains (i : Int)) = ((List.range n).filter (fun (i : Nat) => sel.contains (i : Int))).filter (fun (i : Nat) => fs.contains (i : Int)) := by
    rw [List.filter_filter]
    refine List.filter_congr (fun i _ => ?_)
    rw [Bool.eq_iff_iff, Bool.and_eq_true, List.contains_iff_mem, List.contains_iff_mem]
    exact ⟨fun hx => ⟨hx, h _ hx⟩, fun hx => hx.1⟩
  rw [e]
  exact List.filter_sublist
theorem nodup_len' : ∀ (out hs : List Int), out.Nodup → (∀ s ∈ out, s ∈ hs) → out.length ≤ hs.length := by
  intro out
  induction out with
  | nil => intro hs _ _; exact Nat.zero_le _
  | cons x out ih =>
    intro hs h1 h2
    obtain ⟨hx, h1⟩ := List.nodup_cons.1 h1
    have hm := h2 x List.mem_cons_self
    have := ih (hs.erase x) h1 (fun s hs' => (List.mem_erase_of_ne (fun e => hx (by rw [← e]; exact hs'))).2 (h2 s (List.mem_cons_of_mem _ hs')))
    rw [List.length_erase_of_mem hm] at this
    have := List.length_pos_of_mem hm
    rw [List.length_cons]; omega
theorem sorted_le (fs : List Int) (n : Nat) : (sortedTo fs n).length ≤ fs.length :=
  nodup_len' _ _ ((sortedTo_rising fs n).imp (fun h e => by omega)) (fun s hs => by rw [sortedTo_mem] at hs; exact hs.1)
theorem IsCore.fewer (h : IsCore l (sortedTo sel l.length) b) {fs : List Int} (hs : ∀ x ∈ fs, x ∈ sel) (hlt : fs.length < b.length) : fineB l fs = true := by
  rw [← fine_sorted rfl fs]
  exact h.shorter (sorted_sub _ hs) (Nat.lt_of_le_of_lt (sorted_le _ _) hlt)
theorem sorted_same {a b : List Int} (n : Nat) (h : ∀ x, x ∈ a ↔ x ∈ b) : sortedTo a n = sortedTo b n := by
  unfold sortedTo
  refine congrArg _ (List.filter_congr (fun i _ => ?_))
  rw [Bool.eq_iff_iff, List.contains_iff_mem, List.contains_iff_mem]
  exact h _
open Classical in
theorem core_same {a b : List Int} (h : ∀ x, x ∈ a ↔ x ∈ b) : coreV l a = coreV l b :=
  congrArg (fun all : List Int => if h : validB l = true ∧ all.length ≤ 16 ∧ ∃ b, IsCore l all b then Classical.choose h.2.2 else []) (sorted_same l.length h)
theorem free_fine (h : ∀ c ∈ l, c.nots = []) (sel : List Int) : fineB l sel = true := fineB_iff.2 (fun i _ c hc s hs => by
  unfold clOf at hc
  split at hc
  · rw [h c (List.mem_of_getElem? hc)] at hs; cases hs
  · cases hc)

/-! greatest selections -/
theorem greatS_fine {out : List Int} (h : fineB l out = true) (i : Int) : fineB l (greatS l out i) = true := by
  unfold greatS
  split
  · assumption
  · exact h
theorem great_fine (l : List ClV) (sel : List Int) : fineB l (greatL l sel) = true := by
  unfold greatL
  have : ∀ (s out : List Int), fineB l out = true → fineB l (s.foldl (greatS l) out) = true := by
    intro s
    induction s with
    | nil => intro out h; exact h
    | cons i s ih => intro out h; exact ih _ (greatS_fine h i)
  exact this sel [] (fine_nil l)
theorem greatS_in {out : List Int} {i x : Int} (h : ∀ y ∈ out, 0 ≤ y ∧ y < l.length) (hx : x ∈ out) : x ∈ greatS l out i := by
  unfold greatS
  split
  · rw [sortedTo_mem]; exact ⟨List.mem_append_left _ hx, h x hx⟩
  · exact hx
theorem greatS_range {out : List Int} {i : Int} (h : ∀ y ∈ out, 0 ≤ y ∧ y < l.length) : ∀ y ∈ greatS l out i, 0 ≤ y ∧ y < l.length := by
  unfold greatS
  split
  · intro y hy; rw [sortedTo_mem] at hy; exact hy.2
  · exact h
theorem great_out {x : Int} (hx : 0 ≤ x ∧ x < l.length) : ∀ (s out : List Int), (∀ y ∈ out, 0 ≤ y ∧ y < l.length) → x ∈ s → x ∉ s.foldl (greatS l) out → fineB l (s.foldl (greatS l) out ++ [x]) = false := by
  intro s
  have grow : ∀ (s out : List Int), (∀ y ∈ out, 0 ≤ y ∧ y < l.length) → ∀ y ∈ out, y ∈ s.foldl (greatS l) out := by
    intro s
    induction s with
    | nil => intro out _ y hy; exact hy
    | cons i s ih => intro out h y hy; exact ih _ (greatS_range h) y (greatS_in h hy)
  induction s with
  | nil => intro out _ h; cases h
  | cons i s ih =>
    intro out h hm hn
    rcases List.mem_cons.1 hm with e | hm
    · rw [← e] at hn ⊢
      cases hf : fineB l (s.foldl (greatS l) (greatS l out x) ++ [x])
      · exact hf
      · exfalso
        have h1 : fineB l (out ++ [x]) = true := fineB_iff.2 ((fineB_iff.1 hf).mono (fun y hy _ _ => by
          rcases List.mem_append.1 hy with hy | hy
          · exact List.mem_append_left _ (grow _ _ (greatS_range h) y (greatS_in h hy))
          · exact List.mem_append_right _ hy))
        rw [← fine_sorted rfl (out ++ [x])] at h1
        refine hn (grow s _ (greatS_range h) x ?_)
        unfold greatS
        rw [if_pos h1, sortedTo_mem]
        exact ⟨List.mem_append_right _ List.mem_cons_self, hx⟩
    · exact ih _ (greatS_range h) hm hn
theorem great_more {x : Int} (h1 : x ∈ sortedTo sel l.length) (h2 : x ∉ greatL l sel) : fineB l (greatL l sel ++ [x]) = false := by
  rw [sortedTo_mem] at h1
  exact great_out h1.2 sel [] (fun y hy => by cases hy) h1.1 h2
end
end Go.Proofs.Ytflfachkoffiiaa
