/- Combinations in lexicographic order: plain law of the program's Core. -/
import Derived.Test.YtflfachkoffiiaaRefCore
namespace Go.Proofs.Ytflfachkoffiiaa
open Go.RowKit Go.Lib

/-- n increasing indices below m -/
def Inc (n m : Nat) (f : Nat → Nat) : Prop := (∀ j, j + 1 < n → f j < f (j + 1)) ∧ ∀ j, j < n → f j < m
def LexLt (n : Nat) (f g : Nat → Nat) : Prop := ∃ p, p < n ∧ f p < g p ∧ ∀ j, j < p → f j = g j
def pickF (all : List Int) (n : Nat) (f : Nat → Nat) : List Int := (List.range n).map (fun j => all.getD (f j) 0)
theorem pick_len (all : List Int) (n : Nat) (f : Nat → Nat) : (pickF all n f).length = n := by simp [pickF]
theorem pick_get (all : List Int) (n : Nat) (f : Nat → Nat) {j : Nat} (h : j < n) : (pickF all n f).getD j 0 = all.getD (f j) 0 := by
  rw [pickF, List.getD_eq_getElem?_getD, List.getElem?_map, List.getElem?_range h]; rfl
theorem pick_same {all : List Int} {n : Nat} {f g : Nat → Nat} (h : ∀ j, j < n → f j = g j) : pickF all n f = pickF all n g := by
  unfold pickF
  exact List.map_congr_left (fun j hj => by rw [h j (List.mem_range.1 hj)])
theorem Inc.mono {n m : Nat} {f : Nat → Nat} (h : Inc n m f) : ∀ d j, j + d < n → f j + d ≤ f (j + d)
  | 0, _, _ => Nat.le_refl _
  | d + 1, j, hj => by
    have h1 := h.mono d j (by omega)
    have h2 := h.1 (j + d) (by omega)
    rw [Nat.add_assoc] at h2
    omega
theorem Inc.ge {n m : Nat} {f : Nat → Nat} (h : Inc n m f) {j : Nat} (hj : j < n) : j ≤ f j := by
  have := h.mono j 0 (by omega)
  rw [Nat.zero_add] at this
  omega
theorem Inc.le {n m : Nat} {f : Nat → Nat} (h : Inc n m f) {j : Nat} (hj : j < n) : f j + (n - j) ≤ m := by
  have h1 := h.mono (n - 1 - j) j (by omega)
  have h2 := h.2 (j + (n - 1 - j)) (by omega)
  omega
/-- the first one -/
theorem inc_id {n m : Nat} (h : n ≤ m) : Inc n m (fun j => j) := ⟨fun j _ => Nat.lt_succ_self j, fun _ hj => Nat.lt_of_lt_of_le hj h⟩
theorem first_least {n m : Nat} {g : Nat → Nat} (h : Inc n m g) : ¬ LexLt n g (fun j => j) := by
  rintro ⟨p, hp, h1, _⟩
  have := h.ge hp
  exact absurd h1 (Nat.not_lt.2 this)
/-- the next one: its place i -/
def nextF (i : Nat) (f : Nat → Nat) : Nat → Nat := fun j => if j < i then f j else f i + 1 + (j - i)
theorem next_inc {n m i : Nat} {f : Nat → Nat} (h : Inc n m f) (hi : i < n) (hne : f i + n ≠ m + i) : Inc n m (nextF i f) := by
  have hle := h.le hi
  constructor
  · intro j hj
    unfold nextF
    by_cases h1 : j + 1 < i
    · rw [if_pos (by omega), if_pos h1]; exact h.1 j hj
    · rw [if_neg h1]
      by_cases h2 : j < i
      · rw [if_pos h2]
        have := h.1 j hj
        rw [show j + 1 = i by omega] at this
        omega
      · rw [if_neg h2]; omega
  · intro j hj
    unfold nextF
    split
    · exact h.2 j hj
    · omega
theorem next_gt {n i : Nat} {f : Nat → Nat} (hi : i < n) : LexLt n f (nextF i f) :=
  ⟨i, hi, by unfold nextF; rw [if_neg (by omega)]; omega, fun j hj => by unfold nextF; rw [if_pos hj]⟩
theorem next_least {n m i : Nat} {f g : Nat → Nat} (hi : i < n) (hmax : ∀ j, i < j → j < n → f j + n = m + j) (hg : Inc n m g) (hl : LexLt n g (nextF i f)) : LexLt n g f ∨ ∀ j, j < n → g j = f j := by
  obtain ⟨p, hp, h1, h2⟩ := hl
  by_cases hpi : p < i
  · refine .inl ⟨p, hp, ?_, fun j hj => ?_⟩
    · unfold nextF at h1; rwa [if_pos hpi] at h1
    · have := h2 j hj; unfold nextF at this; rwa [if_pos (by omega)] at this
  · have hpre : ∀ j, j < i → g j = f j := fun j hj => by
      have := h2 j (by omega); unfold nextF at this; rwa [if_pos hj] at this
    by_cases hpi2 : p = i
    · subst hpi2
      unfold nextF at h1
      rw [if_neg (by omega)] at h1
      by_cases he : g p = f p
      · have hle : ∀ j, p < j → j < n → g j ≤ f j := fun j h3 h4 => by have := hg.le h4; have := hmax j h3 h4; omega
        by_cases hall : ∀ j, j < n → g j = f j
        · exact .inr hall
        · refine .inl ?_
          have hex : ∃ j, j < n ∧ g j ≠ f j := by
            refine Classical.byContradiction (fun hn => hall (fun j hj => Classical.byContradiction (fun hne => hn ⟨j, hj, hne⟩)))
          obtain ⟨q, ⟨hq, hqn⟩, hmin⟩ := least hex
          refine ⟨q, hq, ?_, fun j hj => Classical.byContradiction (fun hne => by have := hmin j ⟨by omega, hne⟩; omega)⟩
          by_cases h3 : q < p
          · exact absurd (hpre q h3) hqn
          · by_cases h4 : q = p
            · subst h4; exact absurd he hqn
            · have := hle q (by omega) hq; omega
      · exact .inl ⟨p, hp, by omega, hpre⟩
    · have h3 := h2 (p - 1) (by omega)
      have h4 := hg.1 (p - 1) (by omega)
      rw [show p - 1 + 1 = p by omega] at h4
      unfold nextF at h1 h3
      rw [if_neg (by omega)] at h1 h3
      omega
theorem last_max {n m : Nat} {f g : Nat → Nat} (hmax : ∀ j, j < n → f j + n = m + j) (hg : Inc n m g) : LexLt n g f ∨ ∀ j, j < n → g j = f j := by
  by_cases hall : ∀ j, j < n → g j = f j
  · exact .inr hall
  · have hex : ∃ j, j < n ∧ g j ≠ f j := Classical.byContradiction (fun hn => hall (fun j hj => Classical.byContradiction (fun hne => hn ⟨j, hj, hne⟩)))
    obtain ⟨q, ⟨hq, hqn⟩, hmin⟩ := least hex
    refine .inl ⟨q, hq, ?_, fun j hj => Classical.byContradiction (fun hne => by have := hmin j ⟨by omega, hne⟩; omega)⟩
    have := hg.le hq
    have := hmax q hq
    omega

/-- a number that rises with the order -/
def rankF (m : Nat) (f : Nat → Nat) : Nat → Nat
  | 0 => 0
  | j + 1 => rankF m f j * (m + 1) + f j
theorem rank_same {m : Nat} {f g : Nat → Nat} : ∀ n, (∀ j, j < n → f j = g j) → rankF m f n = rankF m g n
  | 0, _ => rfl
  | n + 1, h => by rw [rankF, rankF, rank_same n (fun j hj => h j (by omega)), h n (by omega)]
theorem rank_lt {m : Nat} {f g : Nat → Nat} : ∀ n, (∀ j, j < n → f j < m) → LexLt n f g → rankF m f n < rankF m g n
  | 0, _, ⟨p, hp, _⟩ => by omega
  | n + 1, hf, ⟨p, hp, h1, h2⟩ => by
    rw [rankF, rankF]
    by_cases e : p = n
    · subst e
      rw [rank_same p h2]; omega
    · have ih := rank_lt n (fun j hj => hf j (by omega)) ⟨p, by omega, h1, h2⟩
      have h3 := Nat.mul_le_mul_right (m + 1) ih
      rw [Nat.succ_mul] at h3
      have := hf n (by omega)
      omega
theorem rank_top {m : Nat} {f : Nat → Nat} : ∀ n, (∀ j, j < n → f j < m) → rankF m f n < (m + 1) ^ n
  | 0, _ => by simp [rankF]
  | n + 1, hf => by
    rw [rankF, Nat.pow_succ]
    have ih := rank_top n (fun j hj => hf j (by omega))
    have h3 := Nat.mul_le_mul_right (m + 1) ih
    rw [Nat.succ_mul] at h3
    have := hf n (by omega)
    omega

theorem sub_pick {all x : List Int} (h : x.Sublist all) : ∃ f, Inc x.length all.length f ∧ x = pickF all x.length f := by
  induction h with
  | slnil => exact ⟨fun j => j, ⟨fun j hj => by simp at hj, fun j hj => by simp at hj⟩, rfl⟩
  | @cons x l a h ih =>
    obtain ⟨f, hf, e⟩ := ih
    refine ⟨fun j => f j + 1, ⟨fun j hj => Nat.succ_lt_succ (hf.1 j hj), fun j hj => Nat.succ_lt_succ (hf.2 j hj)⟩, ?_⟩
    rw [show pickF (a :: l) x.length (fun j => f j + 1) = pickF l x.length f from rfl]
    exact e
  | @cons_cons x l a h ih =>
    obtain ⟨f, hf, e⟩ := ih
    refine ⟨fun j => match j with | 0 => 0 | j + 1 => f j + 1, ⟨fun j hj => ?_, fun j hj => ?_⟩, ?_⟩
    · rw [List.length_cons] at hj
      cases j with
      | zero => simp
      | succ j => have := hf.1 j (by omega); simp; omega
    · rw [List.length_cons] at hj ⊢
      cases j with
      | zero => simp
      | succ j => have := hf.2 j (by omega); simp; omega
    · rw [List.length_cons, pickF, List.range_succ_eq_map, List.map_cons, List.map_map]
      show a :: x = a :: _
      congr 1
theorem rising_get {all : List Int} (h : all.Pairwise (· < ·)) {i j : Nat} (hij : i < j) (hj : j < all.length) : all.getD i 0 < all.getD j 0 := by
  rw [List.getD_eq_getElem?_getD, List.getD_eq_getElem?_getD, List.getElem?_eq_getElem hj, List.getElem?_eq_getElem (by omega)]
  exact List.pairwise_iff_getElem.1 h i j (by omega) hj hij
theorem pick_sub {all : List Int} (ha : all.Pairwise (· < ·)) {n : Nat} {f : Nat → Nat} (h : Inc n all.length f) : (pickF all n f).Sublist all := by
  have e : pickF all n f = all.filter (fun x => (pickF all n f).contains x) := by
    refine eq_of_rising ?_ (ha.filter _) (fun x => ?_)
    · rw [pickF, List.pairwise_map]
      refine (List.pairwise_lt_range (n := n)).imp_of_mem (fun {i j} hi hj hij => ?_)
      have hjn := List.mem_range.1 hj
      have h1 := h.mono (j - i) i (by omega)
      rw [show i + (j - i) = j by omega] at h1
      exact rising_get ha (by omega) (h.2 j hjn)
    · rw [List.mem_filter]
      refine ⟨fun hx => ⟨?_, List.contains_iff_mem.2 hx⟩, fun hx => List.contains_iff_mem.1 hx.2⟩
      obtain ⟨j, hj, rfl⟩ := List.mem_map.1 hx
      have := h.2 j (List.mem_range.1 hj)
      rw [List.getD_eq_getElem?_getD, List.getElem?_eq_getElem this]
      exact List.getElem_mem this
  rw [e]
  exact List.filter_sublist
theorem lex_first : ∀ {a b : List Int}, lexB a b = true → ∃ p, p < a.length ∧ p < b.length ∧ a.getD p 0 < b.getD p 0 ∧ ∀ j, j < p → a.getD j 0 = b.getD j 0
  | [], _, h => by simp [lexB] at h
  | _ :: _, [], h => by simp [lexB] at h
  | x :: a, y :: b, h => by
    rw [lexB] at h
    by_cases e : x = y
    · subst e
      rw [if_pos rfl] at h
      obtain ⟨p, h1, h2, h3, h4⟩ := lex_first h
      refine ⟨p + 1, by simpa using h1, by simpa using h2, by simpa using h3, fun j hj => ?_⟩
      cases j with
      | zero => rfl
      | succ j => simpa using h4 j (by omega)
    · rw [if_neg e, decide_eq_true_iff] at h
      exact ⟨0, by simp, by simp, by simpa using h, fun j hj => by omega⟩
theorem lex_pick {all : List Int} (ha : all.Pairwise (· < ·)) {n : Nat} {f g : Nat → Nat} (hf : Inc n all.length f) (hg : Inc n all.length g) (h : lexB (pickF all n g) (pickF all n f) = true) : LexLt n g f := by
  obtain ⟨p, h1, _, h3, h4⟩ := lex_first h
  rw [pick_len] at h1
  rw [pick_get _ _ _ h1, pick_get _ _ _ h1] at h3
  have inj : ∀ j, j < n → all.getD (g j) 0 = all.getD (f j) 0 → g j = f j := fun j hj e => by
    rcases Nat.lt_trichotomy (g j) (f j) with h5 | h5 | h5
    · have := rising_get ha h5 (hf.2 j hj); omega
    · exact h5
    · have := rising_get ha h5 (hg.2 j hj); omega
  refine ⟨p, h1, ?_, fun j hj => ?_⟩
  · rcases Nat.lt_trichotomy (g p) (f p) with h5 | h5 | h5
    · exact h5
    · rw [h5] at h3; omega
    · have := rising_get ha h5 (hg.2 p h1); omega
  · have := h4 j hj
    rw [pick_get _ _ _ (by omega), pick_get _ _ _ (by omega)] at this
    exact inj j (by omega) this
/-- all lists of size n that come ahead of f are fine -/
def Ahead (l : List ClV) (all : List Int) (n : Nat) (f : Nat → Nat) : Prop := ∀ g, Inc n all.length g → LexLt n g f → fineB l (pickF all n g) = true
def Short (l : List ClV) (all : List Int) (n : Nat) : Prop := ∀ x : List Int, x.Sublist all → x.length < n → fineB l x = true
theorem core_found {l : List ClV} {all : List Int} (ha : all.Pairwise (· < ·)) {n : Nat} {f : Nat → Nat} (hs : Short l all n) (hf : Inc n all.length f) (hA : Ahead l all n f) (hb : fineB l (pickF all n f) = false) : IsCore l all (pickF all n f) := by
  refine ⟨pick_sub ha hf, hb, fun x hx hxb => ?_⟩
  have hlen : n ≤ x.length := by
    refine Nat.le_of_not_lt (fun hl => ?_)
    rw [hs x hx hl] at hxb; cases hxb
  unfold lessB
  rw [pick_len]
  by_cases e : x.length = n
  · rw [if_pos e]
    obtain ⟨g, hg, hgx⟩ := sub_pick hx
    rw [e] at hg hgx
    cases hl : lexB x (pickF all n f)
    · rfl
    · rw [hgx] at hl hxb
      rw [hA g hg (lex_pick ha hf hg hl)] at hxb; cases hxb
  · rw [if_neg e, decide_eq_false_iff_not]; omega
theorem short_more {l : List ClV} {all : List Int} {n : Nat} {f : Nat → Nat} (hs : Short l all n) (hmax : ∀ j, j < n → f j + n = all.length + j) (hA : Ahead l all n f) (hb : fineB l (pickF all n f) = true) : Short l all (n + 1) := by
  intro x hx hl
  by_cases e : x.length < n
  · exact hs x hx e
  · obtain ⟨g, hg, hgx⟩ := sub_pick hx
    rw [show x.length = n by omega] at hg hgx
    rw [hgx]
    rcases last_max hmax hg with h | h
    · exact hA g hg h
    · rw [pick_same h]; exact hb
theorem ahead_next {l : List ClV} {all : List Int} {n i : Nat} {f : Nat → Nat} (hi : i < n) (hmax : ∀ j, i < j → j < n → f j + n = all.length + j) (hA : Ahead l all n f) (hb : fineB l (pickF all n f) = true) : Ahead l all n (nextF i f) := by
  intro g hg hl
  rcases next_least hi hmax hg hl with h | h
  · exact hA g hg h
  · rw [pick_same h]; exact hb
end Go.Proofs.Ytflfachkoffiiaa
