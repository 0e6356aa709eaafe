/- sorted: the numbers of clauses in a selection. -/
import Derived.Test.YtflfachkoffiiaaInts
import Derived.Lib.SlKeysI
import Derived.Lib.SlicesCompact
import Derived.Shelf.SlicesE.DeleteFunc
namespace Go.Proofs.Ytflfachkoffiiaa
open Go.RowKit Go.Sort Go.Shelf Go.Lib

/-! the plain law -/
theorem compactUp (d : Array Int) (hs : ∀ i j, i ≤ j → j < d.size → d[i]! ≤ d[j]!) : ∀ m, m ≤ d.size → (compactUpTo d m).Pairwise (fun a b => a < b) ∧ ∀ x, x ∈ compactUpTo d m ↔ ∃ j, j < m ∧ d[j]! = x
  | 0, _ => ⟨List.Pairwise.nil, fun x => ⟨fun h => (by cases h), fun ⟨j, h, _⟩ => absurd h (by omega)⟩⟩
  | m + 1, hm => by
    obtain ⟨ih1, ih2⟩ := compactUp d hs m (by omega)
    rw [compactUpTo_succ]
    by_cases hk : keeps d m = true
    · rw [if_pos hk]
      constructor
      · refine List.pairwise_append.2 ⟨ih1, List.pairwise_singleton _ _, fun a ha b hb => ?_⟩
        rw [List.mem_singleton.1 hb]
        obtain ⟨j, hj, rfl⟩ := (ih2 a).1 ha
        have h1 := hs j (m - 1) (by omega) (by omega)
        have h2 := hs (m - 1) m (by omega) (by omega)
        have h3 : d[m]! ≠ d[m - 1]! := by
          unfold keeps at hk
          simpa [show m ≠ 0 by omega] using hk
        omega
      · intro x
        rw [List.mem_append, ih2, List.mem_singleton]
        constructor
        · rintro (⟨j, h, e⟩ | e)
          · exact ⟨j, by omega, e⟩
          · exact ⟨m, by omega, e.symm⟩
        · rintro ⟨j, h, e⟩
          by_cases hj : j < m
          · exact .inl ⟨j, hj, e⟩
          · obtain rfl : j = m := by omega
            exact .inr e.symm
    · rw [if_neg hk, List.append_nil]
      refine ⟨ih1, fun x => ?_⟩
      rw [ih2]
      constructor
      · rintro ⟨j, h, e⟩
        exact ⟨j, by omega, e⟩
      · rintro ⟨j, h, e⟩
        by_cases hj : j < m
        · exact ⟨j, hj, e⟩
        · obtain rfl : j = m := by omega
          have h3 : j ≠ 0 ∧ d[j]! = d[j - 1]! := by
            unfold keeps at hk
            simpa using hk
          exact ⟨j - 1, by omega, by rw [← h3.2]; exact e⟩
theorem eq_of_rising {l m : List Int} (h1 : l.Pairwise (fun a b => a < b)) (h2 : m.Pairwise (fun a b => a < b)) (h : ∀ x, x ∈ l ↔ x ∈ m) : l = m := by
  have n1 : l.Nodup := h1.imp fun {a b} h => by omega
  have n2 : m.Nodup := h2.imp fun {a b} h => by omega
  exact List.Perm.eq_of_pairwise (le := fun a b => a < b) (fun a b _ _ h1 h2 => by omega) h1 h2 ((List.perm_ext_iff_of_nodup n1 n2).2 h)
theorem sortedTo_mem (zs : List Int) (n : Nat) (x : Int) : x ∈ sortedTo zs n ↔ x ∈ zs ∧ 0 ≤ x ∧ x < n := by
  unfold sortedTo
  rw [List.mem_map]
  constructor
  · rintro ⟨i, hi, rfl⟩
    obtain ⟨h1, h2⟩ := List.mem_filter.1 hi
    exact ⟨by simpa using h2, by omega, by have := List.mem_range.1 h1; omega⟩
  · rintro ⟨h1, h2, h3⟩
    obtain ⟨i, rfl⟩ := Int.eq_ofNat_of_zero_le h2
    exact ⟨i, List.mem_filter.2 ⟨List.mem_range.2 (by omega), by simpa using h1⟩, rfl⟩
theorem sortedTo_rising (zs : List Int) (n : Nat) : (sortedTo zs n).Pairwise (fun a b => a < b) := by
  unfold sortedTo
  refine List.pairwise_map.2 (((List.pairwise_lt_range).filter _).imp fun {a b} h => by omega)
def inR (n : Nat) (z : Int) : Bool := decide (z < 0) || decide ((n : Int) ≤ z)
theorem sorted_compact (zs : List Int) (n : Nat) : compact ((zs.filter fun z => !inR n z).mergeSort fun x y => decide (x ≤ y)) = sortedTo zs n := by
  obtain ⟨f, hf⟩ : ∃ f, f = zs.filter fun z => !inR n z := ⟨_, rfl⟩
  obtain ⟨s, hs⟩ : ∃ s, s = f.mergeSort fun x y => decide (x ≤ y) := ⟨_, rfl⟩
  rw [← hf, ← hs]
  have hp : s.Perm f := by rw [hs]; exact List.mergeSort_perm _ _
  have hsrt : s.Pairwise fun x y => x ≤ y := by
    rw [hs]
    refine (List.pairwise_mergeSort (le := fun x y : Int => decide (x ≤ y)) (fun a b c h1 h2 => ?_) (fun a b => ?_) f).imp fun {a b} h => by simpa using h
    · simp only [decide_eq_true_eq] at *; omega
    · simp only [Bool.or_eq_true, decide_eq_true_eq]; omega
  have hmono : ∀ i j, i ≤ j → j < s.toArray.size → s.toArray[i]! ≤ s.toArray[j]! := fun i j hij hj => by
    have hj' : j < s.length := by simpa using hj
    have hi' : i < s.length := by omega
    rw [getElem!_pos s.toArray i (by simpa using hi'), getElem!_pos s.toArray j hj]
    simp only [List.getElem_toArray]
    rcases Nat.lt_or_ge i j with h | h
    · exact List.pairwise_iff_getElem.1 hsrt i j hi' hj' h
    · obtain rfl : i = j := by omega
      exact Int.le_refl _
  obtain ⟨h1, h2⟩ := compactUp s.toArray hmono s.length (by simp)
  refine eq_of_rising h1 (sortedTo_rising zs n) fun x => ?_
  show x ∈ compactUpTo s.toArray s.length ↔ _
  rw [h2, sortedTo_mem]
  have : (∃ j, j < s.length ∧ s.toArray[j]! = x) ↔ x ∈ s := by
    rw [List.mem_iff_getElem]
    constructor
    · rintro ⟨j, hj, e⟩
      refine ⟨j, hj, ?_⟩
      rw [getElem!_pos s.toArray j (by simpa using hj)] at e
      simpa using e
    · rintro ⟨j, hj, e⟩
      refine ⟨j, hj, ?_⟩
      rw [getElem!_pos s.toArray j (by simpa using hj)]
      simpa using e
  rw [this, hp.mem_iff, hf, List.mem_filter]
  unfold inR
  simp

/-! rows of numbers -/
def Row (w : World) (g cap : Nat) (xs : List Int) : Prop := ∃ cur : Array Value, w.heap[g]? = some (.cells cur 3 (0, 0)) ∧ cur.size = cap ∧ cur.toList.take xs.length = xs.map encZ ∧ xs.length ≤ cap
theorem Row.holds {w : World} {g cap : Nat} {xs : List Int} (h : Row w g cap xs) : Holds encZ w g 0 xs.toArray := by
  obtain ⟨cur, h1, _, h3, _⟩ := h
  exact holds_of_block_i h1 h3
theorem Row.lt {w : World} {g cap : Nat} {xs : List Int} (h : Row w g cap xs) : g < w.heap.size := by
  obtain ⟨cur, h1, _⟩ := h
  exact (Array.getElem?_eq_some_iff.1 h1).1
theorem Row.put {w : World} {g cap : Nat} {xs : List Int} (h : Row w g cap xs) (ts : List Int) (ht : ts.length ≤ cap) (q : Nat) : Row (putRow encZ (Sort.ahead w q) g 0 ts.toArray) g cap ts := by
  obtain ⟨cur, h1, h2, h3, h4⟩ := h
  refine ⟨putCells encZ 0 ts.toArray cur, ?_, by simp [putCells, h2], take_putCells_i cur ts (by omega), ht⟩
  simp [putRow, mapBlock, Sort.ahead, Array.getElem?_modify, h1, onCells]
theorem Row.grow {w : World} {g cap : Nat} {xs : List Int} (h : Row w g cap xs) (os : Array Obj) : Row (grow w os) g cap xs := by
  have hl := h.lt
  obtain ⟨cur, h1, h2, h3, h4⟩ := h
  exact ⟨cur, by rw [heap_grow_old _ _ hl]; exact h1, h2, h3, h4⟩
theorem Row.cut {w : World} {g cap : Nat} {xs ys : List Int} (h : Row w g cap (xs ++ ys)) : Row w g cap xs := by
  obtain ⟨cur, h1, h2, h3, h4⟩ := h
  rw [List.length_append] at h3 h4
  refine ⟨cur, h1, h2, ?_, by omega⟩
  have := congrArg (List.take xs.length) h3
  rw [List.take_take, Nat.min_eq_left (by omega), List.map_append, List.take_left' (by simp)] at this
  exact this
theorem put_grownBy (w : World) (g q : Nat) (d : Array Int) : w.grownBy (putRow encZ (Sort.ahead w q) g 0 d) (some g) := by
  refine ⟨rfl, rfl, rfl, by simp, fun k hk hne => ?_⟩
  have : g ≠ k := fun e => hne (by rw [e])
  simp [putRow, mapBlock, Sort.ahead, Array.getElem?_modify, this]
theorem Row.rd {w : World} {g cap : Nat} {xs : List Int} (h : Row w g cap xs) : Rd w w.heap.size 1 (some ⟨g, 0, none⟩) xs.length (intCells xs) := by
  refine ⟨by simp [intCells], fun _ => ⟨g, 0, rfl, h.lt, fun j u hu => ?_⟩⟩
  obtain ⟨cur, h1, h2, h3, h4⟩ := h
  rw [Nat.zero_add, cell_of_row _ _ _ _ _ _ h1]
  have hj : j < xs.length := by have := (List.getElem?_eq_some_iff.1 hu).1; simpa [intCells] using this
  have := congrArg (fun l => l[j]?) h3
  simp only [List.getElem?_take, if_pos hj] at this
  rw [← Array.getElem?_toList, this]
  exact hu
theorem Row.of_own {w : World} {base g n cap : Nat} {xs : List Int} (h : w.ownsRow base 3 1 (.slice (some ⟨g, 0, none⟩) n cap) n (intCells xs)) : Row w g cap xs := by
  have hl : xs.length = n := by have := h.1; simpa [intCells] using this
  rcases h.2 with ⟨e, _⟩ | ⟨g', cap', cur, e, _, h1, h2, h3, h4, h5⟩
  · cases e
  · injection e with e1 _ e3
    injection e1 with e1
    injection e1 with e1
    subst e1 e3
    exact ⟨cur, h1, by omega, by rw [hl]; rw [Nat.mul_one] at h5; exact h5, by omega⟩
end Go.Proofs.Ytflfachkoffiiaa
