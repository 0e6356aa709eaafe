/- More of the plain law: prefixes, joining, errors, tokens alone. -/
import Derived.Test.YtjjdfccbkohlcaaDoorMath
namespace Go.Proofs.YtjjdfccbkohlcaaDoor.Lx

theorem skipN_take : ∀ (cm : Bool) (l : Bs) (j : Nat), skipN cm (l.take j) = min (skipN cm l) j
  | _, [], j => by simp [skipN]
  | _, _ :: _, 0 => by simp [skipN]
  | cm, x :: r, j + 1 => by
    have h1 := skipN_take false r j
    have h2 := skipN_take true r j
    have h3 := skipN_take cm r j
    simp only [List.take_succ_cons, skipN, h1, h2, h3]
    split
    · omega
    · split
      · omega
      · split <;> omega

/-- where the blanks end no blank stands -/
theorem skipN_again : ∀ (cm : Bool) (l : Bs), skipN cm l < l.length → skipN false (l.drop (skipN cm l)) = 0
  | _, [], h => by simp at h
  | cm, x :: r, h => by
    have h1 := skipN_again false r
    have h2 := skipN_again true r
    have h3 := skipN_again cm r
    by_cases a : x = 10
    · simp only [skipN, if_pos a, List.length_cons, List.drop_succ_cons] at h ⊢
      exact h1 (by omega)
    · by_cases b : x = 35
      · simp only [skipN, if_neg a, if_pos b, List.length_cons, List.drop_succ_cons] at h ⊢
        exact h2 (by omega)
      · by_cases c : (x = 32 || cm) = true
        · simp only [skipN, if_neg a, if_neg b, if_pos c, List.length_cons, List.drop_succ_cons] at h ⊢
          exact h3 (by omega)
        · simp only [skipN, if_neg a, if_neg b, if_neg c, List.drop_zero]
          have hc : ¬ (x = 32 || false) = true := by
            intro hh
            apply c
            simp at hh ⊢
            exact .inl hh
          rw [if_neg hc]

theorem skipN_append : ∀ (cm : Bool) (l r : Bs), skipN cm l < l.length → skipN cm (l ++ r) = skipN cm l
  | _, [], _, h => by simp at h
  | cm, x :: t, r, h => by
    have h1 := skipN_append false t r
    have h2 := skipN_append true t r
    have h3 := skipN_append cm t r
    by_cases a : x = 10
    · simp only [List.cons_append, skipN, if_pos a, List.length_cons] at h ⊢
      rw [h1 (by omega)]
    · by_cases b : x = 35
      · simp only [List.cons_append, skipN, if_neg a, if_pos b, List.length_cons] at h ⊢
        rw [h2 (by omega)]
      · by_cases c : (x = 32 || cm) = true
        · simp only [List.cons_append, skipN, if_neg a, if_neg b, if_pos c, List.length_cons] at h ⊢
          rw [h3 (by omega)]
        · simp only [List.cons_append, skipN, if_neg a, if_neg b, if_neg c]

theorem skipN_line : ∀ (cm : Bool) (l r : Bs), skipN cm l = l.length → skipN cm (l ++ 10 :: r) = l.length + 1 + skipN false r
  | cm, [], r, _ => by simp [skipN]; omega
  | cm, x :: t, r, h => by
    have h1 := skipN_line false t r
    have h2 := skipN_line true t r
    have h3 := skipN_line cm t r
    by_cases a : x = 10
    · simp only [List.cons_append, skipN, if_pos a, List.length_cons] at h ⊢
      rw [h1 (by omega)]; omega
    · by_cases b : x = 35
      · simp only [List.cons_append, skipN, if_neg a, if_pos b, List.length_cons] at h ⊢
        rw [h2 (by omega)]; omega
      · by_cases c : (x = 32 || cm) = true
        · simp only [List.cons_append, skipN, if_neg a, if_neg b, if_pos c, List.length_cons] at h ⊢
          rw [h3 (by omega)]; omega
        · simp only [skipN, if_neg a, if_neg b, if_neg c, List.length_cons] at h
          omega

theorem runN_take (p : UInt8 → Bool) : ∀ (l : Bs) (j : Nat), runN p (l.take j) = min (runN p l) j
  | [], j => by simp [runN]
  | _ :: _, 0 => by simp [runN]
  | x :: r, j + 1 => by
    have h1 := runN_take p r j
    simp only [List.take_succ_cons, runN, h1]
    split <;> omega
theorem runN_append (p : UInt8 → Bool) : ∀ (l r : Bs), runN p r = 0 → runN p (l ++ r) = runN p l
  | [], r, h => by simp [runN, h]
  | x :: t, r, h => by
    have h1 := runN_append p t r h
    simp only [List.cons_append, runN, h1]

theorem tokN_take (l : Bs) (j : Nat) (h0 : 0 < tokN l) (h : tokN l ≤ j) : tokN (l.take j) = tokN l := by
  match l, j, h0, h with
  | [], _, h0, _ => simp [tokN] at h0
  | _ :: _, 0, h0, h => omega
  | x :: r, j + 1, h0, h =>
    rw [List.take_succ_cons]
    by_cases hl : isL x = true
    · simp only [tokN, if_pos hl, runN_take] at h0 h ⊢
      split at h
      · rename_i hb; rw [if_pos hb] at h0; omega
      · rename_i hb
        rw [if_neg (by omega), if_neg hb]; omega
    · by_cases hd : isD x = true
      · simp only [tokN, if_neg hl, if_pos hd, runN_take] at h0 h ⊢
        split at h
        · rename_i hb; rw [if_pos hb] at h0; omega
        · rename_i hb
          rw [if_neg (by omega), if_neg hb]; omega
      · simp only [tokN, if_neg hl, if_neg hd] at h0 h ⊢
        match r, j, h with
        | [], j, _ => simp
        | y :: t, 0, h =>
          simp only [signN, List.take_zero] at h0 h ⊢
          split at h
          · omega
          · rename_i hb; rw [if_neg hb]
        | y :: t, j + 1, _ => simp [signN]

/-- a byte that ends every token that stands before it -/
def stops (x : UInt8) : Bool := !isE x && x != 61 && x != 62
theorem tokN_append (l r : Bs) (hl : l ≠ []) (hr : ∀ x, r.head? = some x → stops x = true) : tokN (l ++ r) = tokN l := by
  have hrun : ∀ p : UInt8 → Bool, (∀ x, p x = true → isE x = true) → runN p r = 0 := by
    intro p hp
    cases r with
    | nil => rfl
    | cons x t =>
      have := hr x rfl
      simp only [stops, Bool.and_eq_true, Bool.not_eq_true'] at this
      rw [runN, if_neg]
      intro h
      rw [hp x h] at this
      simp at this
  match l, hl with
  | x :: t, _ =>
    by_cases hL : isL x = true
    · simp only [List.cons_append, tokN, if_pos hL, runN_append isE t r (hrun isE fun _ h => h)]
    · by_cases hD : isD x = true
      · simp only [List.cons_append, tokN, if_neg hL, if_pos hD, runN_append isD t r (hrun isD fun x h => by simp [isE, h])]
      · simp only [List.cons_append, tokN, if_neg hL, if_neg hD]
        match t with
        | [] =>
          match r, hr with
          | [], _ => rfl
          | y :: u, hr =>
            have hy := hr y rfl
            simp only [stops, Bool.and_eq_true, bne_iff_ne, ne_eq] at hy
            have hnd : double x y = false := by
              simp only [double, Bool.or_eq_false_iff, Bool.and_eq_false_iff, beq_eq_false_iff_ne, ne_eq]
              exact ⟨.inr hy.1.2, .inr hy.2⟩
            simp [signN, hnd]
        | y :: u => simp [signN]

/-- ERRORS: the text up to the offset is read, nothing is from there on. -/
theorem scanF_bad : ∀ (f : Nat) (l : Bs) (k : Nat), l.length < f → scan l = .error k → k < l.length ∧ (∃ ts e, scan (l.take k) = .ok (ts, e)) ∧ scan (l.drop k) = .error 0
  | 0, _, _, hf, _ => by omega
  | f + 1, l, k, hf, h => by
    have hsk := skipN_le false l
    by_cases h1 : skipN false l = l.length
    · rw [scan_end h1] at h; cases h
    · have h1' : skipN false l < l.length := by omega
      by_cases h2 : tokN (l.drop (skipN false l)) = 0
      · rw [scan_bad h1' h2] at h
        injection h with h
        subst h
        refine ⟨h1', ⟨[], _, scan_end (by rw [skipN_take, List.length_take]; omega)⟩, ?_⟩
        have hz := skipN_again false l h1'
        rw [scan_bad (by rw [hz, List.length_drop]; omega) (by rw [hz, List.drop_zero]; exact h2), hz]
      · rw [scan_step h1' h2] at h
        have hm := tokN_le (l.drop (skipN false l))
        rw [List.length_drop] at hm
        generalize hn : skipN false l = n at *
        generalize hmm : tokN (l.drop n) = m at *
        cases hs : scan (l.drop (n + m)) with
        | ok p => obtain ⟨ts, e⟩ := p; rw [hs] at h; simp [after] at h
        | error j =>
          rw [hs] at h
          simp only [after, Except.error.injEq] at h
          obtain ⟨i1, ⟨ts, e, i2⟩, i3⟩ := scanF_bad f (l.drop (n + m)) j (by rw [List.length_drop]; omega) hs
          rw [List.length_drop] at i1
          refine ⟨by omega, ?_, by rw [← h, ← List.drop_drop]; exact i3⟩
          have t1 : skipN false (l.take k) = n := by rw [skipN_take, hn]; omega
          have t2 : tokN ((l.take k).drop n) = m := by rw [List.drop_take, tokN_take _ _ (by omega) (by omega), hmm]
          have t3 : (l.take k).drop (n + m) = (l.drop (n + m)).take j := by rw [List.drop_take]; congr 1; omega
          rw [scan_step (l := l.take k) (by rw [t1, List.length_take]; omega) (by rw [t1, t2]; exact h2), t1, t2, t3, i2]
          exact ⟨_, _, rfl⟩
theorem scan_error {l : Bs} {k : Nat} (h : scan l = .error k) : k < l.length ∧ (∃ ts e, scan (l.take k) = .ok (ts, e)) ∧ scan (l.drop k) = .error 0 := scanF_bad (l.length + 1) l k (by omega) h

/-- what is read joined by a line end -/
def joined (a : List Tok) (e : Bs) : List Tok × Bs → List Tok × Bs
  | ([], r) => (a, e ++ 10 :: r)
  | (b :: bs, r) => (a ++ ⟨b.text, e ++ 10 :: b.before⟩ :: bs, r)
theorem joined_cons (x : Tok) (a : List Tok) (e : Bs) (p : List Tok × Bs) : joined (x :: a) e p = ((x :: (joined a e p).1), (joined a e p).2) := by
  obtain ⟨b, r⟩ := p
  cases b <;> rfl
theorem scanF_join : ∀ (f : Nat) (s t : Bs) (a : List Tok) (e : Bs) (p : List Tok × Bs), s.length < f → scan s = .ok (a, e) → scan t = .ok p → scan (s ++ 10 :: t) = .ok (joined a e p)
  | 0, _, _, _, _, _, hf, _, _ => by omega
  | f + 1, s, t, a, e, p, hf, hs, ht => by
    have hsk := skipN_le false s
    by_cases h1 : skipN false s = s.length
    · rw [scan_end h1] at hs
      simp only [Except.ok.injEq, Prod.mk.injEq] at hs
      obtain ⟨rfl, rfl⟩ := hs
      have hj := skipN_line false s t h1
      have hst := skipN_le false t
      have hd : ∀ n, (s ++ 10 :: t).drop (s.length + 1 + n) = t.drop n := fun n => by
        rw [Nat.add_assoc, List.drop_append, List.drop_eq_nil_of_le (by omega), List.nil_append, show s.length + (1 + n) - s.length = n + 1 from by omega, List.drop_succ_cons]
      by_cases h2 : skipN false t = t.length
      · rw [scan_end h2] at ht
        injection ht with ht
        subst ht
        rw [scan_end (by rw [hj, List.length_append, List.length_cons]; omega)]
        rfl
      · by_cases h3 : tokN (t.drop (skipN false t)) = 0
        · rw [scan_bad (by omega) h3] at ht; cases ht
        · rw [scan_step (by omega) h3] at ht
          have h4 : skipN false (s ++ 10 :: t) < (s ++ 10 :: t).length := by rw [hj, List.length_append, List.length_cons]; omega
          rw [scan_step h4 (by rw [hj, hd]; exact h3), hj, hd, show s.length + 1 + skipN false t + tokN (t.drop (skipN false t)) = s.length + 1 + (skipN false t + tokN (t.drop (skipN false t))) from by omega, hd]
          cases hs' : scan (t.drop (skipN false t + tokN (t.drop (skipN false t)))) with
          | error j => rw [hs'] at ht; simp [after] at ht
          | ok q =>
            obtain ⟨ts, r⟩ := q
            rw [hs'] at ht
            simp only [after, Except.ok.injEq] at ht
            subst ht
            simp only [after, joined, List.cons_append, List.nil_append, Except.ok.injEq, Prod.mk.injEq, List.cons.injEq, Tok.mk.injEq, and_true, true_and]
            rw [show s.length + 1 + skipN false t = s.length + (skipN false t + 1) from by omega, List.take_length_add_append, List.take_succ_cons]
    · have h1' : skipN false s < s.length := by omega
      by_cases h2 : tokN (s.drop (skipN false s)) = 0
      · rw [scan_bad h1' h2] at hs; cases hs
      · rw [scan_step h1' h2] at hs
        have hm := tokN_le (s.drop (skipN false s))
        rw [List.length_drop] at hm
        have hap := skipN_append false s (10 :: t) h1'
        generalize hn : skipN false s = n at *
        have hdn : (s ++ 10 :: t).drop n = s.drop n ++ 10 :: t := List.drop_append_of_le_length (by omega)
        have htk : tokN ((s ++ 10 :: t).drop n) = tokN (s.drop n) := by
          rw [hdn, tokN_append _ _ (fun h => by have := congrArg List.length h; rw [List.length_drop] at this; simp at this; omega) (fun x hx => by simp at hx; subst hx; decide)]
        generalize hmm : tokN (s.drop n) = m at *
        cases hs' : scan (s.drop (n + m)) with
        | error j => rw [hs'] at hs; simp [after] at hs
        | ok q =>
          obtain ⟨ts, r⟩ := q
          rw [hs'] at hs
          simp only [after, Except.ok.injEq, Prod.mk.injEq, List.cons_append, List.nil_append] at hs
          obtain ⟨rfl, rfl⟩ := hs
          have ih := scanF_join f (s.drop (n + m)) t ts r p (by rw [List.length_drop]; omega) hs' ht
          have hdm : (s ++ 10 :: t).drop (n + m) = s.drop (n + m) ++ 10 :: t := List.drop_append_of_le_length (by omega)
          rw [scan_step (by rw [hap, List.length_append]; omega) (by rw [hap, htk]; exact h2), hap, htk, hdm, ih, joined_cons]
          simp only [after, List.cons_append, List.nil_append, Except.ok.injEq, Prod.mk.injEq, List.cons.injEq, Tok.mk.injEq, and_true]
          refine ⟨?_, ?_⟩
          · rw [hdn, List.take_append_of_le_length (by rw [List.length_drop]; omega)]
          · rw [List.take_append_of_le_length (by omega)]
theorem scan_join {s t : Bs} {a : List Tok} {e : Bs} {p : List Tok × Bs} (hs : scan s = .ok (a, e)) (ht : scan t = .ok p) : scan (s ++ 10 :: t) = .ok (joined a e p) :=
  scanF_join (s.length + 1) s t a e p (by omega) hs ht
end Go.Proofs.YtjjdfccbkohlcaaDoor.Lx
