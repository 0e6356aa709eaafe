/- The plain law of layouts: what is laid out is read as it was laid. -/
import Derived.Test.YtjjdfccbkohlcaaDoorPieces
import Derived.Test.YtjjdfccbkohlcaaDoorText
import Derived.Test.YtjjdfccbkohlcaaDoorMath2
namespace Go.Proofs.YtjjdfccbkohlcaaDoor
open Go.RowKit

/-- a blank that ends outside a comment -/
def Closes (b : Lx.Bs) : Prop := ∀ r, Lx.skipN false (b ++ r) = b.length + Lx.skipN false r
theorem Closes.full {b : Lx.Bs} (h : Closes b) : Lx.skipN false b = b.length := by have := h []; simpa [Lx.skipN] using this
theorem Closes.append {a b : Lx.Bs} (ha : Closes a) (hb : Closes b) : Closes (a ++ b) := fun r => by
  rw [List.append_assoc, ha, hb, List.length_append]; omega
theorem closes_nil : Closes [] := fun r => by simp
theorem closes_space : Closes [32] := fun r => by simp [Lx.skipN]; omega
theorem closes_gapL (k : Nat) : Closes (gapL.getD (k % 8) []) := by
  have h : k % 8 < 8 := by omega
  generalize k % 8 = j at h
  intro r
  match j, h with
  | 0, _ => simp [gapL]
  | 1, _ => simp [gapL, Lx.skipN]; omega
  | 2, _ => simp [gapL, Lx.skipN]; omega
  | 3, _ => simp [gapL, Lx.skipN]; omega
  | 4, _ => simp [gapL, Lx.skipN]; omega
  | 5, _ => simp [gapL, Lx.skipN]; omega
  | 6, _ => simp [gapL, Lx.skipN]; omega
  | 7, _ => simp [gapL, Lx.skipN]; omega
theorem closes_raw (k : Nat) : Closes (gapRaw k) := by
  unfold gapRaw
  split
  · exact (closes_gapL k).append (closes_gapL (k / 8))
  · exact closes_gapL k
theorem closes_gap (k : Nat) (sm : Int) : Closes (gapB k sm) := by
  unfold gapB
  split
  · exact closes_space
  · exact closes_raw k
theorem closes_usual (ss : List Lx.Bs) (i : Nat) : Closes (usualAt ss i) := by
  unfold usualAt
  split
  · exact closes_nil
  · split
    · exact closes_nil
    · exact closes_space

/-- a list that begins with nothing that a token could go on with -/
def Stop (b : Lx.Bs) : Prop := ∀ x, b.head? = some x → Lx.stops x = true
theorem stop_gapL (k : Nat) : Stop (gapL.getD (k % 8) []) := by
  have h : k % 8 < 8 := by omega
  generalize k % 8 = j at h
  intro x hx
  match j, h with
  | 0, _ => simp [gapL] at hx
  | 1, _ => simp [gapL] at hx; subst hx; decide
  | 2, _ => simp [gapL] at hx; subst hx; decide
  | 3, _ => simp [gapL] at hx; subst hx; decide
  | 4, _ => simp [gapL] at hx; subst hx; decide
  | 5, _ => simp [gapL] at hx; subst hx; decide
  | 6, _ => simp [gapL] at hx; subst hx; decide
  | 7, _ => simp [gapL] at hx; subst hx; decide
theorem Stop.append {a b : Lx.Bs} (ha : Stop a) (hb : Stop b) : Stop (a ++ b) := fun x hx => by
  cases a with
  | nil => exact hb x hx
  | cons y t => exact ha x hx
theorem Stop.more {a b : Lx.Bs} (ha : Stop a) (hn : a ≠ []) : Stop (a ++ b) := fun x hx => by
  cases a with
  | nil => exact absurd rfl hn
  | cons y t => exact ha x hx
theorem stop_gap (k : Nat) (sm : Int) : Stop (gapB k sm) := by
  unfold gapB
  split
  · intro x hx; simp at hx; subst hx; decide
  · unfold gapRaw
    split
    · exact (stop_gapL k).append (stop_gapL (k / 8))
    · exact stop_gapL k
theorem gap_some (k : Nat) (sm : Int) (h : sm ≠ 0) : gapB k sm ≠ [] := by
  unfold gapB
  split
  · simp
  · rename_i hc
    intro he
    exact hc ⟨he, h⟩

/-- one token alone -/
def IsTok (b : Lx.Bs) : Prop := Lx.tokN b = b.length ∧ b ≠ [] ∧ (∀ r, Lx.skipN false (b ++ r) = 0) ∧ b.length ≤ 16
def tokB (b : Lx.Bs) : Bool := Lx.tokN b == b.length && b.head?.any (fun x => x != 10 && x != 35 && x != 32) && decide (b.length ≤ 16)
theorem isTok_of (b : Lx.Bs) (h : tokB b = true) : IsTok b := by
  simp only [tokB, Bool.and_eq_true, beq_iff_eq, decide_eq_true_eq] at h
  obtain ⟨⟨h1, h2⟩, h3⟩ := h
  cases b with
  | nil => simp at h2
  | cons x t =>
    simp only [List.head?_cons, Option.any_some, Bool.and_eq_true, bne_iff_ne, ne_eq] at h2
    refine ⟨h1, by simp, fun r => ?_, h3⟩
    rw [List.cons_append, Lx.skipN, if_neg h2.1.1, if_neg h2.1.2, if_neg]
    simp [h2.2]
theorem all_wordsL : (wordsL ++ numsL ++ psignsL).all tokB = true := by decide +kernel
theorem isTok_piece (k : Nat) : IsTok (pieceB k) := by
  have h := all_wordsL
  rw [List.all_eq_true] at h
  apply isTok_of
  unfold pieceB
  have hw : ∀ (l : List Lx.Bs) (j : Nat), j < l.length → l.getD j [] ∈ l := fun l j hj => by
    rw [List.getD_eq_getElem?_getD, List.getElem?_eq_getElem hj, Option.getD_some]; exact List.getElem_mem hj
  split
  · exact h _ (by simp only [List.mem_append]; exact .inl (.inl (hw _ _ (by simp [wordsL]; omega))))
  · split
    · exact h _ (by simp only [List.mem_append]; exact .inl (.inr (hw _ _ (by simp [numsL]; omega))))
    · exact h _ (by simp only [List.mem_append]; exact .inr (hw _ _ (by simp [psignsL]; omega)))

/-- tokens that are read as they stand -/
def Fine : List Lx.Tok → Lx.Bs → Prop
  | [], e => Lx.skipN false e = e.length
  | t :: ts, e => Closes t.before ∧ IsTok t.text ∧ Lx.tokN (t.text ++ (flat ts ++ e)) = t.text.length ∧ Fine ts e
theorem flat_cons (t : Lx.Tok) (ts : List Lx.Tok) : flat (t :: ts) = t.before ++ t.text ++ flat ts := by simp [flat]
theorem scan_fine : ∀ (ts : List Lx.Tok) (e : Lx.Bs), Fine ts e → Lx.scan (flat ts ++ e) = .ok (ts, e)
  | [], e, h => by
    have : flat [] ++ e = e := rfl
    rw [this, Lx.scan_end h]
  | t :: ts, e, ⟨h1, h2, h3, h4⟩ => by
    have ih := scan_fine ts e h4
    have hs : Lx.skipN false (flat (t :: ts) ++ e) = t.before.length := by
      rw [flat_cons, List.append_assoc, List.append_assoc, h1, h2.2.2.1]; omega
    have hd : (flat (t :: ts) ++ e).drop t.before.length = t.text ++ (flat ts ++ e) := by
      rw [flat_cons, List.append_assoc, List.append_assoc, List.drop_left]
    have hne : 0 < t.text.length := List.length_pos_iff.2 h2.2.1
    rw [Lx.scan_step (by rw [hs, flat_cons]; simp; omega) (by rw [hs, hd, h3]; omega), hs, hd, h3]
    have hd2 : (flat (t :: ts) ++ e).drop (t.before.length + t.text.length) = flat ts ++ e := by
      rw [← List.drop_drop, hd, List.drop_left]
    have ht : (flat (t :: ts) ++ e).take t.before.length = t.before := by
      rw [flat_cons, List.append_assoc, List.append_assoc, List.take_left]
    rw [hd2, ih, ht, List.take_left]
    simp [Lx.after]

theorem fine_range (f : Nat → Lx.Tok) (e : Lx.Bs) (he : Lx.skipN false e = e.length) (N : Nat)
    (h1 : ∀ j, j < N → Closes (f j).before ∧ IsTok (f j).text)
    (h2 : ∀ j, j + 1 < N → ∀ r, Lx.tokN ((f j).text ++ ((f (j + 1)).before ++ (f (j + 1)).text ++ r)) = (f j).text.length)
    (h3 : ∀ j, j + 1 = N → Lx.tokN ((f j).text ++ e) = (f j).text.length) : ∀ n i, i + n = N → Fine ((List.range' i n).map f) e
  | 0, i, _ => he
  | n + 1, i, hi => by
    have ih := fine_range f e he N h1 h2 h3 n (i + 1) (by omega)
    rw [List.range'_succ, List.map_cons]
    refine ⟨(h1 i (by omega)).1, (h1 i (by omega)).2, ?_, ih⟩
    cases n with
    | zero => exact h3 i (by omega)
    | succ m =>
      rw [List.range'_succ, List.map_cons, flat_cons, List.append_assoc]
      exact h2 i (by omega) _

theorem flat_small (f : Nat → Lx.Tok) (h : ∀ j, (f j).text.length ≤ 16 ∧ (f j).before.length ≤ 16) : ∀ n, (flat ((List.range n).map f)).length ≤ n * 32
  | 0 => by simp [flat]
  | n + 1 => by
    have ih := flat_small f h n
    have := h n
    rw [List.range_succ, List.map_append, List.map_singleton, flat_snoc, List.length_append, List.length_append]
    omega

def layTok (ms : List Int) (ws : List Lx.Bs) (i : Nat) : Lx.Tok := ⟨ws.getD i [], gapB (aroundI (atI ms i 4000) 1000000).toNat i⟩
def usuTok (ws : List Lx.Bs) (i : Nat) : Lx.Tok := ⟨ws.getD i [], usualAt ws i⟩
def layTo (f : Nat → Lx.Tok) (k : Nat) : List Lx.Tok := (List.range k).map f
theorem layTo_succ (f : Nat → Lx.Tok) (k : Nat) : layTo f (k + 1) = layTo f k ++ [f k] := by simp [layTo, List.range_succ]
theorem layTo_length (f : Nat → Lx.Tok) (k : Nat) : (layTo f k).length = k := by simp [layTo]
theorem layTo_range (f : Nat → Lx.Tok) (k : Nat) : layTo f k = (List.range' 0 k).map f := by rw [layTo, List.range_eq_range']

theorem pieces_tok (zs : List Int) (i : Nat) (h : i < (pieces zs).length) : IsTok ((pieces zs).getD i []) := by
  rw [List.getD_eq_getElem?_getD, List.getElem?_eq_getElem h, Option.getD_some]
  simp only [pieces, List.getElem_map]
  exact isTok_piece _
theorem pieces_le (zs : List Int) : (pieces zs).length ≤ 30 := by simp [pieces]; omega
theorem tok_stop {b r : Lx.Bs} (h : IsTok b) (hr : Stop r) : Lx.tokN (b ++ r) = b.length := by rw [Lx.tokN_append _ _ h.2.1 hr, h.1]

theorem lay_fine (zs ms : List Int) (k : Nat) (sm : Int) : Fine (layTo (layTok ms (pieces zs)) (pieces zs).length) (gapB k sm) := by
  rw [layTo_range]
  refine fine_range _ _ (closes_gap _ _).full (pieces zs).length (fun j hj => ⟨closes_gap _ _, pieces_tok zs j hj⟩) (fun j hj r => ?_) (fun j hj => ?_) _ _ (by omega)
  · refine tok_stop (pieces_tok zs j (by omega)) ?_
    rw [List.append_assoc]
    exact (stop_gap _ _).more (gap_some _ _ (by omega))
  · exact tok_stop (pieces_tok zs j (by omega)) (stop_gap _ _)

theorem open_tok (c : UInt8) (h : c = 40 ∨ c = 91 ∨ c = 46) (r : Lx.Bs) : Lx.tokN (c :: r) = 1 := by
  rcases h with rfl | rfl | rfl <;> cases r <;> simp [Lx.tokN, Lx.isL, Lx.isD, Lx.signN, Lx.single, Lx.double]
theorem tight_cases {p q : Lx.Bs} (h : tightP ⟨p.toArray⟩ ⟨q.toArray⟩ = true) : (q = [41] ∨ q = [93] ∨ q = [44] ∨ q = [46]) ∨ (p = [40] ∨ p = [91] ∨ p = [46]) := by
  simpa [tightP, Lib.toList_data, or_assoc] using h
theorem usu_fine (zs : List Int) : Fine (layTo (usuTok (pieces zs)) (pieces zs).length) [] := by
  rw [layTo_range]
  refine fine_range _ _ rfl (pieces zs).length (fun j hj => ⟨closes_usual _ _, pieces_tok zs j hj⟩) (fun j hj r => ?_) (fun j hj => ?_) _ _ (by omega)
  · have ht := pieces_tok zs j (by omega)
    show Lx.tokN ((pieces zs).getD j [] ++ (usualAt (pieces zs) (j + 1) ++ (pieces zs).getD (j + 1) [] ++ r)) = ((pieces zs).getD j []).length
    unfold usualAt
    rw [if_neg (by omega), Nat.add_sub_cancel]
    split
    · rename_i hc
      rcases tight_cases hc with h | h
      · refine tok_stop ht ?_
        intro x hx
        rcases h with h | h | h | h <;> (rw [h] at hx; simp at hx; subst hx; decide)
      · obtain ⟨c, hc1, hc2⟩ : ∃ c, (pieces zs).getD j [] = [c] ∧ (c = 40 ∨ c = 91 ∨ c = 46) := by
          rcases h with h | h | h
          · exact ⟨_, h, .inl rfl⟩
          · exact ⟨_, h, .inr (.inl rfl)⟩
          · exact ⟨_, h, .inr (.inr rfl)⟩
        rw [hc1, List.singleton_append, open_tok c hc2]
        rfl
    · refine tok_stop ht ?_
      intro x hx
      simp at hx
      subst hx
      decide
  · show Lx.tokN ((pieces zs).getD j [] ++ []) = ((pieces zs).getD j []).length
    rw [List.append_nil]
    exact (pieces_tok zs j (by omega)).1

theorem piece_small (zs : List Int) (j : Nat) : ((pieces zs).getD j []).length ≤ 16 := by
  by_cases h : j < (pieces zs).length
  · exact (pieces_tok zs j h).2.2.2
  · rw [List.getD_eq_getElem?_getD, List.getElem?_eq_none (by omega)]; simp
theorem usualAt_len (ss : List Lx.Bs) (i : Nat) : (usualAt ss i).length ≤ 1 := by
  unfold usualAt
  split <;> (try split) <;> simp
theorem lay_small (zs ms : List Int) : (flat (layTo (layTok ms (pieces zs)) (pieces zs).length)).length ≤ 960 := by
  have h := flat_small (layTok ms (pieces zs)) (fun j => ⟨piece_small zs j, gapB_len _ _⟩) (pieces zs).length
  have := pieces_le zs
  rw [layTo]; omega
theorem usu_small (zs : List Int) : (flat (layTo (usuTok (pieces zs)) (pieces zs).length)).length ≤ 960 := by
  have h := flat_small (usuTok (pieces zs)) (fun j => ⟨piece_small zs j, by have := usualAt_len (pieces zs) j; show (usualAt (pieces zs) j).length ≤ 16; omega⟩) (pieces zs).length
  have := pieces_le zs
  rw [layTo]; omega
theorem lay_scan (zs ms : List Int) (k : Nat) (sm : Int) : Lx.scanT (flat (layTo (layTok ms (pieces zs)) (pieces zs).length) ++ gapB k sm) = (layTo (layTok ms (pieces zs)) (pieces zs).length, gapB k sm, -1) := by
  have h1 := lay_small zs ms
  have h2 := gapB_len k sm
  exact scanT_ok (by rw [List.length_append]; omega) (scan_fine _ _ (lay_fine zs ms k sm))
theorem usu_scan (zs : List Int) : Lx.scanT (flat (layTo (usuTok (pieces zs)) (pieces zs).length)) = (layTo (usuTok (pieces zs)) (pieces zs).length, [], -1) := by
  have h1 := usu_small zs
  have h2 := scan_fine _ _ (usu_fine zs)
  rw [List.append_nil] at h2
  exact scanT_ok (by omega) h2
theorem usual_last (zs : List Int) : usualAt (pieces zs) (pieces zs).length = [] := by unfold usualAt; rw [if_pos (.inr (Nat.le_refl _))]
theorem usual_len (ss : List Lx.Bs) : (usualL ss).length = ss.length + 1 := by simp [usualL]
theorem usual_get (ss : List Lx.Bs) (i : Nat) (h : i < ss.length + 1) : (usualL ss)[i]? = some (usualAt ss i) := by simp [usualL, h]
end Go.Proofs.YtjjdfccbkohlcaaDoor
