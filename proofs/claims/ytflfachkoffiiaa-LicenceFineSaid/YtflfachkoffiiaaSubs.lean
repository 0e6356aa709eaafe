/- Sublists by bits, the order of lists, the least contradiction: plain law; chosen and less. -/
import Derived.Test.YtflfachkoffiiaaRefCheck
namespace Go.Proofs.Ytflfachkoffiiaa
open Go.RowKit Go.Lib

def chosenL : List Int → Nat → List Int
  | [], _ => []
  | x :: l, b => if b % 2 = 1 then x :: chosenL l (b / 2) else chosenL l (b / 2)
theorem chosen_snoc (x : Int) : ∀ (l : List Int) (b : Nat), chosenL (l ++ [x]) b = chosenL l b ++ if b / 2 ^ l.length % 2 = 1 then [x] else []
  | [], b => by simp [chosenL]
  | y :: l, b => by
    rw [List.cons_append, chosenL, chosenL, chosen_snoc x l (b / 2), List.length_cons, Nat.div_div_eq_div_mul, Nat.mul_comm 2, ← Nat.pow_succ]
    split <;> simp
theorem chosen_sub : ∀ (l : List Int) (b : Nat), (chosenL l b).Sublist l
  | [], _ => List.Sublist.refl _
  | x :: l, b => by
    rw [chosenL]
    split
    · exact (chosen_sub l _).cons_cons x
    · exact (chosen_sub l _).cons x
theorem sub_chosen {l x : List Int} (h : x.Sublist l) : ∃ b, b < 2 ^ l.length ∧ chosenL l b = x := by
  induction h with
  | slnil => exact ⟨0, by simp, rfl⟩
  | @cons x l a h ih =>
    obtain ⟨b, hb, e⟩ := ih
    refine ⟨2 * b, by rw [List.length_cons, Nat.pow_succ]; omega, ?_⟩
    rw [chosenL, if_neg (by omega), show 2 * b / 2 = b by omega]; exact e
  | @cons_cons x l a h ih =>
    obtain ⟨b, hb, e⟩ := ih
    refine ⟨2 * b + 1, by rw [List.length_cons, Nat.pow_succ]; omega, ?_⟩
    rw [chosenL, if_pos (by omega), show (2 * b + 1) / 2 = b by omega, e]

def lexB : List Int → List Int → Bool
  | x :: a, y :: b => if x = y then lexB a b else decide (x < y)
  | _, _ => false
def lessB (a b : List Int) : Bool := if a.length = b.length then lexB a b else decide (a.length < b.length)
theorem lex_eq : ∀ {a b : List Int}, a.length = b.length → lexB a b = false → lexB b a = false → a = b
  | [], [], _, _, _ => rfl
  | x :: a, y :: b, hl, h1, h2 => by
    rw [lexB] at h1 h2
    by_cases e : x = y
    · subst e
      rw [if_pos rfl] at h1 h2
      rw [lex_eq (by simpa using hl) h1 h2]
    · rw [if_neg e, decide_eq_false_iff_not] at h1
      rw [if_neg (Ne.symm e), decide_eq_false_iff_not] at h2
      omega
theorem less_eq {a b : List Int} (h1 : lessB a b = false) (h2 : lessB b a = false) : a = b := by
  unfold lessB at h1 h2
  by_cases e : a.length = b.length
  · rw [if_pos e] at h1
    rw [if_pos e.symm] at h2
    exact lex_eq e h1 h2
  · rw [if_neg e, decide_eq_false_iff_not] at h1
    rw [if_neg (Ne.symm e), decide_eq_false_iff_not] at h2
    omega
theorem lex_trans : ∀ {a b c : List Int}, a.length = b.length → b.length = c.length → lexB a b = true → lexB b c = true → lexB a c = true
  | [], _, _, _, _, h, _ => by simp [lexB] at h
  | _ :: _, [], _, _, _, h, _ => by simp [lexB] at h
  | _ :: _, _ :: _, [], _, _, _, h => by simp [lexB] at h
  | x :: a, y :: b, z :: c, l1, l2, h1, h2 => by
    rw [lexB] at h1 h2 ⊢
    by_cases e1 : x = y
    · subst e1
      rw [if_pos rfl] at h1
      by_cases e2 : x = z
      · subst e2
        rw [if_pos rfl] at h2 ⊢
        exact lex_trans (by simpa using l1) (by simpa using l2) h1 h2
      · rw [if_neg e2] at h2 ⊢
        exact h2
    · rw [if_neg e1, decide_eq_true_iff] at h1
      by_cases e2 : y = z
      · subst e2
        rw [if_neg e1, decide_eq_true_iff]; exact h1
      · rw [if_neg e2, decide_eq_true_iff] at h2
        rw [if_neg (by omega), decide_eq_true_iff]; omega
theorem less_trans {a b c : List Int} (h1 : lessB a b = true) (h2 : lessB b c = true) : lessB a c = true := by
  unfold lessB at *
  by_cases e1 : a.length = b.length
  · rw [if_pos e1] at h1
    by_cases e2 : b.length = c.length
    · rw [if_pos e2] at h2
      rw [if_pos (e1.trans e2)]
      exact lex_trans e1 e2 h1 h2
    · rw [if_neg e2, decide_eq_true_iff] at h2
      rw [if_neg (by omega), decide_eq_true_iff]; omega
  · rw [if_neg e1, decide_eq_true_iff] at h1
    by_cases e2 : b.length = c.length
    · rw [if_neg (by omega), decide_eq_true_iff]; omega
    · rw [if_neg e2, decide_eq_true_iff] at h2
      rw [if_neg (by omega), decide_eq_true_iff]; omega

/-- b is the least contradiction among the sublists of all -/
structure IsCore (l : List ClV) (all b : List Int) : Prop where
  sub : b.Sublist all
  bad : fineB l b = false
  least : ∀ x, x.Sublist all → fineB l x = false → lessB x b = false
theorem IsCore.unique {l : List ClV} {all b b' : List Int} (h : IsCore l all b) (h' : IsCore l all b') : b = b' := less_eq (h'.least b h.sub h.bad) (h.least b' h'.sub h'.bad)
open Classical in
noncomputable def coreV (l : List ClV) (sel : List Int) : List Int :=
  if h : validB l = true ∧ (sortedTo sel l.length).length ≤ 16 ∧ ∃ b, IsCore l (sortedTo sel l.length) b then Classical.choose h.2.2 else []
theorem coreV_of {l : List ClV} {sel b : List Int} (h1 : validB l = true) (h2 : (sortedTo sel l.length).length ≤ 16) (h : IsCore l (sortedTo sel l.length) b) : coreV l sel = b := by
  have hx : validB l = true ∧ (sortedTo sel l.length).length ≤ 16 ∧ ∃ b, IsCore l (sortedTo sel l.length) b := ⟨h1, h2, b, h⟩
  unfold coreV
  rw [dif_pos hx]
  exact (Classical.choose_spec hx.2.2).unique h
theorem coreV_invalid {l : List ClV} {sel : List Int} (h : validB l = false) : coreV l sel = [] := by
  unfold coreV; rw [dif_neg (fun hx => by rw [h] at hx; cases hx.1)]
theorem coreV_long {l : List ClV} {sel : List Int} (h : 16 < (sortedTo sel l.length).length) : coreV l sel = [] := by
  unfold coreV; rw [dif_neg (fun hx => by omega)]
theorem sub_fine {l : List ClV} {a b : List Int} (h : a.Sublist b) (hf : fineB l b = true) : fineB l a = true := fineB_iff.2 ((fineB_iff.1 hf).mono (fun _ hi _ _ => h.subset hi))
theorem coreV_fine {l : List ClV} {sel : List Int} (h : fineB l (sortedTo sel l.length) = true) : coreV l sel = [] := by
  unfold coreV; rw [dif_neg]
  rintro ⟨_, _, b, hb⟩
  have := sub_fine hb.sub h
  rw [hb.bad] at this; cases this

set_option maxHeartbeats 4000000 in
set_option maxRecDepth 100000 in
theorem less_any (A1 A2 : Option Addr) (n1 n2 c1 c2 : Nat) (xs ys : List Int) (w : World) (h1 : Rd w w.heap.size 1 A1 n1 (intCells xs)) (h2 : Rd w w.heap.size 1 A2 n2 (intCells ys)) (hn : n1 ≤ 1000) (hn2 : n2 ≤ 1000) (r : Bool) (hr : Hid (lessB xs ys = r)) :
    Calls Try.prog 41 #[.slice A1 n1 c1, .slice A2 n2 c2] w (RetB (.bool r) w) := by
  have E1 := Lib.hid (int_len h1)
  have E2 := Lib.hid (int_len h2)
  have H1 := Lib.hid h1
  have H2 := Lib.hid h2
  clear h1 h2
  by_cases hne : n1 = n2
  · subst hne
    have HR := Lib.hid (show lexB xs ys = r by rw [← hr.out, lessB, if_pos (by rw [E1.out, E2.out])])
    clear hr
    go_enter Try.func41, Try.ntmps41
    go_wp2_with fail
    go_loopw [5] (fun x wr => ∃ k : Nat, k ≤ n1 ∧ x = .int .i64 k ∧ Hid (lexB (xs.drop k) (ys.drop k) = r) ∧ Hid (Below w.heap.size w wr)) (fun x _ => n1 - (intOf x).toNat)
    case atStart => exact ⟨0, by omega, rfl, HR, Lib.hid (Below.refl _ _)⟩
    case round =>
      obtain ⟨k, hk, rfl, Q, B⟩ := hrel
      by_cases hlt : k < n1
      · obtain ⟨b1, o1, rfl, _, x1⟩ := (H1.out.below B.out).int hlt
        obtain ⟨b2, o2, rfl, _, x2⟩ := (H2.out.below B.out).int hlt
        have l1 : k < xs.length := by have := E1.out; omega
        have l2 : k < ys.length := by have := E2.out; omega
        have e1 : xs.getD k 0 = xs[k] := by rw [List.getD_eq_getElem?_getD, List.getElem?_eq_getElem l1]; rfl
        have e2 : ys.getD k 0 = ys[k] := by rw [List.getD_eq_getElem?_getD, List.getElem?_eq_getElem l2]; rfl
        have HQ := Q.out
        rw [List.drop_eq_getElem_cons l1, List.drop_eq_getElem_cons l2, lexB, ← e1, ← e2] at HQ
        obtain ⟨p, hp⟩ : ∃ p, p = xs.getD k 0 := ⟨_, rfl⟩
        obtain ⟨q, hq⟩ : ∃ q, q = ys.getD k 0 := ⟨_, rfl⟩
        rw [← hp] at x1 HQ
        rw [← hq] at x2 HQ
        have j1 : (k : Int) < (n1 : Int) := by omega
        have j0 : (0 : Int) ≤ (k : Int) := by omega
        clear hp hq e1 e2
        by_cases hx : p = q
        · rw [if_pos hx] at HQ
          have HQ2 := Lib.hid HQ
          have hx2 : (p == q) = true := by simp [hx]
          clear hx HQ
          go_wp2_with fail
          go_quiet (fail)
          go_wp2_with fail
          go_roundw
          case rel => exact ⟨k + 1, by omega, by go_num, HQ2, Lib.hid (below_drewN B.out _)⟩
          case measure => simp [intOf]; omega
        · rw [if_neg hx] at HQ
          have HQ2 := Lib.hid HQ
          have hx2 : (p == q) = false := beq_eq_false_iff_ne.2 hx
          clear hx HQ
          go_wp2_with fail
          go_quiet (fail)
          go_wp2_with fail
          go_quiet (fail)
          go_wp2_with fail
          go_ret
          exact RetB.of (by rw [← HQ2.out]; rfl) (below_drewN (below_drewN B.out _) _)
      · obtain rfl : k = n1 := by omega
        have HQ2 := Lib.hid (show false = r by rw [← Q.out, List.drop_of_length_le (by rw [E1.out]; exact Nat.le_refl _)]; rfl)
        go_wp2_with fail
        go_ret
        exact RetB.of (by rw [← HQ2.out]; rfl) B.out
  · have HR := Lib.hid (show decide (n1 < n2) = r by rw [← hr.out, lessB, E1.out, E2.out, if_neg hne])
    have hne2 : ((n1 : Int) == (n2 : Int)) = false := beq_eq_false_iff_ne.2 (by omega)
    clear hr
    go_enter Try.func41, Try.ntmps41
    go_wp2_with fail
    go_ret
    exact RetB.of (by rw [← HR.out]; rfl) (Below.refl _ _)

theorem bit_int (bits k : Nat) : (((bits : Int) / 2 ^ k).tmod 2 == 1) = decide (bits / 2 ^ k % 2 = 1) := by
  have e : (bits : Int) / 2 ^ k = ((bits / 2 ^ k : Nat) : Int) := by rw [Int.natCast_ediv, Int.natCast_pow]; rfl
  rw [e]
  generalize bits / 2 ^ k = a
  rw [Int.tmod_eq_emod_of_nonneg (Int.natCast_nonneg _), Bool.eq_iff_iff, beq_iff_eq, decide_eq_true_iff]
  omega

set_option maxHeartbeats 4000000 in
set_option maxRecDepth 100000 in
theorem chosen_any (A : Option Addr) (n c : Nat) (zs : List Int) (bits : Nat) (w : World) (h : Rd w w.heap.size 1 A n (intCells zs)) (hn : n ≤ 8) :
    Calls Try.prog 40 #[.slice A n c, .int .i64 bits] w (IPost (chosenL zs bits) w) := by
  have E := Lib.hid (int_len h)
  have H := Lib.hid h
  clear h
  go_enter Try.func40, Try.ntmps40
  go_wp2_with fail
  go_loopw [5, 6] (fun v x wr => ∃ k : Nat, k ≤ n ∧ x = .int .i64 k ∧ Hid (IAt wr w.heap.size v (intCells (chosenL (zs.take k) bits))) ∧ Hid (Below w.heap.size w wr)) (fun _ x _ => n - (intOf x).toNat)
  case atStart => exact ⟨0, by omega, rfl, Lib.hid (IAt.nil _ _), Lib.hid (Below.refl _ _)⟩
  case round =>
    obtain ⟨k, hk, rfl, Q, B⟩ := hrel
    by_cases hlt : k < n
    · obtain ⟨b1, o1, rfl, _, x1⟩ := (H.out.below B.out).int hlt
      have l1 : k < zs.length := by have := E.out; omega
      have e1 : zs.getD k 0 = zs[k] := by rw [List.getD_eq_getElem?_getD, List.getElem?_eq_getElem l1]; rfl
      have HST := Lib.hid (show chosenL (zs.take (k + 1)) bits = chosenL (zs.take k) bits ++ if bits / 2 ^ k % 2 = 1 then [zs.getD k 0] else [] by
        rw [List.take_succ_eq_append_getElem l1, chosen_snoc, List.length_take, Nat.min_eq_left (by omega), e1])
      have HLn := Lib.hid (show (intCells (chosenL (zs.take k) bits)).length ≤ 8 by
        rw [intCells, List.length_map]
        have := (chosen_sub (zs.take k) bits).length_le
        rw [List.length_take] at this
        omega)
      obtain ⟨z, hz⟩ : ∃ z, z = zs.getD k 0 := ⟨_, rfl⟩
      rw [← hz] at x1 HST
      have j1 : (k : Int) < (n : Int) := by omega
      have j0 : (0 : Int) ≤ (k : Int) := by omega
      clear hz e1
      have hbit := bit_int bits k
      by_cases hq : bits / 2 ^ k % 2 = 1
      · rw [if_pos hq] at HST
        rw [decide_eq_true hq] at hbit
        clear hq
        go_wp2_with (at_builtin; refine wpList_append_i _ rfl _ _ rfl rfl w.heap.size _ _ rfl (Q.out.alloc _) (Nat.le_trans B.out.size (by simp)) _ 1 _ rfl (src_oneI _ z _) (by have := HLn.out; omega) ?_)
        intro v3 w3 hq3 hgr hloc
        have HB3 := Lib.hid ((B.out.alloc B.out.size _).grown hgr (Nat.le_trans B.out.size (by simp)) (fun g hg => (Q.out.lt hg).1))
        rw [← intCells_snoc] at hq3
        clear hgr hloc
        go_wp2_with fail
        go_roundw
        case rel => exact ⟨k + 1, by omega, by go_num, Lib.hid (by rw [HST.out]; exact hq3), HB3⟩
        case measure => simp [intOf]; omega
      · rw [if_neg hq, List.append_nil] at HST
        rw [decide_eq_false hq] at hbit
        clear hq
        go_wp2_with fail
        go_roundw
        case rel => exact ⟨k + 1, by omega, by go_num, Lib.hid (by rw [HST.out]; exact Q.out), B⟩
        case measure => simp [intOf]; omega
    · obtain rfl : k = n := by omega
      have Q2 := Lib.hid (show IAt wr w.heap.size u5 (intCells (chosenL zs bits)) by have := Q.out; rwa [List.take_of_length_le (by have := E.out; omega)] at this)
      go_wp2_with fail
      go_ret
      exact ⟨_, rfl, Q2.out, B.out⟩
end Go.Proofs.Ytflfachkoffiiaa
