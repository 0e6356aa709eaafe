/- The reference's Text and Usual. -/
import Derived.Test.YtjjdfccbkohlcaaDoorRefs
namespace Go.Proofs.YtjjdfccbkohlcaaDoor
open Go.RowKit

theorem flat_snoc_str {S p q : ByteArray} {f : Lx.Bs} {t : Lx.Tok} (hS : S = ⟨f.toArray⟩) (hp : p = ⟨t.text.toArray⟩) (hq : q = ⟨t.before.toArray⟩) : S ++ q ++ p = ⟨(f ++ (t.before ++ t.text)).toArray⟩ := by
  apply Go.WideShapes.bytes_inj
  rw [hS, hp, hq]
  simp [ByteArray.data_append]

set_option maxHeartbeats 2000000 in
set_option maxRecDepth 100000 in
theorem rtext_any (A : Option Addr) (n c : Nat) (ts : List Lx.Tok) (e : ByteArray) (w : World) (h1 : Rd w w.heap.size 2 A n (tokCells ts)) (e1 : ts.length = n) (hn : n ≤ 1000000) (hl : (flat ts).length + e.size ≤ 140737488355328) :
    Calls Tryd.prog 26 #[.slice A n c, .string e] w (RetB (str (flat ts ++ e.data.toList)) w) := by
  have E1 := Lib.hid e1
  clear e1
  go_enter Tryd.func26, Tryd.ntmps26
  go_wp2_with fail
  go_loopw [5, 6] (fun v x wr => ∃ k : Nat, k ≤ n ∧ x = .int .i64 k ∧ v = str (flat (ts.take k)) ∧ Below w.heap.size w wr) (fun _ x _ => n - (intOf x).toNat)
  case atStart => exact ⟨0, by omega, rfl, rfl, Below.refl _ _⟩
  case round =>
    obtain ⟨k, hk, rfl, rfl, hb⟩ := hrel
    have hsz := hb.size
    by_cases hlt : k < n
    · obtain ⟨b1, o1, rfl, hb1, x1, x2⟩ := (h1.below hb).tok E1.out hlt
      have l1 : k < ts.length := by have := E1.out; omega
      have Hts := Lib.hid (take_snoc (xs := ts) (k := k) l1)
      have f1 := flat_le ts (k + 1)
      rw [take_snoc l1, flat_snoc, List.length_append, List.length_append] at f1
      obtain ⟨p, hp⟩ : ∃ p : ByteArray, p = ⟨ts[k].text.toArray⟩ := ⟨_, rfl⟩
      obtain ⟨q, hq⟩ : ∃ q : ByteArray, q = ⟨ts[k].before.toArray⟩ := ⟨_, rfl⟩
      obtain ⟨S, hS⟩ : ∃ S : ByteArray, S = ⟨(flat (ts.take k)).toArray⟩ := ⟨_, rfl⟩
      have sp : p.size = ts[k].text.length := by rw [hp]; simp [ByteArray.size]
      have sq : q.size = ts[k].before.length := by rw [hq]; simp [ByteArray.size]
      have sS : S.size = (flat (ts.take k)).length := by rw [hS]; simp [ByteArray.size]
      have hs := Lib.hid (flat_snoc_str hS hp hq)
      have hv : str (flat (ts.take k)) = .string S := by rw [hS]
      rw [hv]
      unfold str at x1 x2
      rw [← hp] at x1
      rw [← hq] at x2
      have a1 : ¬ 9223372036854775807 < S.size + q.size := by omega
      have a2 : ¬ 9223372036854775807 < S.size + q.size + p.size := by omega
      clear hp hq hS hv
      go_wp2_with fail
      go_quiet (fail)
      go_wp2_with fail
      go_roundw
      case rel =>
        refine ⟨k + 1, by omega, by go_num, ?_, below_drewN hb _⟩
        rw [Hts.out, flat_snoc, hs.out]
      case measure => simp [intOf]; omega
    · obtain rfl : n = k := by omega
      have ht : ts.take n = ts := List.take_of_length_le (by have := E1.out; omega)
      rw [ht]
      obtain ⟨S, hS⟩ : ∃ S : ByteArray, S = ⟨(flat ts).toArray⟩ := ⟨_, rfl⟩
      have sS : S.size = (flat ts).length := by rw [hS]; simp [ByteArray.size]
      have hv : str (flat ts) = .string S := by rw [hS]
      rw [hv]
      have a1 : ¬ 9223372036854775807 < S.size + e.size := by omega
      have HS := Lib.hid hS
      clear hS hv
      go_wp2_with fail
      go_ret
      refine RetB.str' ?_ hb
      rw [HS.out]
      apply Go.WideShapes.bytes_inj
      simp [ByteArray.data_append]

theorem usual_take (ss : List Lx.Bs) (k : Nat) (h : k < ss.length + 1) : (usualL ss).take (k + 1) = (usualL ss).take k ++ [usualAt ss k] := by
  have hl : k < (usualL ss).length := by rw [usual_len]; exact h
  rw [take_snoc hl]
  congr 2
  have := usual_get ss k h
  rw [List.getElem?_eq_getElem hl] at this
  exact Option.some.inj this

theorem tight_not {p q : ByteArray} (h : tightP p q = false) : (q.toList == [41]) = false ∧ (q.toList == [93]) = false ∧ (q.toList == [44]) = false ∧ (q.toList == [46]) = false ∧ (p.toList == [40]) = false ∧ (p.toList == [91]) = false ∧ (p.toList == [46]) = false := by
  simp only [tightP, Bool.or_eq_false_iff] at h
  exact ⟨h.1.1.1.1, h.1.1.1.2, h.1.1.2, h.1.2, h.2.1.1, h.2.1.2, h.2.2⟩
theorem one_of (x a b c d : Lx.Bs) (hab : a ≠ b) (hac : a ≠ c) (had : a ≠ d) (hbc : b ≠ c) (hbd : b ≠ d) (hcd : c ≠ d) :
    ((x == a) = true ∧ (x == b) = false ∧ (x == c) = false ∧ (x == d) = false) ∨ ((x == a) = false ∧ (x == b) = true ∧ (x == c) = false ∧ (x == d) = false) ∨ ((x == a) = false ∧ (x == b) = false ∧ (x == c) = true ∧ (x == d) = false) ∨ ((x == a) = false ∧ (x == b) = false ∧ (x == c) = false ∧ (x == d) = true) ∨ ((x == a) = false ∧ (x == b) = false ∧ (x == c) = false ∧ (x == d) = false) := by
  simp only [beq_iff_eq, beq_eq_false_iff_ne, ne_eq]
  by_cases h1 : x = a
  · subst h1; exact .inl ⟨rfl, hab, hac, had⟩
  · by_cases h2 : x = b
    · subst h2; exact .inr (.inl ⟨h1, rfl, hbc, hbd⟩)
    · by_cases h3 : x = c
      · subst h3; exact .inr (.inr (.inl ⟨h1, h2, rfl, hcd⟩))
      · by_cases h4 : x = d
        · exact .inr (.inr (.inr (.inl ⟨h1, h2, h3, h4⟩)))
        · exact .inr (.inr (.inr (.inr ⟨h1, h2, h3, h4⟩)))
def tp3 (p : ByteArray) (a b c : Bool) : Prop := (p.toList == [40]) = a ∧ (p.toList == [91]) = b ∧ (p.toList == [46]) = c
def tq4 (q : ByteArray) (a b c d : Bool) : Prop := (q.toList == [41]) = a ∧ (q.toList == [93]) = b ∧ (q.toList == [44]) = c ∧ (q.toList == [46]) = d
theorem tight_yes {p q : ByteArray} (h : tightP p q = true) : (tp3 p true false false ∨ tp3 p false true false ∨ tp3 p false false true) ∨ (tp3 p false false false ∧ (tq4 q true false false false ∨ tq4 q false true false false ∨ tq4 q false false true false ∨ tq4 q false false false true)) := by
  have hp := one_of p.toList [40] [91] [46] [0] (by decide) (by decide) (by decide) (by decide) (by decide) (by decide)
  have hq := one_of q.toList [41] [93] [44] [46] (by decide) (by decide) (by decide) (by decide) (by decide) (by decide)
  unfold tp3 tq4
  unfold tightP at h
  generalize (p.toList == [40]) = a1 at *
  generalize (p.toList == [91]) = a2 at *
  generalize (p.toList == [46]) = a3 at *
  generalize (p.toList == [0]) = a4 at *
  generalize (q.toList == [41]) = b1 at *
  generalize (q.toList == [93]) = b2 at *
  generalize (q.toList == [44]) = b3 at *
  generalize (q.toList == [46]) = b4 at *
  cases a1 <;> cases a2 <;> cases a3 <;> cases a4 <;> cases b1 <;> cases b2 <;> cases b3 <;> cases b4 <;> simp at hp hq h ⊢

set_option maxHeartbeats 4000000 in
set_option maxRecDepth 100000 in
theorem rusual_any (A : Option Addr) (n c : Nat) (ss : List Lx.Bs) (w : World) (h1 : Rd w w.heap.size 1 A n (strCells ss)) (hn : n ≤ 1000000) :
    Calls Tryd.prog 28 #[.slice A n c] w (OwnPost w.heap.size 9 1 (n + 1) (strCells (usualL ss)) w) := by
  obtain ⟨i0, hi, hz0, hz1, hz2⟩ := info_parts info9
  have hl : ss.length = n := by have := h1.1; simpa [strCells] using this
  have Hl := Lib.hid hl
  have hu1 : (usualL ss).take 1 = [[]] := by
    have := usual_take ss 0 (by omega)
    rw [List.take_zero, List.nil_append] at this
    rw [this, usualAt, if_pos (.inl rfl)]
  have HU1 := Lib.hid hu1
  clear hl hu1
  go_enter Tryd.func28, Tryd.ntmps28
  go_wp2_with fail
  go_loopw [3, 4] (fun v x wr => ∃ k : Nat, 1 ≤ k ∧ k ≤ n + 1 ∧ x = .int .i64 k ∧ wr.ownsRow w.heap.size 9 1 v k (strCells ((usualL ss).take k)) ∧ Below w.heap.size w wr) (fun _ x _ => n + 2 - (intOf x).toNat)
  case atStart =>
    refine ⟨1, by omega, by omega, rfl, ?_, below_new w _⟩
    rw [HU1.out]
    exact World.ownsRow_lit w #[.string ⟨#[]⟩] 1 (Nat.le_refl _) (by decide) (by decide)
  case round =>
    obtain ⟨k, hk1, hk, rfl, hown, hb⟩ := hrel
    have hsz := hb.size
    by_cases hlt : k ≤ n
    · obtain ⟨b', o', rfl, hbb, x2⟩ := (h1.below hb).str Hl.out (show k - 1 < n by omega)
      obtain ⟨p, hp⟩ : ∃ p : ByteArray, p = ⟨(ss[k - 1]'(by have := Hl.out; omega)).toArray⟩ := ⟨_, rfl⟩
      rw [← hp] at x2
      have hut := usual_take ss k (by have := Hl.out; omega)
      have v1 : IntKind.i64.wrap ((k : Int) - 1) = (k : Int) - 1 := IntWalk.i64_in _ (by omega)
      have v2 : (0 : Int) ≤ (k : Int) - 1 := by omega
      have v4 : (1 : Int) ≤ (k : Int) := by omega
      have v3 : ((k : Int) - 1).toNat = k - 1 := by omega
      have v5 : (k : Int) - 1 < (n : Int) := by omega
      have v7 : (k : Int) ≤ (n : Int) := by omega
      by_cases hkn : k = n
      · have hu0 : usualAt ss k = [] := by rw [usualAt, if_pos (.inr (by have := Hl.out; omega))]
        rw [hu0] at hut
        have HT := Lib.hid hut
        have vn : ((k : Int) == (n : Int)) = true := by rw [hkn]; simp
        clear hut hu0 hp hkn
        have K2 : ∀ u ∈ [str []], u.oneCell' = true := by intro u hu; simp at hu; subst hu; rfl
        have K3 : k + 1 ≤ maxLen := by unfold maxLen; omega
        have K4 : (k + 1) * 16 ≤ 140737488355328 := by omega
        have K22 := Lib.hid K2
        clear K2
        go_wp2_with (at_builtin; refine wpList_append_own _ rfl _ _ 26 rfl w.heap.size 9 i0 _ 1 16 Tryd.underlying26 hi hz0 hz1 hz2 rfl (by decide) _ _ _ rfl (hown.alloc _) ⟨wr.heap.size, 0, none⟩ 1 1 [str []] rfl rfl (cells_one _ _ _) K22.out K3 K4 (by simp; omega) ?_)
        intro v' w2 hown1 hgrow _
        have hb3 : Below w.heap.size w w2 := (hb.alloc hsz _).grown hgrow (by simp; omega) (fun g hg => (hown.lt g hg).1)
        clear hgrow hown
        go_wp2_with fail
        go_roundw
        case rel =>
          refine ⟨k + 1, by omega, by omega, by go_num, ?_, hb3⟩
          rw [HT.out, strCells_snoc]
          exact hown1
        case measure => simp [intOf]; omega
      · obtain ⟨b2, o2, e2, hb2, x3⟩ := (h1.below hb).str Hl.out (show k < n by omega)
        injection e2 with e2
        injection e2 with e21 e22
        subst e21 e22
        obtain ⟨q, hq⟩ : ∃ q : ByteArray, q = ⟨(ss[k]'(by have := Hl.out; omega)).toArray⟩ := ⟨_, rfl⟩
        rw [← hq] at x3
        have hu : usualAt ss k = if tightP p q then [] else [32] := by
          rw [usualAt, if_neg (by have := Hl.out; omega), hp, hq, List.getD_eq_getElem?_getD, List.getD_eq_getElem?_getD, List.getElem?_eq_getElem, List.getElem?_eq_getElem, Option.getD_some, Option.getD_some]
        have vn : ((k : Int) == (n : Int)) = false := beq_eq_false_iff_ne.2 (by omega)
        have v8 : (k : Int) < (n : Int) := by omega
        have v9 : (0 : Int) ≤ (k : Int) := by omega
        rw [hu] at hut
        clear hu hp hq
        cases htp : tightP p q
        · rw [htp] at hut
          have HT : Hid ((usualL ss).take (k + 1) = (usualL ss).take k ++ [[32]]) := Lib.hid hut
          obtain ⟨n1, n2, n3, n4, n5, n6, n7⟩ := tight_not htp
          clear hut htp hkn
          have K2 : ∀ u ∈ [str [32]], u.oneCell' = true := by intro u hu; simp at hu; subst hu; rfl
          have K3 : k + 1 ≤ maxLen := by unfold maxLen; omega
          have K4 : (k + 1) * 16 ≤ 140737488355328 := by omega
          have K22 := Lib.hid K2
          clear K2
          go_wp2_with (at_builtin; refine wpList_append_own _ rfl _ _ 26 rfl w.heap.size 9 i0 _ 1 16 Tryd.underlying26 hi hz0 hz1 hz2 rfl (by decide) _ _ _ rfl (hown.alloc _) ⟨wr.heap.size, 0, none⟩ 1 1 [str [32]] rfl rfl (cells_one _ _ _) K22.out K3 K4 (by simp; omega) ?_)
          intro v' w2 hown1 hgrow _
          have hb3 : Below w.heap.size w w2 := (hb.alloc hsz _).grown hgrow (by simp; omega) (fun g hg => (hown.lt g hg).1)
          clear hgrow hown
          go_wp2_with fail
          go_roundw
          case rel =>
            refine ⟨k + 1, by omega, by omega, by go_num, ?_, hb3⟩
            rw [HT.out, strCells_snoc]
            exact hown1
          case measure => simp [intOf]; omega
        · rw [htp] at hut
          have HT : Hid ((usualL ss).take (k + 1) = (usualL ss).take k ++ [[]]) := Lib.hid hut
          have hc := tight_yes htp
          clear hut htp hkn
          rcases hc with (⟨m1, m2, m3⟩ | ⟨m1, m2, m3⟩ | ⟨m1, m2, m3⟩) | ⟨⟨m1, m2, m3⟩, (⟨n1, n2, n3, n4⟩ | ⟨n1, n2, n3, n4⟩ | ⟨n1, n2, n3, n4⟩ | ⟨n1, n2, n3, n4⟩)⟩
          · have K2 : ∀ u ∈ [str []], u.oneCell' = true := by intro u hu; simp at hu; subst hu; rfl
            have K3 : k + 1 ≤ maxLen := by unfold maxLen; omega
            have K4 : (k + 1) * 16 ≤ 140737488355328 := by omega
            have K22 := Lib.hid K2
            clear K2
            go_wp2_with (at_builtin; refine wpList_append_own _ rfl _ _ 26 rfl w.heap.size 9 i0 _ 1 16 Tryd.underlying26 hi hz0 hz1 hz2 rfl (by decide) _ _ _ rfl (hown.alloc _) ⟨wr.heap.size, 0, none⟩ 1 1 [str []] rfl rfl (cells_one _ _ _) K22.out K3 K4 (by simp; omega) ?_)
            intro v' w2 hown1 hgrow _
            have hb3 : Below w.heap.size w w2 := (hb.alloc hsz _).grown hgrow (by simp; omega) (fun g hg => (hown.lt g hg).1)
            clear hgrow hown
            go_wp2_with fail
            go_roundw
            case rel =>
              refine ⟨k + 1, by omega, by omega, by go_num, ?_, hb3⟩
              rw [HT.out, strCells_snoc]
              exact hown1
            case measure => simp [intOf]; omega
          · have K2 : ∀ u ∈ [str []], u.oneCell' = true := by intro u hu; simp at hu; subst hu; rfl
            have K3 : k + 1 ≤ maxLen := by unfold maxLen; omega
            have K4 : (k + 1) * 16 ≤ 140737488355328 := by omega
            have K22 := Lib.hid K2
            clear K2
            go_wp2_with (at_builtin; refine wpList_append_own _ rfl _ _ 26 rfl w.heap.size 9 i0 _ 1 16 Tryd.underlying26 hi hz0 hz1 hz2 rfl (by decide) _ _ _ rfl (hown.alloc _) ⟨wr.heap.size, 0, none⟩ 1 1 [str []] rfl rfl (cells_one _ _ _) K22.out K3 K4 (by simp; omega) ?_)
            intro v' w2 hown1 hgrow _
            have hb3 : Below w.heap.size w w2 := (hb.alloc hsz _).grown hgrow (by simp; omega) (fun g hg => (hown.lt g hg).1)
            clear hgrow hown
            go_wp2_with fail
            go_roundw
            case rel =>
              refine ⟨k + 1, by omega, by omega, by go_num, ?_, hb3⟩
              rw [HT.out, strCells_snoc]
              exact hown1
            case measure => simp [intOf]; omega
          · have K2 : ∀ u ∈ [str []], u.oneCell' = true := by intro u hu; simp at hu; subst hu; rfl
            have K3 : k + 1 ≤ maxLen := by unfold maxLen; omega
            have K4 : (k + 1) * 16 ≤ 140737488355328 := by omega
            have K22 := Lib.hid K2
            clear K2
            go_wp2_with (at_builtin; refine wpList_append_own _ rfl _ _ 26 rfl w.heap.size 9 i0 _ 1 16 Tryd.underlying26 hi hz0 hz1 hz2 rfl (by decide) _ _ _ rfl (hown.alloc _) ⟨wr.heap.size, 0, none⟩ 1 1 [str []] rfl rfl (cells_one _ _ _) K22.out K3 K4 (by simp; omega) ?_)
            intro v' w2 hown1 hgrow _
            have hb3 : Below w.heap.size w w2 := (hb.alloc hsz _).grown hgrow (by simp; omega) (fun g hg => (hown.lt g hg).1)
            clear hgrow hown
            go_wp2_with fail
            go_roundw
            case rel =>
              refine ⟨k + 1, by omega, by omega, by go_num, ?_, hb3⟩
              rw [HT.out, strCells_snoc]
              exact hown1
            case measure => simp [intOf]; omega
          · have K2 : ∀ u ∈ [str []], u.oneCell' = true := by intro u hu; simp at hu; subst hu; rfl
            have K3 : k + 1 ≤ maxLen := by unfold maxLen; omega
            have K4 : (k + 1) * 16 ≤ 140737488355328 := by omega
            have K22 := Lib.hid K2
            clear K2
            go_wp2_with (at_builtin; refine wpList_append_own _ rfl _ _ 26 rfl w.heap.size 9 i0 _ 1 16 Tryd.underlying26 hi hz0 hz1 hz2 rfl (by decide) _ _ _ rfl (hown.alloc _) ⟨wr.heap.size, 0, none⟩ 1 1 [str []] rfl rfl (cells_one _ _ _) K22.out K3 K4 (by simp; omega) ?_)
            intro v' w2 hown1 hgrow _
            have hb3 : Below w.heap.size w w2 := (hb.alloc hsz _).grown hgrow (by simp; omega) (fun g hg => (hown.lt g hg).1)
            clear hgrow hown
            go_wp2_with fail
            go_roundw
            case rel =>
              refine ⟨k + 1, by omega, by omega, by go_num, ?_, hb3⟩
              rw [HT.out, strCells_snoc]
              exact hown1
            case measure => simp [intOf]; omega
          · have K2 : ∀ u ∈ [str []], u.oneCell' = true := by intro u hu; simp at hu; subst hu; rfl
            have K3 : k + 1 ≤ maxLen := by unfold maxLen; omega
            have K4 : (k + 1) * 16 ≤ 140737488355328 := by omega
            have K22 := Lib.hid K2
            clear K2
            go_wp2_with (at_builtin; refine wpList_append_own _ rfl _ _ 26 rfl w.heap.size 9 i0 _ 1 16 Tryd.underlying26 hi hz0 hz1 hz2 rfl (by decide) _ _ _ rfl (hown.alloc _) ⟨wr.heap.size, 0, none⟩ 1 1 [str []] rfl rfl (cells_one _ _ _) K22.out K3 K4 (by simp; omega) ?_)
            intro v' w2 hown1 hgrow _
            have hb3 : Below w.heap.size w w2 := (hb.alloc hsz _).grown hgrow (by simp; omega) (fun g hg => (hown.lt g hg).1)
            clear hgrow hown
            go_wp2_with fail
            go_roundw
            case rel =>
              refine ⟨k + 1, by omega, by omega, by go_num, ?_, hb3⟩
              rw [HT.out, strCells_snoc]
              exact hown1
            case measure => simp [intOf]; omega
          · have K2 : ∀ u ∈ [str []], u.oneCell' = true := by intro u hu; simp at hu; subst hu; rfl
            have K3 : k + 1 ≤ maxLen := by unfold maxLen; omega
            have K4 : (k + 1) * 16 ≤ 140737488355328 := by omega
            have K22 := Lib.hid K2
            clear K2
            go_wp2_with (at_builtin; refine wpList_append_own _ rfl _ _ 26 rfl w.heap.size 9 i0 _ 1 16 Tryd.underlying26 hi hz0 hz1 hz2 rfl (by decide) _ _ _ rfl (hown.alloc _) ⟨wr.heap.size, 0, none⟩ 1 1 [str []] rfl rfl (cells_one _ _ _) K22.out K3 K4 (by simp; omega) ?_)
            intro v' w2 hown1 hgrow _
            have hb3 : Below w.heap.size w w2 := (hb.alloc hsz _).grown hgrow (by simp; omega) (fun g hg => (hown.lt g hg).1)
            clear hgrow hown
            go_wp2_with fail
            go_roundw
            case rel =>
              refine ⟨k + 1, by omega, by omega, by go_num, ?_, hb3⟩
              rw [HT.out, strCells_snoc]
              exact hown1
            case measure => simp [intOf]; omega
          · have K2 : ∀ u ∈ [str []], u.oneCell' = true := by intro u hu; simp at hu; subst hu; rfl
            have K3 : k + 1 ≤ maxLen := by unfold maxLen; omega
            have K4 : (k + 1) * 16 ≤ 140737488355328 := by omega
            have K22 := Lib.hid K2
            clear K2
            go_wp2_with (at_builtin; refine wpList_append_own _ rfl _ _ 26 rfl w.heap.size 9 i0 _ 1 16 Tryd.underlying26 hi hz0 hz1 hz2 rfl (by decide) _ _ _ rfl (hown.alloc _) ⟨wr.heap.size, 0, none⟩ 1 1 [str []] rfl rfl (cells_one _ _ _) K22.out K3 K4 (by simp; omega) ?_)
            intro v' w2 hown1 hgrow _
            have hb3 : Below w.heap.size w w2 := (hb.alloc hsz _).grown hgrow (by simp; omega) (fun g hg => (hown.lt g hg).1)
            clear hgrow hown
            go_wp2_with fail
            go_roundw
            case rel =>
              refine ⟨k + 1, by omega, by omega, by go_num, ?_, hb3⟩
              rw [HT.out, strCells_snoc]
              exact hown1
            case measure => simp [intOf]; omega
    · obtain rfl : k = n + 1 := by omega
      have ht : (usualL ss).take (n + 1) = usualL ss := List.take_of_length_le (by rw [usual_len]; have := Hl.out; omega)
      rw [ht] at hown
      go_wp2_with fail
      go_ret
      exact ⟨_, rfl, hown, hb⟩
end Go.Proofs.YtjjdfccbkohlcaaDoor
