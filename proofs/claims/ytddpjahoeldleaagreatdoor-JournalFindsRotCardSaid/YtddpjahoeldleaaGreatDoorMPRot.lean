/- Plain law: what is found after bits have rotted; contract of genuine. -/
import Derived.Test.YtddpjahoeldleaaGreatDoorMPSane
import Derived.Test.YtddpjahoeldleaaGreatDoorMRefUnpack
import Derived.Test.YtddpjahoeldleaaGreatDoorMJWrite
import Derived.Deep.RegionHeld3
import Derived.Test.YtddpjahoeldleaaGreatDoorHAll
import Derived.Test.YtddpjahoeldleaaGreatDoorMJStepsB
import Derived.Test.YtddpjahoeldleaaGreatDoorMJMore

/-! Plain law: what is found after the power has failed during an append. -/
namespace Go.Proofs.YtddpjahoeldleaaGreatDoor
open Dk (RSt Sim rMountS rTripS mountL settleX tornB pq pickF)

theorem mount_dirty (pf : Nat → Int) : ∀ (l : List Dk.Sec) (k : Nat), ∀ x ∈ mountL pf l k, x.dirty = false
  | [], _, _, h => by cases h
  | y :: r, k, x, h => by
    rw [mountL] at h
    split at h
    · rcases List.mem_cons.1 h with rfl | h
      · rfl
      · exact mount_dirty pf r _ x h
    · rename_i hd
      rcases List.mem_cons.1 h with rfl | h
      · simpa using hd
      · exact mount_dirty pf r _ x h
theorem dirtL_nil : ∀ m : List Dk.Sec, dirtL m [] = m
  | [] => rfl
  | _ :: _ => rfl
/-- some sectors of a record, torn -/
theorem mount_torn (pf : Nat → Int) : ∀ (l : List Bs) (mid post : List Dk.Sec) (k : Nat), l.length ≤ mid.length → (∀ x ∈ mid, x.text = zero64 ∧ x.dirty = false ∧ x.worn = false) → (∀ x ∈ post, x.dirty = false) →
    ∃ X : List Bs, (mountL pf (dirtL mid l ++ post) k).map (·.text) = X ++ post.map (·.text) ∧ X.length = mid.length ∧ ∀ (i : Nat) (s : Bs), X[i]? = some s → s = zero64 ∨ ∃ b q, l[i]? = some b ∧ s = b.take q ++ zero64.drop q
  | [], mid, post, k, _, hm, hp => by
    refine ⟨mid.map (·.text), ?_, by simp, fun i s hs => .inl ?_⟩
    · rw [dirtL_nil, mountL_clean _ _ _ (fun x hx => (List.mem_append.1 hx).elim (fun h => (hm x h).2.1) (hp x)), List.map_append]
    · have := List.mem_of_getElem? hs
      obtain ⟨x, hx, rfl⟩ := List.mem_map.1 this
      exact (hm x hx).1
  | b :: l, [], _, _, h, _, _ => by simp at h
  | b :: l, x :: r, post, k, hl, hm, hp => by
    obtain ⟨X, e, hX, hs⟩ := mount_torn pf l r post (k + 1) (by simpa using hl) (fun y hy => hm y (List.mem_cons_of_mem _ hy)) hp
    obtain ⟨h1, h2, h3⟩ := hm x (List.mem_cons_self ..)
    refine ⟨(b.take (pq (pf k)) ++ zero64.drop (pq (pf k))) :: X, ?_, by rw [List.length_cons, hX, List.length_cons], fun i s hi => ?_⟩
    · rw [dirtL, List.cons_append, mountL, if_pos (show (dirt x b).dirty = true from rfl), List.map_cons, e, List.cons_append]
      congr 1
      show (if (dirt x b).worn then (dirt x b).text else tornB (dirt x b).next (dirt x b).text (pq (pf k))) = _
      rw [show (dirt x b).worn = x.worn from rfl, h3, show (dirt x b).text = x.text from rfl, h1]
      rfl
    · cases i with
      | zero =>
        obtain rfl : _ = s := by simpa using hi
        exact .inr ⟨b, _, rfl, rfl⟩
      | succ i => exact hs i s (by simpa using hi)

/-- what genuine computes -/
def genOne (texts : List Bs) (s : Bs) : Bool :=
  !(unpackB s).ok || (decide ((unpackB s).number ≤ texts.length) && (decide (packE ((unpackB s).number : Int) (texts.getD ((unpackB s).number - 1) []) = 0) && (decide ((unpackB s).part < (packV ((unpackB s).number : Int) (texts.getD ((unpackB s).number - 1) [])).length) && decide ((packV ((unpackB s).number : Int) (texts.getD ((unpackB s).number - 1) [])).getD (unpackB s).part [] = s))))
def genB (image texts : List Bs) : Bool := image.all (genOne texts)
theorem gen_one {texts : List Bs} {s : Bs} (h : genOne texts s = true) (ho : (unpackB s).ok = true) : ∃ t, texts[(unpackB s).number - 1]? = some t ∧ (unpackB s).number ≤ texts.length ∧ t.length ≤ 8000 ∧ (unpackB s).part < countN t.length ∧ s = sectB (unpackB s).number t (unpackB s).part := by
  unfold genOne at h
  simp only [ho, Bool.not_true, Bool.false_or, Bool.and_eq_true, decide_eq_true_eq] at h
  obtain ⟨h1, h2, h3, h4⟩ := h
  have hn := (part_le s).2.2.1 ho
  have ht : texts[(unpackB s).number - 1]? = some (texts[(unpackB s).number - 1]'(by omega)) := List.getElem?_eq_getElem (by omega)
  have hd : texts.getD ((unpackB s).number - 1) [] = texts[(unpackB s).number - 1]'(by omega) := by rw [List.getD_eq_getElem?_getD, ht]; rfl
  rw [hd] at h2 h3 h4
  rw [packV, if_pos h2, Int.toNat_natCast] at h3 h4
  have h8 : (texts[(unpackB s).number - 1]'(by omega)).length ≤ 8000 := by
    unfold packE at h2
    split at h2
    · cases h2
    · split at h2
      · cases h2
      · omega
  rw [pack_len] at h3
  refine ⟨_, ht, h1, h8, h3, ?_⟩
  rw [List.getD_eq_getElem?_getD, pack_at h3] at h4
  exact h4.symm
theorem unpack_fields {s : Bs} (ho : (unpackB s).ok = true) : (unpackB s).number = numB (s.take 4) ∧ (unpackB s).part = numB ((s.drop 4).take 2) ∧ (unpackB s).left = numB ((s.drop 6).take 2) := by
  unfold unpackB at ho ⊢
  split
  · exact ⟨rfl, rfl, rfl⟩
  · rename_i h; rw [if_neg h] at ho; cases ho
theorem num_zeros (m : Nat) : numB (List.replicate m 0) = 0 := by
  induction m with
  | zero => rfl
  | succ m ih => rw [List.replicate_succ, numB, ih]; rfl
theorem le_byte {n : Nat} (h : n < 256) (k : Nat) : leN n (k + 1) = UInt8.ofNat n :: List.replicate k 0 := by
  rw [leN, Nat.mod_eq_of_lt h, Nat.div_eq_of_lt h]
  congr 1
  induction k with
  | zero => rfl
  | succ k ih => rw [leN, ih]; rfl
/-- the first bytes of a sector of a small number -/
theorem sect_bytes {n i : Nat} (hn : n < 256) (hi : i < 256) (t : Bs) : ∃ r, sectB n t i = UInt8.ofNat n :: 0 :: 0 :: 0 :: UInt8.ofNat i :: 0 :: r ∧ r.length = 58 := by
  have hl := sect_len n t i
  refine ⟨(sectB n t i).drop 6, ?_, by rw [List.length_drop, hl]⟩
  have e : sectB n t i = leN n 4 ++ (leN i 2 ++ ((sectB n t i).drop 6)) := by
    rw [← List.append_assoc]
    have h : (leN n 4 ++ leN i 2).length = 6 := by simp [le_len]
    have h2 : (sectB n t i).take 6 = leN n 4 ++ leN i 2 := by
      rw [sectB, checkedB, bodyB]
      simp only [List.append_assoc]
      rw [← List.append_assoc (leN n 4)]
      exact List.take_left' h
    rw [← h2, List.take_append_drop]
  rw [le_byte hn 3, le_byte hi 1] at e
  exact e
/-- a torn sector that is genuine is the record's own -/
theorem torn_own {R : List Bs} {t : Bs} {i q : Nat} (hR : R.length ≤ 200) (h8 : t.length ≤ 8000) (hi : i < countN t.length) (hg : genOne (R ++ [t]) ((sectB (R.length + 1) t i).take q ++ zero64.drop q) = true) :
    (sectB (R.length + 1) t i).take q ++ zero64.drop q = sectB (R.length + 1) t i ∨ (unpackB ((sectB (R.length + 1) t i).take q ++ zero64.drop q)).ok = false := by
  cases ho : (unpackB ((sectB (R.length + 1) t i).take q ++ zero64.drop q)).ok with
  | false => exact .inr rfl
  | true =>
    left
    have hi167 : i < 256 := by
      unfold countN at hi
      rw [if_neg (by omega)] at hi
      split at hi <;> omega
    obtain ⟨t', g1, g2, g3, g4, g5⟩ := gen_one hg ho
    obtain ⟨f1, f2, f3⟩ := unpack_fields ho
    obtain ⟨r, hb, hr⟩ := sect_bytes (n := R.length + 1) (by omega) hi167 t
    obtain ⟨s, hs⟩ : ∃ s, s = (sectB (R.length + 1) t i).take q ++ zero64.drop q := ⟨_, rfl⟩
    rw [← hs] at g1 g2 g4 g5 f1 f2 f3 ho ⊢
    have hN : (UInt8.ofNat (R.length + 1)).toNat = R.length + 1 := by rw [UInt8.toNat_ofNat', Nat.mod_eq_of_lt (by omega)]
    have hI : (UInt8.ofNat i).toNat = i := by rw [UInt8.toNat_ofNat', Nat.mod_eq_of_lt (by omega)]
    generalize UInt8.ofNat (R.length + 1) = x0 at hb hN
    generalize UInt8.ofNat i = x4 at hb hI
    have hz : zero64 = 0 :: 0 :: 0 :: 0 :: 0 :: 0 :: List.replicate 58 0 := rfl
    -- the number
    have hnum : q = 0 ∨ (unpackB s).number = R.length + 1 := by
      rcases Nat.eq_zero_or_pos q with h0 | h0
      · exact .inl h0
      · right
        rw [f1, hs, hb, hz]
        match q, h0 with
        | 1, _ => simp [numB, hN]
        | 2, _ => simp [numB, hN]
        | 3, _ => simp [numB, hN]
        | q + 4, _ => simp [numB, hN]
    have hq0 : q ≠ 0 := fun h0 => by
      subst h0
      rw [List.take_zero, List.drop_zero, List.nil_append] at hs
      rw [hs, unpack_zero] at ho
      cases ho
    have hnum : (unpackB s).number = R.length + 1 := hnum.resolve_left hq0
    rw [hnum] at g1 g5
    rw [Nat.add_sub_cancel, List.getElem?_append_right (Nat.le_refl _), Nat.sub_self] at g1
    obtain rfl : t = t' := by simpa using g1
    by_cases hpart : (unpackB s).part = i
    · rw [hpart] at g5
      exact g5
    · exfalso
      have hq : q ≤ 4 := by
        rcases Nat.lt_or_ge 4 q with h | h
        · exfalso
          apply hpart
          rw [f2, hs, hb, hz]
          obtain ⟨m, rfl⟩ : ∃ m, q = m + 5 := ⟨q - 5, by omega⟩
          cases m with
          | zero => simp [numB, hI]
          | succ m => simp [numB, hI]
        · exact h
      have hd : s.drop 4 = List.replicate 60 0 := by
        rw [hs, hb, hz]
        match q, hq, hq0 with
        | 1, _, _ => rfl
        | 2, _, _ => rfl
        | 3, _, _ => rfl
        | 4, _, _ => rfl
      have hp0 : (unpackB s).part = 0 := by rw [f2, hd]; rfl
      have hl0 : (unpackB s).left = 0 := by
        rw [f3, show s.drop 6 = (s.drop 4).drop 2 by rw [List.drop_drop], hd]
        rfl
      rw [hp0] at g5
      have hu := unpack_part (n := R.length + 1) (t := t) (k := 0) (by omega) (by omega) h8 (count_pos h8)
      rw [← g5] at hu
      have hl : (unpackB s).left = t.length := by rw [hu]; rfl
      rw [hl0] at hl
      rw [← hl] at hi
      have : countN 0 = 1 := rfl
      rw [this] at hi
      omega

/-- what Open finds on a disk whose image is that of the records R, of a block, and blank -/
theorem open_texts {T : RSt} {R : List Bs} {X : List Bs} {z : Nat} {Q : List (Nat × Bs)} (ho : T.off = false) (hd : ∀ x ∈ T.s, x.dirty = false) (hi : T.s.map (·.text) = imgFrom 1 R ++ X ++ List.replicate z zero64) (hs : ∀ t ∈ R, t.length ≤ 8000) (hf : R.length ≤ 4000)
    (hX : Recs (X.map unpackB) Q) (hQ : ((recsFrom 1 R ++ Q).map Prod.fst).Nodup) : (openT T).texts = R ++ Q.map Prod.snd := by
  have hse : secsT T = imgFrom 1 R ++ X ++ List.replicate z zero64 := by rw [secs_clean ho hd, hi]
  have hr : Recs ((secsT T).map unpackB) (recsFrom 1 R ++ Q) := by
    have := ((img_recs R 1 (Nat.le_refl _) (by omega) hs).app hX).app (recs_zero z)
    rw [List.append_nil, ← List.map_append, ← List.map_append, ← hse] at this
    exact this
  show (foundL ((secsT T).map unpackB)).map Prod.snd = _
  rw [found_of hr hQ, List.map_append, recs_texts]
theorem one_nodup (R : List Bs) (t : Bs) : ((recsFrom 1 R ++ [(R.length + 1, t)]).map Prod.fst).Nodup := by
  have := recs_fst (R ++ [t]) 1
  rw [recs_snoc, show 1 + R.length = R.length + 1 by omega] at this
  rw [this]
  exact List.nodup_range'
theorem nil_nodup (R : List Bs) : ((recsFrom 1 R ++ ([] : List (Nat × Bs))).map Prod.fst).Nodup := by
  rw [List.append_nil, recs_fst]
  exact List.nodup_range'
def survT (T : RSt) (R : List Bs) (t : Bs) (n : Nat) (picks : List Int) : RSt := rMountS (appT (fullJ R) (rTripS T (n : Int)) t).T picks
theorem surv_law {T : RSt} {R : List Bs} (hF : Full T R) (t : Bs) (n : Nat) (picks : List Int) (hR : R.length ≤ 200) :
    (survT T R t n picks).off = false ∧ (genB ((survT T R t n picks).s.map (·.text)) (R ++ [t]) = true → (openT (survT T R t n picks)).texts = R ++ [t] ∨ ((appT (fullJ R) (rTripS T (n : Int)) t).err ≠ 0 ∧ (openT (survT T R t n picks)).texts = R)) := by
  refine ⟨rfl, fun hg => ?_⟩
  have hleft : (rTripS T (n : Int)).left = (n : Int) := by show max (-1) (n : Int) = n; omega
  have hnext : (fullJ R).next = (R.length : Int) + 1 := rfl
  have hfin : (fullJ R).fin = ((imgFrom 1 R).length : Int) := rfl
  have hN : (fullJ R).next.toNat = R.length + 1 := by rw [hnext]; omega
  have hdirty : ∀ x ∈ (survT T R t n picks).s, x.dirty = false := mount_dirty _ _ _
  by_cases h1 : 8000 < t.length ∨ 4096 < (fullJ R).next ∨ ((rTripS T (n : Int)).s.length : Int) - (fullJ R).fin < (countN t.length : Int)
  · obtain ⟨e1, -, e3⟩ := app_no (T := rTripS T (n : Int)) (t := t) (J := fullJ R) rfl h1
    right
    refine ⟨by rcases e1 with e | e <;> rw [e] <;> decide, ?_⟩
    obtain ⟨z, hz⟩ := hF.img
    have hs : (survT T R t n picks).s = T.s := by
      show mountL _ (appT (fullJ R) (rTripS T (n : Int)) t).T.s 0 = _
      rw [e3]
      exact mountL_clean _ _ _ (fun x hx => (hF.clean x hx).1)
    have := open_texts (T := survT T R t n picks) (X := []) (Q := []) rfl hdirty (by rw [hs, hz, List.append_nil]) hF.small (by omega) Recs.nil (nil_nodup R)
    rwa [List.map_nil, List.append_nil] at this
  · have h8 : t.length ≤ 8000 := by omega
    have hlen : ((rTripS T (n : Int)).s.length) = T.s.length := rfl
    obtain ⟨pre, mid, post, hs, p1, p2, p3, p4, p5, c1, c2, c3, hw⟩ := hF.part (C := countN t.length) (by rw [hlen] at h1; omega)
    have hs' : (rTripS T (n : Int)).s = pre ++ mid ++ post := hs
    by_cases h2 : countN t.length < n
    · -- written whole
      obtain ⟨a1, a2, a3, a4, a5, a6⟩ := app_ok (J := fullJ R) (T := rTripS T (n : Int)) (t := t) rfl h8 (by omega) (by rw [hfin, p1]) hF.off (.inr (by rw [hleft]; omega)) hF.clean hs' p2 hw
      rw [hN] at a4
      left
      have hcl : ∀ x ∈ (appT (fullJ R) (rTripS T (n : Int)) t).T.s, x.dirty = false := fun x hx => by
        rw [a4] at hx
        exact (((c1.app (settL_clean _ _ c2 pack_64)).app c3) x hx).1
      have hs2 : (survT T R t n picks).s = pre ++ settL mid (packB (R.length + 1) t) ++ post := by
        show mountL _ (appT (fullJ R) (rTripS T (n : Int)) t).T.s 0 = _
        rw [mountL_clean _ _ _ hcl, a4]
      have := open_texts (T := survT T R t n picks) (R := R) (X := packB (R.length + 1) t) (z := post.length) (Q := [(R.length + 1, t)]) rfl hdirty
        (by rw [hs2, List.map_append, List.map_append, p3, kept_all _ _ (by rw [p2, pack_len]) (kept_new _ _ hw), zeros_of p5]) hF.small (by omega) (block_pack (by omega) (by omega) h8) (one_nodup R t)
      exact this
    · -- the power fails
      have hpl := pack_len (R.length + 1) t
      obtain ⟨w1, w2, w3⟩ := wrote_cut (T := rTripS T (n : Int)) (l := packB (R.length + 1) t) (m := n) hF.off hs' (by rw [p2, hpl]) pack_64 hleft (by rw [hpl]; omega)
      have e : apT (fullJ R) (rTripS T (n : Int)) t = writeT (rTripS T (n : Int)) (pre.length : Int) (packB (R.length + 1) t) := by rw [apT, hfin, ← p1, hN]
      rw [← e] at w1 w2 w3
      have hA : (appT (fullJ R) (rTripS T (n : Int)) t).err = 24 ∧ (appT (fullJ R) (rTripS T (n : Int)) t).T = (apT (fullJ R) (rTripS T (n : Int)) t).T := by
        unfold appT
        rw [if_neg (show ¬ (fullJ R).closed = true from fun h => Bool.noConfusion h), if_neg (by omega), if_neg (by omega), if_pos (by rw [w1]; decide)]
        exact ⟨w1, rfl⟩
      have hs2 : (survT T R t n picks).s = mountL (pickF picks) (pre ++ dirtL mid ((packB (R.length + 1) t).take n) ++ post) 0 := by
        show mountL _ (appT (fullJ R) (rTripS T (n : Int)) t).T.s 0 = _
        rw [hA.2, w3]
      rw [List.append_assoc, mountL_app _ _ _ _ (fun x hx => (c1 x hx).1)] at hs2
      obtain ⟨X, hX, hXl, hXs⟩ := mount_torn (pickF picks) ((packB (R.length + 1) t).take n) mid post 0 (by rw [List.length_take, hpl, p2]; omega) (fun x hx => ⟨p4 x hx, (c2 x hx).1, hw x hx⟩) (fun x hx => (c3 x hx).1)
      have himg : (survT T R t n picks).s.map (·.text) = imgFrom 1 R ++ X ++ List.replicate post.length zero64 := by
        rw [hs2, List.map_append, hX, p3, zeros_of p5, List.append_assoc]
      rw [himg] at hg
      have hall : ∀ s ∈ X, genOne (R ++ [t]) s = true := fun s hs => by
        unfold genB at hg
        rw [List.all_eq_true] at hg
        exact hg s (by simp [hs])
      have hB : Block (R.length + 1) t (X.map unpackB) := block_of (by omega) (by omega) h8 (by rw [hXl, p2]) (fun i s hi => by
        have him : i < countN t.length := by rw [← p2, ← hXl]; exact (List.getElem?_eq_some_iff.1 hi).1
        rcases hXs i s hi with rfl | ⟨b, q, hb, rfl⟩
        · right; rw [unpack_zero]; rfl
        · have hb' : b = sectB (R.length + 1) t i := by
            rw [List.getElem?_take] at hb
            split at hb
            · rw [pack_at him] at hb
              exact (Option.some.inj hb).symm
            · cases hb
          subst hb'
          exact torn_own hR h8 him (hall _ (List.mem_of_getElem? hi)))
      by_cases hb : ∃ p ∈ X.map unpackB, p.ok = false
      · right
        refine ⟨by rw [hA.1]; decide, ?_⟩
        have := open_texts (T := survT T R t n picks) (R := R) (X := X) (z := post.length) (Q := []) rfl hdirty himg hF.small (by omega) (recs_bad hB hb) (nil_nodup R)
        rwa [List.map_nil, List.append_nil] at this
      · left
        have ha : ∀ p ∈ X.map unpackB, p.ok = true := fun p hp => by
          cases hpo : p.ok with
          | true => rfl
          | false => exact absurd ⟨p, hp, hpo⟩ hb
        exact open_texts (T := survT T R t n picks) (R := R) (X := X) (z := post.length) (Q := [(R.length + 1, t)]) rfl hdirty himg hF.small (by omega) (recs_good hB ha) (one_nodup R t)
end Go.Proofs.YtddpjahoeldleaaGreatDoor

/-! genuine: whether every good sector is one of the records'. -/
namespace Go.Proofs.YtddpjahoeldleaaGreatDoor
open Go.RowKit

theorem hcell_go {w w' : World} {a : Addr} {v : Value} (hb : Below w.heap.size w w') (hl : a.block < w.heap.size) (h : w.cell? a = some v) : w'.cell? a = some v := (hb.cell (p := a) hl).trans h
theorem all_take {texts : List Bs} {image : List Bs} {k : Nat} {s : Bs} (hs : image[k]? = some s) (h : (image.take k).all (genOne texts) = true) (h1 : genOne texts s = true) : (image.take (k + 1)).all (genOne texts) = true := by
  obtain ⟨hk, rfl⟩ := List.getElem?_eq_some_iff.1 hs
  rw [List.take_succ_eq_append_getElem hk, List.all_append, h]
  simpa using h1
theorem gen_false {texts : List Bs} {image : List Bs} {k : Nat} {s : Bs} (hs : image[k]? = some s) (h1 : genOne texts s = false) : genB image texts = false := by
  unfold genB
  rw [List.all_eq_false]
  exact ⟨s, List.mem_of_getElem? hs, by rw [h1]; decide⟩

set_option maxHeartbeats 8000000 in
set_option maxRecDepth 100000 in
theorem genuine_any (A1 : Option Addr) (n1 c1 : Nat) (image : List Bs) (A2 : Option Addr) (n2 c2 : Nat) (texts : List Bs) (w : World) (h1 : Rd w w.heap.size 1 A1 n1 (strCells image)) (h2 : Rd w w.heap.size 1 A2 n2 (strCells texts)) (m1 : n1 ≤ 100000) (m2 : n2 ≤ 100000) (hk : RConsts w) :
    Calls Tryz.prog 17 #[.slice A1 n1 c1, .slice A2 n2 c2] w (RetB (.bool (genB image texts)) w) := by
  obtain ⟨zP, hzP⟩ := zero_of_info infoPart
  have HI := Lib.hid (show image.length = n1 by have := h1.1; simpa [strCells] using this)
  have HT := Lib.hid (show texts.length = n2 by have := h2.1; simpa [strCells] using this)
  have H1 := Lib.hid h1
  have H2 := Lib.hid h2
  have HK := Lib.hid hk
  clear h1 h2 hk
  go_enter Tryz.func17, Tryz.ntmps17
  go_wp2_with fail
  go_loopw [12] (fun x wr => ∃ k : Nat, k ≤ n1 ∧ x = .int .i64 k ∧ Hid ((image.take k).all (genOne texts) = true) ∧ Hid (Below w.heap.size w wr)) (fun x _ => n1 - (intOf x).toNat)
  case atStart => exact ⟨0, by omega, rfl, Lib.hid rfl, Lib.hid (Below.refl _ _)⟩
  case round =>
    obtain ⟨k, hk, rfl, HA, B⟩ := hrel
    by_cases hlt : k < n1
    · obtain ⟨b1, o1, rfl, _, hc1⟩ := (H1.out.below B.out).str HI.out hlt
      have hkl : k < image.length := by rw [HI.out]; exact hlt
      obtain ⟨s, hs⟩ : ∃ s : ByteArray, s = ⟨image[k].toArray⟩ := ⟨_, rfl⟩
      rw [← hs] at hc1
      have HS := Lib.hid (show image[k]? = some s.data.toList by rw [hs, List.getElem?_eq_getElem hkl])
      have j1 : (k : Int) < (n1 : Int) := by omega
      have j0 : (0 : Int) ≤ (k : Int) := by omega
      have UN := Lib.hid (runpack_any s wr (HK.out.below B.out))
      obtain ⟨p, hp⟩ : ∃ p, p = unpackB s.data.toList := ⟨_, rfl⟩
      have HP := Lib.hid (show unpackB s.data.toList = p from hp.symm)
      have HG := Lib.hid (show genOne texts s.data.toList = (!p.ok || (decide (p.number ≤ texts.length) && (decide (packE (p.number : Int) (texts.getD (p.number - 1) []) = 0) && (decide (p.part < (packV (p.number : Int) (texts.getD (p.number - 1) [])).length) && decide ((packV (p.number : Int) (texts.getD (p.number - 1) [])).getD p.part [] = s.data.toList))))) by rw [hp]; rfl)
      have HN1 := Lib.hid (show p.ok = true → 1 ≤ p.number by rw [hp]; exact (part_le _).2.2.1)
      rw [← hp, partRow] at UN
      obtain ⟨N, hN⟩ : ∃ N, N = p.number := ⟨_, rfl⟩
      obtain ⟨Q, hQ⟩ : ∃ N, N = p.part := ⟨_, rfl⟩
      obtain ⟨l, hl⟩ : ∃ N, N = p.left := ⟨_, rfl⟩
      obtain ⟨y, hy⟩ : ∃ y : ByteArray, y = ⟨p.payload.toArray⟩ := ⟨_, rfl⟩
      obtain ⟨o, ho⟩ : ∃ o, o = p.ok := ⟨_, rfl⟩
      rw [← hN, ← hQ, ← hl, ← ho, show str p.payload = .string y by rw [hy]] at UN
      rw [← hN, ← hQ, ← ho] at HG
      rw [← hN, ← ho] at HN1
      clear hp hN hQ hl hy ho hs hkl
      go_wp2_with fail
      refine UN.out.mono ?_
      rintro e w2 ⟨rfl, b2⟩
      have B2 := Lib.hid (below_go B.out b2)
      clear b2 UN
      have B3 := Lib.hid (below_go B2.out (below_new w2 (.cells #[.int .i64 N, .int .i64 Q, .int .i64 l, .string y, .bool o] 97)))
      cases o
      · have HTR := Lib.hid (show genOne texts s.data.toList = true by rw [HG.out]; rfl)
        go_wp2_with fail
        go_roundw
        case rel => exact ⟨k + 1, by omega, by go_num, Lib.hid (all_take HS.out HA.out HTR.out), B3⟩
        case measure => simp [intOf]; omega
      · by_cases hNn : n2 < N
        · have HF := Lib.hid (show genB image texts = false from gen_false HS.out (by rw [HG.out, HT.out, decide_eq_false (by omega)]; rfl))
          have d1 : (n2 : Int) < (N : Int) := by omega
          go_wp2_with fail
          go_ret
          exact RetB.bool HF.out.symm B3.out
        · obtain ⟨M, rfl⟩ : ∃ M, N = M + 1 := ⟨N - 1, by have := HN1.out rfl; omega⟩
          have hM : M < n2 := by omega
          have d1 : ¬ (n2 : Int) < ((M + 1 : Nat) : Int) := by omega
          go_wp2_with fail
          obtain ⟨w3, hw3⟩ : ∃ w3, w3 = w2.alloc (.cells #[.int .i64 ((M : Int) + 1), .int .i64 Q, .int .i64 l, .string y, .bool true] 97) := ⟨_, rfl⟩
          have Q3 := Lib.hid (show Blk w3 w2.heap.size 97 #[.int .i64 ((M : Int) + 1), .int .i64 Q, .int .i64 l, .string y, .bool true] by rw [hw3]; exact Blk.new _ _ _)
          have B3 := Lib.hid (show Below w.heap.size w w3 by rw [hw3]; exact below_go B2.out (below_new _ _))
          rw [← hw3]
          clear hw3
          obtain ⟨b2, o2, rfl, hb2, hc2⟩ := (H2.out.go B3.out).str HT.out hM
          have hMt : M < texts.length := by rw [HT.out]; exact hM
          obtain ⟨t, ht⟩ : ∃ t : ByteArray, t = ⟨texts[M].toArray⟩ := ⟨_, rfl⟩
          rw [← ht] at hc2
          have HTX := Lib.hid (show texts.getD (M + 1 - 1) [] = t.data.toList by rw [ht, Nat.add_sub_cancel, List.getD_eq_getElem?_getD, List.getElem?_eq_getElem hMt]; rfl)
          obtain ⟨L, hL⟩ : ∃ L, L = packV ((M : Int) + 1) t.data.toList := ⟨_, rfl⟩
          obtain ⟨E, hE⟩ : ∃ E, E = packE ((M : Int) + 1) t.data.toList := ⟨_, rfl⟩
          have HGG := Lib.hid (show genOne texts s.data.toList = (decide (E = 0) && (decide (Q < L.length) && decide (L.getD Q [] = s.data.toList))) by
            rw [HG.out, HTX.out, decide_eq_true (show M + 1 ≤ texts.length from hMt), show (((M + 1 : Nat) : Int)) = (M : Int) + 1 by omega, ← hL, ← hE]; rfl)
          have HLL := Lib.hid (show L.length ≤ 1000 by
            rw [hL, packV]
            split
            · rw [packB, List.length_map, List.length_range]; unfold countN; split
              · omega
              · split <;> omega
            · simp)
          have PK := Lib.hid (show ∀ W, Hid (Below w3.heap.size w3 W) → Calls Tryz.prog 53 #[.int .i64 ((M : Int) + 1), .string t] W (PackPost L E W) from fun W h => by
            have := rpackV_any ((M : Int) + 1) t W (HK.out.below (below_go B3.out h.out))
            rwa [← hL, ← hE] at this)
          have k0 : w3.cell? ⟨w2.heap.size, 0, none⟩ = some (.int .i64 ((M : Int) + 1)) := Q3.out.cell 0
          have hwr : IntKind.i64.wrap ((M : Int) + 1 - 1) = (M : Int) := by rw [show (M : Int) + 1 - 1 = (M : Int) by omega]; exact IntWalk.i64_in _ (by omega)
          have HQL := Lib.hid Q3.out.lt
          have HB2 := Lib.hid hb2
          have y0 : Hid (Below w3.heap.size w3 w3.drew) := Lib.hid (Below.refl _ _).drew
          have jM : (M : Int) < (n2 : Int) := by omega
          have jM0 : (0 : Int) ≤ (M : Int) := by omega
          have hwr2 : IntKind.i64.wrap (M : Int) = (M : Int) := IntWalk.i64_in _ (by omega)
          clear ht hL hE hMt hb2
          go_region_held3 (fun W => W.cell? ⟨w2.heap.size, 0, none⟩ = some (.int .i64 ((M : Int) + 1)) ∧ W.cell? ⟨b2, o2 + M, none⟩ = some (.string t) ∧ Hid (Below w3.heap.size w3 W))
            (first | (go_split_ands; exact ⟨hcell_go b5 HQL.out (by assumption), hcell_go b5 HB2.out (by assumption), Lib.hid (below_go y0.out b5)⟩) | exact ⟨k0, hc2, y0⟩ | (go_split_ands; refine ⟨?_, ?_, ?_⟩ <;> assumption) | go_keep)
            (first | (go_at_call 53; go_split_ands; (with_reducible refine (PK.out _ (by assumption)).mono ?_); rintro e w5 ⟨v5, rfl, own5, b5⟩; obtain ⟨A5, c5, rfl, -⟩ := own_slice own5))
          go_split_ands
          have HB5 : Hid (Below w3.heap.size w3 w5) := by assumption
          have B5 := Lib.hid (below_go B3.out HB5.out)
          have Q5 := Lib.hid (Q3.out.below HB5.out Q3.out.lt)
          have O5 := Lib.hid own5
          have k1 : w5.cell? ⟨w2.heap.size, 1, none⟩ = some (.int .i64 Q) := Q5.out.cell 1
          clear own5 b5 y0 PK hwr hwr2
          by_cases hE : E = 0
          · subst hE
            by_cases hQ : Q < L.length
            · obtain ⟨b6, o6, rfl, -, x7⟩ := (Rd.of_own O5.out).str rfl hQ
              obtain ⟨u, hu⟩ : ∃ u : ByteArray, u = ⟨L[Q].toArray⟩ := ⟨_, rfl⟩
              have x6 : w5.cell? ⟨b6, o6 + Q, none⟩ = some (.string u) := by rw [hu]; exact x7
              have HE := Lib.hid (show (u.toList == s.toList) = decide (L.getD Q [] = s.data.toList) by
                rw [Lib.toList_data, Lib.toList_data, hu, List.getD_eq_getElem?_getD, List.getElem?_eq_getElem hQ, Option.getD_some]
                by_cases e : L[Q] = s.data.toList
                · rw [decide_eq_true e]; exact beq_iff_eq.2 e
                · rw [decide_eq_false e]; exact beq_eq_false_iff_ne.2 e)
              have j2 : ¬ (L.length : Int) ≤ (Q : Int) := by omega
              have j3 : (Q : Int) < (L.length : Int) := by omega
              have j4 : (0 : Int) ≤ (Q : Int) := by omega
              have HQQ := Lib.hid hQ
              clear x7 hu hQ
              cases hx : u.toList == s.toList
              · have HF := Lib.hid (show genB image texts = false from gen_false HS.out (by rw [HGG.out, ← HE.out, hx, Bool.and_false, Bool.and_false]))
                go_wp2_with fail
                go_ret
                exact RetB.bool HF.out.symm B5.out
              · have HTR := Lib.hid (show genOne texts s.data.toList = true by rw [HGG.out, ← HE.out, hx, decide_eq_true HQQ.out]; rfl)
                go_wp2_with fail
                go_roundw
                case rel => exact ⟨k + 1, by omega, by go_num, Lib.hid (all_take HS.out HA.out HTR.out), B5⟩
                case measure => simp [intOf]; omega
            · have HF := Lib.hid (show genB image texts = false from gen_false HS.out (by rw [HGG.out, decide_eq_false hQ, Bool.false_and, Bool.and_false]))
              have j2 : (L.length : Int) ≤ (Q : Int) := by omega
              go_wp2_with fail
              go_ret
              exact RetB.bool HF.out.symm B5.out
          · have HF := Lib.hid (show genB image texts = false from gen_false HS.out (by rw [HGG.out, decide_eq_false hE, Bool.false_and]))
            have hb : (E == 0) = false := beq_eq_false_iff_ne.2 hE
            have hb2 : (E != 0) = true := by rw [bne, hb]; rfl
            have hb3 : decide (E = 0) = false := decide_eq_false hE
            go_wp2_with fail
            go_ret
            exact RetB.bool HF.out.symm B5.out
    · obtain rfl : k = n1 := by omega
      go_wp2_with fail
      go_ret
      refine RetB.bool ?_ B.out
      have := HA.out
      rw [List.take_of_length_le (by rw [HI.out]; exact Nat.le_refl _)] at this
      exact this.symm
end Go.Proofs.YtddpjahoeldleaaGreatDoor

/-! Plain law: a sector of a record with one bit turned is not good, unless it is not genuine. -/
namespace Go.Proofs.YtddpjahoeldleaaGreatDoor
open Dk (flipB bitOf)

/-! the hash's second word -/
theorem byteW_val (x y : W32) (n : Nat) (h : byteW x n = byteW y n) : x.toNat / 2 ^ n % 256 = y.toNat / 2 ^ n % 256 := by
  have := congrArg UInt8.toNat h
  rw [byteW, byteW, UInt8.toNat_ofNat', UInt8.toNat_ofNat'] at this
  omega
theorem take8 (r : Reg) : r.bytes.take 8 = [byteW r.a 24, byteW r.a 16, byteW r.a 8, byteW r.a 0, byteW r.b 24, byteW r.b 16, byteW r.b 8, byteW r.b 0] := rfl
theorem word_of (x y : W32) (h3 : byteW x 24 = byteW y 24) (h2 : byteW x 16 = byteW y 16) (h1 : byteW x 8 = byteW y 8) (h0 : byteW x 0 = byteW y 0) : x = y := by
  have e3 := byteW_val x y 24 h3
  have e2 := byteW_val x y 16 h2
  have e1 := byteW_val x y 8 h1
  have e0 := byteW_val x y 0 h0
  have hx := x.isLt
  have hy := y.isLt
  apply BitVec.eq_of_toNat_eq
  simp only [Nat.reducePow, Nat.div_one] at e3 e2 e1 e0
  omega
theorem H1_of {b c : Bs} (h : (sha56 b).take 8 = (sha56 c).take 8) : Hs.H1 b = Hs.H1 c := by
  rw [sha56, sha56, take8, take8] at h
  simp only [List.cons.injEq, and_true] at h
  exact word_of _ _ h.2.2.2.2.1 h.2.2.2.2.2.1 h.2.2.2.2.2.2.1 h.2.2.2.2.2.2.2
theorem H1_zero {b : Bs} (h : (sha56 b).take 8 = List.replicate 8 0) : Hs.H1 b = 0 := by
  rw [sha56, take8] at h
  rw [show List.replicate 8 (0 : UInt8) = [0, 0, 0, 0, 0, 0, 0, 0] from rfl] at h
  simp only [List.cons.injEq, and_true] at h
  refine word_of _ _ (h.2.2.2.2.1.trans ?_) (h.2.2.2.2.2.1.trans ?_) (h.2.2.2.2.2.2.1.trans ?_) (h.2.2.2.2.2.2.2.trans ?_) <;> decide

/-! a bit turned -/
theorem flip_len (b : Bs) (m : Nat) : (flipB b m).length = b.length := List.length_set
theorem xor_ne (x y : UInt8) (h : y ≠ 0) : x ^^^ y ≠ x := fun e => h (by
  have := congrArg (x ^^^ ·) e
  simpa [← UInt8.xor_assoc] using this)
theorem bit_nz (m : Nat) : bitOf m ≠ 0 := by
  have h : ∀ r, r < 8 → (1 : UInt8) <<< (UInt8.ofNat r) ≠ 0 := by decide
  exact h _ (Nat.mod_lt _ (by decide))
theorem flip_ne {b : Bs} {m : Nat} (h : m / 8 < b.length) : flipB b m ≠ b := fun e => by
  have h1 := congrArg (fun l => l.getD (m / 8) 0) e
  simp only [flipB, List.getD_eq_getElem?_getD, List.getElem?_set, if_pos h, List.getElem?_eq_getElem h, Option.getD_some, if_true] at h1
  exact xor_ne _ _ (bit_nz m) h1
theorem flip_at {b : Bs} {m j : Nat} (h : j ≠ m / 8) : (flipB b m)[j]? = b[j]? := by rw [flipB, List.getElem?_set_ne (Ne.symm h)]
theorem flip_here {b : Bs} {m : Nat} (h : m / 8 < b.length) : (flipB b m)[m / 8]? = some (b.getD (m / 8) 0 ^^^ bitOf m) := by
  rw [flipB, List.getElem?_set_self h]
/-- bytes that are not touched -/
theorem flip_seg {b : Bs} {m d n : Nat} (h : m / 8 < d ∨ d + n ≤ m / 8) : ((flipB b m).drop d).take n = (b.drop d).take n := by
  apply List.ext_getElem?
  intro i
  rw [List.getElem?_take, List.getElem?_take]
  split
  · rw [List.getElem?_drop, List.getElem?_drop, flip_at (by omega)]
  · rfl
theorem flip_drop {b : Bs} {m d : Nat} (h : m / 8 < d) : (flipB b m).drop d = b.drop d := by
  apply List.ext_getElem?
  intro i
  rw [List.getElem?_drop, List.getElem?_drop, flip_at (by omega)]
theorem flip_take {b : Bs} {m d : Nat} (h : d ≤ m / 8) : (flipB b m).take d = b.take d := by
  apply List.ext_getElem?
  intro i
  rw [List.getElem?_take, List.getElem?_take]
  split
  · rw [flip_at (by omega)]
  · rfl

/-! the bytes of a sector -/
theorem sect_split (n : Nat) (t : Bs) (k : Nat) : sectB n t k = bodyB n k (t.drop (48 * k)) ++ (sha56 (bodyB n k (t.drop (48 * k)))).take 8 := rfl
theorem sect_take (n : Nat) (t : Bs) (k : Nat) : (sectB n t k).take 56 = bodyB n k (t.drop (48 * k)) := by
  rw [sect_split]; exact List.take_left' (body_len ..)
theorem sect_drop (n : Nat) (t : Bs) (k : Nat) : (sectB n t k).drop 56 = (sha56 (bodyB n k (t.drop (48 * k)))).take 8 := by
  rw [sect_split]; exact List.drop_left' (body_len ..)
theorem sect_num (n : Nat) (t : Bs) (k : Nat) : (sectB n t k).take 4 = leN n 4 := by
  rw [sect_split, bodyB]
  simp only [List.append_assoc]
  exact List.take_left' (le_len 4 n)
theorem sect_part (n : Nat) (t : Bs) (k : Nat) : ((sectB n t k).drop 4).take 2 = leN k 2 := by
  rw [sect_split, bodyB]
  simp only [List.append_assoc]
  rw [List.drop_left' (le_len 4 n)]
  exact List.take_left' (le_len 2 k)
theorem sect_left (n : Nat) (t : Bs) (k : Nat) : ((sectB n t k).drop 6).take 2 = leN (t.drop (48 * k)).length 2 := by
  rw [show (6 : Nat) = 4 + 2 from rfl, ← List.drop_drop, sect_split, bodyB]
  simp only [List.append_assoc]
  rw [List.drop_left' (le_len 4 n), List.drop_left' (le_len 2 k)]
  exact List.take_left' (le_len 2 _)
theorem body_drop (n k : Nat) (rest : Bs) : bodyB n k rest = leN n 4 ++ (bodyB n k rest).drop 4 := by
  have : (bodyB n k rest).take 4 = leN n 4 := by
    rw [bodyB]
    simp only [List.append_assoc]
    exact List.take_left' (le_len 4 n)
  rw [← this, List.take_append_drop]
theorem body_drop2 (n m k : Nat) (rest : Bs) : (bodyB n k rest).drop 4 = (bodyB m k rest).drop 4 := by
  rw [bodyB, bodyB]
  simp only [List.append_assoc]
  rw [List.drop_left' (le_len 4 n), List.drop_left' (le_len 4 m)]
theorem le_inj {k a b : Nat} (ha : a < 256 ^ k) (hb : b < 256 ^ k) (h : leN a k = leN b k) : a = b := by
  rw [← num_le k a ha, ← num_le k b hb, h]

/-! two records of the same length on a small disk -/
theorem sum_len : ∀ (L : List Nat), (∀ x ∈ L, 1 ≤ x) → L.length ≤ L.sum
  | [], _ => Nat.le_refl _
  | x :: L, h => by
    have h1 := sum_len L fun y hy => h y (List.mem_cons_of_mem _ hy)
    have h2 := h x (List.mem_cons_self ..)
    rw [List.length_cons, List.sum_cons]
    omega
theorem sum_one : ∀ (L : List Nat) (i x : Nat), (∀ x ∈ L, 1 ≤ x) → L[i]? = some x → x + L.length ≤ L.sum + 1
  | [], _, _, _, h => by cases h
  | y :: L, 0, x, h, he => by
    obtain rfl : y = x := by simpa using he
    have h1 := sum_len L fun y hy => h y (List.mem_cons_of_mem _ hy)
    rw [List.length_cons, List.sum_cons]
    omega
  | y :: L, i + 1, x, h, he => by
    have h1 := sum_one L i x (fun y hy => h y (List.mem_cons_of_mem _ hy)) (by simpa using he)
    have h2 := h y (List.mem_cons_self ..)
    rw [List.length_cons, List.sum_cons]
    omega
theorem sum_two : ∀ (L : List Nat) (i j x y : Nat), (∀ x ∈ L, 1 ≤ x) → i < j → L[i]? = some x → L[j]? = some y → x + y + L.length ≤ L.sum + 2
  | [], _, _, _, _, _, _, h, _ => by cases h
  | _ :: _, _, 0, _, _, _, h, _, _ => by omega
  | z :: L, 0, j + 1, x, y, h, _, hx, hy => by
    obtain rfl : z = x := by simpa using hx
    have h1 := sum_one L j y (fun y hy => h y (List.mem_cons_of_mem _ hy)) (by simpa using hy)
    rw [List.length_cons, List.sum_cons]
    omega
  | z :: L, i + 1, j + 1, x, y, h, hl, hx, hy => by
    have h1 := sum_two L i j x y (fun y hy => h y (List.mem_cons_of_mem _ hy)) (by omega) (by simpa using hx) (by simpa using hy)
    have h2 := h z (List.mem_cons_self ..)
    rw [List.length_cons, List.sum_cons]
    omega
theorem img_sum : ∀ (R : List Bs) (n : Nat), (imgFrom n R).length = (R.map fun t => countN t.length).sum
  | [], _ => rfl
  | t :: R, n => by rw [imgFrom, List.length_append, pack_len, img_sum R (n + 1), List.map_cons, List.sum_cons]
theorem two_fit {R : List Bs} {i j : Nat} {t u : Bs} (hs : ∀ t ∈ R, t.length ≤ 8000) (hij : i < j) (ht : R[i]? = some t) (hu : R[j]? = some u) (hl : t.length = u.length) (hf : (imgFrom 1 R).length ≤ 200) : 2 * countN t.length + (j + 1) ≤ 202 := by
  rw [img_sum] at hf
  have hj := (List.getElem?_eq_some_iff.1 hu).1
  have := sum_two (R.map fun t => countN t.length) i j (countN t.length) (countN u.length) (fun x hx => by
    obtain ⟨a, ha, rfl⟩ := List.mem_map.1 hx
    exact count_pos (hs a ha)) hij (by rw [List.getElem?_map, ht]; rfl) (by rw [List.getElem?_map, hu]; rfl)
  rw [List.length_map, ← hl] at this
  omega

/-! a step's text -/
/-- a step's text -/
theorem step_rest (fill : UInt8) (n i : Nat) : (stepP fill n).drop (48 * i) = Hs.payB (n - 48 * i) (fill.toNat + 48 * i) := by
  apply List.ext_getElem
  · rw [List.length_drop, Hs.pay_len, stepP, List.length_map, List.length_range]
  · intro k h1 h2
    rw [List.getElem_drop]
    simp only [stepP, Hs.payB, List.getElem_map, List.getElem_range]
    apply UInt8.toNat_inj.1
    rw [UInt8.toNat_add, UInt8.toNat_ofNat', UInt8.toNat_ofNat']
    omega
theorem step_size (fill : UInt8) (n : Nat) : (stepP fill n).length = n := by rw [stepP, List.length_map, List.length_range]
/-- the pairs of numbers that one bit parts -/
theorem bit_pairs : ((List.range 13).all fun n => (List.range 13).all fun b => (List.range 8).all fun r => decide (UInt8.ofNat b ≠ UInt8.ofNat n ^^^ ((1 : UInt8) <<< (UInt8.ofNat r))) || (n == 0 || (b == 0 || (decide ((n, b) ∈ Hs.pairL) || decide ((b, n) ∈ Hs.pairL))))) = true := by decide +kernel
theorem bit_pair {n b m : Nat} (n1 : 1 ≤ n) (n2 : n ≤ 12) (b1 : 1 ≤ b) (b2 : b ≤ 12) (h : UInt8.ofNat b = UInt8.ofNat n ^^^ bitOf m) : (n, b) ∈ Hs.pairL ∨ (b, n) ∈ Hs.pairL := by
  have h1 := List.all_eq_true.1 (List.all_eq_true.1 (List.all_eq_true.1 bit_pairs n (List.mem_range.2 (by omega))) b (List.mem_range.2 (by omega))) (m % 8) (List.mem_range.2 (Nat.mod_lt _ (by decide)))
  rw [decide_eq_false (show ¬ (UInt8.ofNat b ≠ UInt8.ofNat n ^^^ ((1 : UInt8) <<< (UInt8.ofNat (m % 8)))) from fun e => e h), Bool.false_or, beq_eq_false_iff_ne.2 (by omega), Bool.false_or, beq_eq_false_iff_ne.2 (by omega), Bool.false_or, Bool.or_eq_true, decide_eq_true_eq, decide_eq_true_eq] at h1
  exact h1
theorem pair_lt : ∀ x ∈ Hs.pairL, x.1 < x.2 := by decide
/-- the hashes of empty texts do not begin with zeros -/
theorem nil_nz : ((List.range 13).all fun n => decide (Hs.H1 (Hs.bdB n 0 0 0) ≠ 0)) = true := by decide +kernel
theorem all_parts : Hs.Parts 99 := Hs.all_parts

/-- a text of the law's -/
def Stepped (t : Bs) : Prop := ∃ fill : UInt8, t = stepP fill t.length
theorem step_body {t : Bs} (h : Stepped t) : ∃ s, ∀ n i, bodyB n i (t.drop (48 * i)) = Hs.bdB n i (t.length - 48 * i) (s + 48 * i) := by
  obtain ⟨fill, hf⟩ := h
  refine ⟨fill.toNat, fun n i => ?_⟩
  rw [Hs.bdB, ← step_rest, ← hf]
theorem count_left {n i : Nat} (h : n ≤ 8000) (hi : i < countN n) : i + max 1 ((n - 48 * i + 47) / 48) = countN n := by
  unfold countN at hi ⊢
  rw [if_neg (by omega)] at hi ⊢
  split at hi <;> rename_i h0
  · rw [if_pos h0]
    omega
  · rw [if_neg h0]
    omega
section
variable {R : List Bs} {h i m : Nat} {t : Bs}
/-- a genuine good sector is not another with one bit turned -/
theorem turn_bad (hR : R.length ≤ 12) (ht : R[h]? = some t) (hst : ∀ t ∈ R, Stepped t) (h8 : ∀ t ∈ R, t.length ≤ 8000) (hf : (imgFrom 1 R).length ≤ 200) (hi : i < countN t.length) (hm : m < 512) (hg : genOne R (flipB (sectB (h + 1) t i) m) = true) :
    (unpackB (flipB (sectB (h + 1) t i) m)).ok = false := by
  cases ho : (unpackB (flipB (sectB (h + 1) t i) m)).ok with
  | false => rfl
  | true =>
    exfalso
    have hh := (List.getElem?_eq_some_iff.1 ht).1
    have ht8 := h8 t (List.mem_of_getElem? ht)
    have hlen := sect_len (h + 1) t i
    have hne := flip_ne (b := sectB (h + 1) t i) (m := m) (by rw [hlen]; omega)
    obtain ⟨u, g1, g2, g3, g4, g5⟩ := gen_one hg ho
    have gn := (part_le _).2.2.1 ho
    obtain ⟨b, hb⟩ : ∃ b, b = (unpackB (flipB (sectB (h + 1) t i) m)).number := ⟨_, rfl⟩
    obtain ⟨p, hp⟩ : ∃ b, b = (unpackB (flipB (sectB (h + 1) t i) m)).part := ⟨_, rfl⟩
    rw [← hb] at g1 g2 g5 gn
    rw [← hp] at g4 g5
    clear hg ho hb hp
    have i48 := count_part ht8 hi
    have p48 := count_part g3 g4
    have hc : countN t.length ≤ 167 := by unfold countN; split <;> (try split) <;> omega
    have hc2 : countN u.length ≤ 167 := by unfold countN; split <;> (try split) <;> omega
    have small : 256 ^ 2 = 65536 := rfl
    have small4 : 256 ^ 4 = 4294967296 := rfl
    by_cases m56 : 56 ≤ m / 8
    · -- the hash is touched
      apply hne
      have e1 := congrArg (List.take 56) g5
      rw [flip_take m56, sect_take, sect_take] at e1
      rw [g5, sect_split, sect_split, e1]
    · have eD := congrArg (List.drop 56) g5
      rw [flip_drop (by omega), sect_drop, sect_drop] at eD
      have eH := H1_of eD
      by_cases m4 : 4 ≤ m / 8
      · -- the number is not touched
        have e1 := congrArg (List.take 4) g5
        rw [flip_take m4, sect_num, sect_num] at e1
        have hbn := le_inj (k := 4) (by omega) (by omega) e1
        have hu : u = t := by
          have : b - 1 = h := by omega
          rw [this, ht] at g1
          exact (Option.some.inj g1).symm
        subst hu
        have hpi : p = i := by
          by_cases m6 : 6 ≤ m / 8
          · have e2 := congrArg (fun l => (List.drop 4 l).take 2) g5
            simp only [flip_seg (b := sectB (h + 1) u i) (m := m) (d := 4) (n := 2) (.inr (by omega)), sect_part] at e2
            exact (le_inj (k := 2) (by omega) (by omega) e2).symm
          · have e2 := congrArg (fun l => (List.drop 6 l).take 2) g5
            simp only [flip_seg (b := sectB (h + 1) u i) (m := m) (d := 6) (n := 2) (.inl (by omega)), sect_left, List.length_drop] at e2
            have := le_inj (k := 2) (by omega) (by omega) e2
            omega
        apply hne
        rw [g5, hpi, ← hbn]
      · -- the number is touched
        have e2 := congrArg (fun l => (List.drop 4 l).take 2) g5
        simp only [flip_seg (b := sectB (h + 1) t i) (m := m) (d := 4) (n := 2) (.inl (by omega)), sect_part] at e2
        have hpi := (le_inj (k := 2) (by omega) (by omega) e2).symm
        subst hpi
        have e3 := congrArg (fun l => (List.drop 6 l).take 2) g5
        simp only [flip_seg (b := sectB (h + 1) t p) (m := m) (d := 6) (n := 2) (.inl (by omega)), sect_left, List.length_drop] at e3
        have hle := le_inj (k := 2) (by omega) (by omega) e3
        have hlu : t.length = u.length := by omega
        have e4 := congrArg (fun l => (List.take 56 l).drop 4) g5
        simp only [sect_take] at e4
        have e5 : ((flipB (sectB (h + 1) t p) m).take 56).drop 4 = (bodyB (h + 1) p (t.drop (48 * p))).drop 4 := by
          rw [List.drop_take, flip_drop (by omega), ← List.drop_take, sect_take]
        rw [e5] at e4
        have hbody : bodyB b p (u.drop (48 * p)) = bodyB b p (t.drop (48 * p)) := by
          rw [body_drop b p (u.drop (48 * p)), ← e4, body_drop2 (h + 1) b, ← body_drop]
        rw [hbody] at eH
        have hbne : b ≠ h + 1 := fun e => hne (by rw [g5, sect_split, sect_split, hbody, e])
        -- the first byte
        obtain ⟨r1, q1, _⟩ := sect_bytes (n := h + 1) (i := p) (by omega) (by omega) t
        obtain ⟨r2, q2, _⟩ := sect_bytes (n := b) (i := p) (by omega) (by omega) u
        have m0 : m / 8 = 0 := by
          rcases Nat.eq_zero_or_pos (m / 8) with h0 | h0
          · exact h0
          · exfalso
            have h2 : (flipB (sectB (h + 1) t p) m)[0]? = (sectB b u p)[0]? := congrArg (fun l => l[0]?) g5
            rw [flip_at (by omega), q1, q2] at h2
            have h2 : some (UInt8.ofNat (h + 1)) = some (UInt8.ofNat b) := h2
            have := congrArg UInt8.toNat (Option.some.inj h2)
            rw [UInt8.toNat_ofNat', UInt8.toNat_ofNat'] at this
            omega
        have hbit : UInt8.ofNat b = UInt8.ofNat (h + 1) ^^^ bitOf m := by
          have e6 := flip_here (b := sectB (h + 1) t p) (m := m) (by rw [hlen]; omega)
          rw [m0, g5, q1, q2] at e6
          have e7 : some (UInt8.ofNat b) = some (UInt8.ofNat (h + 1) ^^^ bitOf m) := e6
          exact Option.some.inj e7
        obtain ⟨s, hs⟩ := step_body (hst t (List.mem_of_getElem? ht))
        rw [hs, hs] at eH
        have hcl := count_left ht8 hi
        have hl0 : t.length - 48 * p = 0 → p = 0 := fun h0 => by
          unfold countN at hi
          rw [if_neg (by omega)] at hi
          split at hi <;> omega
        rcases bit_pair (by omega) (by omega) gn (by omega) hbit with hx | hx
        · have hlt := pair_lt _ hx
          have hfit := two_fit h8 (i := h) (j := b - 1) (by simp only [] at hlt; omega) ht g1 hlu hf
          exact Hs.no_coll all_parts hl0 (h + 1, b) hx (by show 2 * _ + b ≤ 202; omega) eH
        · have hlt := pair_lt _ hx
          have hfit := two_fit h8 (i := b - 1) (j := h) (by simp only [] at hlt; omega) g1 ht hlu.symm hf
          rw [← hlu] at hfit
          exact Hs.no_coll all_parts hl0 (b, h + 1) hx (by show 2 * _ + (h + 1) ≤ 202; omega) eH.symm
/-- nor is it blank -/
theorem turn_nz (hR : h < 12) (ht8 : t.length ≤ 8000) (hi : i < countN t.length) : flipB (sectB (h + 1) t i) m ≠ zero64 := fun e => by
  have hlen := sect_len (h + 1) t i
  have hc : countN t.length ≤ 167 := by unfold countN; split <;> (try split) <;> omega
  obtain ⟨r1, q1, _⟩ := sect_bytes (n := h + 1) (i := i) (by omega) (by omega) t
  have m0 : m / 8 = 0 := by
    rcases Nat.eq_zero_or_pos (m / 8) with h0 | h0
    · exact h0
    · exfalso
      have h2 : (flipB (sectB (h + 1) t i) m)[0]? = zero64[0]? := congrArg (fun l => l[0]?) e
      rw [flip_at (by omega), q1] at h2
      have h2 : some (UInt8.ofNat (h + 1)) = some 0 := h2
      have := congrArg UInt8.toNat (Option.some.inj h2)
      rw [UInt8.toNat_ofNat'] at this
      have : (0 : UInt8).toNat = 0 := rfl
      omega
  have z2 : ∀ d n, d + n ≤ 64 → (zero64.drop d).take n = List.replicate n 0 := fun d n h => by
    rw [zero64, List.drop_replicate, List.take_replicate]
    congr 1
    omega
  have z0 : ∀ k, numB (List.replicate k 0) = 0 := num_zeros
  have small : 256 ^ 2 = 65536 := rfl
  have i48 := count_part ht8 hi
  have hp0 : i = 0 := by
    have e2 := congrArg (fun l => (List.drop 4 l).take 2) e
    simp only [flip_seg (b := sectB (h + 1) t i) (m := m) (d := 4) (n := 2) (.inl (by omega)), sect_part, z2 4 2 (by decide)] at e2
    have := congrArg numB e2
    rwa [num_le 2 i (by omega), z0] at this
  subst hp0
  have hl0 : t = [] := by
    have e2 := congrArg (fun l => (List.drop 6 l).take 2) e
    simp only [flip_seg (b := sectB (h + 1) t 0) (m := m) (d := 6) (n := 2) (.inl (by omega)), sect_left, z2 6 2 (by decide), List.length_drop] at e2
    have := congrArg numB e2
    rw [num_le 2 _ (by omega), z0] at this
    exact List.eq_nil_of_length_eq_zero (by omega)
  subst hl0
  have e3 := congrArg (fun l => List.drop 56 l) e
  simp only [flip_drop (b := sectB (h + 1) [] 0) (m := m) (d := 56) (by omega), sect_drop] at e3
  have h1 := H1_zero (e3.trans rfl)
  have h2 := of_decide_eq_true (List.all_eq_true.1 nil_nz (h + 1) (List.mem_range.2 (by omega)))
  exact h2 h1
end
end Go.Proofs.YtddpjahoeldleaaGreatDoor

/-! Plain law: what is found after bits of one record have rotted. -/
namespace Go.Proofs.YtddpjahoeldleaaGreatDoor
open Dk (RSt Sim flipB rRotS rRotE rRotOK rIs)

/-! bits turned in a list of sectors -/
def rotX : List Bs → List (Nat × Nat) → List Bs
  | X, [] => X
  | X, x :: F => rotX (X.set x.1 (flipB (X.getD x.1 []) x.2)) F
theorem rotX_len : ∀ (F : List (Nat × Nat)) (X : List Bs), (rotX X F).length = X.length
  | [], _ => rfl
  | x :: F, X => by rw [rotX, rotX_len F, List.length_set]
theorem rotX_snoc : ∀ (F : List (Nat × Nat)) (X : List Bs) (x : Nat × Nat), rotX X (F ++ [x]) = (rotX X F).set x.1 (flipB ((rotX X F).getD x.1 []) x.2)
  | [], _, _ => rfl
  | y :: F, X, x => by rw [List.cons_append, rotX, rotX_snoc F, rotX]
theorem rotX_out : ∀ (F : List (Nat × Nat)) (X : List Bs) (i : Nat), i ∉ F.map Prod.fst → (rotX X F)[i]? = X[i]?
  | [], _, _, _ => rfl
  | x :: F, X, i, h => by
    rw [List.map_cons, List.mem_cons, not_or] at h
    rw [rotX, rotX_out F _ i h.2, List.getElem?_set_ne (Ne.symm h.1)]
theorem rotX_in : ∀ (F : List (Nat × Nat)) (X : List Bs), (F.map Prod.fst).Nodup → ∀ x ∈ F, x.1 < X.length → (rotX X F)[x.1]? = some (flipB (X.getD x.1 []) x.2)
  | [], _, _, _, h, _ => by cases h
  | y :: F, X, hn, x, hx, hl => by
    rw [List.map_cons, List.nodup_cons] at hn
    rw [rotX]
    rcases List.mem_cons.1 hx with rfl | hx
    · rw [rotX_out F _ _ hn.1, List.getElem?_set_self hl]
    · have hne : x.1 ≠ y.1 := fun e => hn.1 (e ▸ List.mem_map_of_mem hx)
      rw [rotX_in F _ hn.2 x hx (by rw [List.length_set]; exact hl), List.getD_eq_getElem?_getD, List.getElem?_set_ne (Ne.symm hne), ← List.getD_eq_getElem?_getD]
theorem set_mid {pre X post : List Bs} {i : Nat} (hi : i < X.length) (s : Bs) : (pre ++ X ++ post).set (pre.length + i) s = pre ++ X.set i s ++ post := by
  rw [List.append_assoc, List.set_append_right _ _ (by omega), Nat.add_sub_cancel_left, List.set_append_left _ _ hi, List.append_assoc]
theorem get_mid {pre X post : List Bs} {i : Nat} (hi : i < X.length) : (pre ++ X ++ post).getD (pre.length + i) [] = X.getD i [] := by
  rw [List.getD_eq_getElem?_getD, List.append_assoc, List.getElem?_append_right (by omega), Nat.add_sub_cancel_left, List.getElem?_append_left hi, ← List.getD_eq_getElem?_getD]

/-- the disk of the records R, some bits of record h (number h + 1) turned -/
structure Rots (T : RSt) (R : List Bs) (h : Nat) (t : Bs) (F : List (Nat × Nat)) : Prop where
  off : T.off = false
  clean : Clean T.s
  img : ∃ z, T.s.map (·.text) = imgFrom 1 (R.take h) ++ rotX (packB (h + 1) t) F ++ (imgFrom (h + 2) (R.drop (h + 1)) ++ List.replicate z zero64)
theorem img_app : ∀ (A B : List Bs) (n : Nat), imgFrom n (A ++ B) = imgFrom n A ++ imgFrom (n + A.length) B
  | [], _, _ => by simp [imgFrom]
  | x :: A, B, n => by
    rw [List.cons_append, imgFrom, imgFrom, img_app A B (n + 1), List.append_assoc, List.length_cons, show n + 1 + A.length = n + (A.length + 1) by omega]
theorem img_at {R : List Bs} {h : Nat} {t : Bs} (ht : R[h]? = some t) : imgFrom 1 R = imgFrom 1 (R.take h) ++ packB (h + 1) t ++ imgFrom (h + 2) (R.drop (h + 1)) := by
  obtain ⟨hh, rfl⟩ := List.getElem?_eq_some_iff.1 ht
  have e : R = R.take h ++ R[h] :: R.drop (h + 1) := by rw [← List.drop_eq_getElem_cons hh, List.take_append_drop]
  conv => lhs; rw [e]
  rw [img_app, imgFrom, List.length_take, Nat.min_eq_left (by omega), List.append_assoc, show 1 + h = h + 1 by omega]
theorem Full.rots {T : RSt} {R : List Bs} (hF : Full T R) {h : Nat} {t : Bs} (ht : R[h]? = some t) : Rots T R h t [] := by
  obtain ⟨z, hz⟩ := hF.img
  refine ⟨hF.off, hF.clean, z, ?_⟩
  rw [hz, img_at ht, rotX]
  simp only [List.append_assoc]
theorem rot_step {T : RSt} {R : List Bs} {h : Nat} {t : Bs} {F : List (Nat × Nat)} (H : Rots T R h t F) {i b : Nat} (hi : i < countN t.length) (hb : b < 512) :
    rRotE T (((imgFrom 1 (R.take h)).length + i : Nat) : Int) (b : Int) = 0 ∧ Rots (rRotS T (((imgFrom 1 (R.take h)).length + i : Nat) : Int) (b : Int)) R h t (F ++ [(i, b)]) ∧ (rRotS T (((imgFrom 1 (R.take h)).length + i : Nat) : Int) (b : Int)).s.length = T.s.length := by
  obtain ⟨z, hz⟩ := H.img
  have hX : (rotX (packB (h + 1) t) F).length = countN t.length := by rw [rotX_len, pack_len]
  have hl : (imgFrom 1 (R.take h)).length + i < T.s.length := by
    have := congrArg List.length hz
    simp only [List.length_map, List.length_append, hX] at this
    omega
  have ok : rRotOK T (((imgFrom 1 (R.take h)).length + i : Nat) : Int) (b : Int) = true := by
    unfold rRotOK rIs
    rw [Bool.and_eq_true, decide_eq_true_eq, decide_eq_true_eq]
    omega
  refine ⟨by unfold rRotE; rw [ok]; rfl, ?_, by unfold rRotS; rw [ok, if_pos rfl]; exact List.length_set⟩
  have hS : (rRotS T (((imgFrom 1 (R.take h)).length + i : Nat) : Int) (b : Int)).s = T.s.set ((imgFrom 1 (R.take h)).length + i) { T.s.getD ((imgFrom 1 (R.take h)).length + i) Dk.zs with text := flipB (T.s.getD ((imgFrom 1 (R.take h)).length + i) Dk.zs).text b } := by
    unfold rRotS
    rw [ok, if_pos rfl]
    rfl
  have hO : (rRotS T (((imgFrom 1 (R.take h)).length + i : Nat) : Int) (b : Int)).off = T.off := by unfold rRotS; rw [ok, if_pos rfl]
  have hg : (T.s.getD ((imgFrom 1 (R.take h)).length + i) Dk.zs).text = (rotX (packB (h + 1) t) F).getD i [] := by
    rw [← get_mid (pre := imgFrom 1 (R.take h)) (post := imgFrom (h + 2) (R.drop (h + 1)) ++ List.replicate z zero64) (by rw [hX]; exact hi), ← hz, List.getD_eq_getElem?_getD, List.getD_eq_getElem?_getD, List.getElem?_map, List.getElem?_eq_getElem hl]
    rfl
  refine ⟨by rw [hO]; exact H.off, ?_, z, ?_⟩
  · intro x hx
    rw [hS] at hx
    rcases List.mem_or_eq_of_mem_set hx with hx | rfl
    · exact H.clean x hx
    · have hm : T.s.getD ((imgFrom 1 (R.take h)).length + i) Dk.zs ∈ T.s := by
        rw [List.getD_eq_getElem?_getD, List.getElem?_eq_getElem hl]
        exact List.getElem_mem hl
      exact ⟨(H.clean _ hm).1, by show (flipB _ b).length = 64; rw [flip_len]; exact (H.clean _ hm).2⟩
  · rw [hS, List.map_set, hz, rotX_snoc]
    show List.set _ _ (flipB (T.s.getD ((imgFrom 1 (R.take h)).length + i) Dk.zs).text b) = _
    rw [hg, set_mid (by rw [hX]; exact hi)]

/-! what Open makes of a record's sectors some of which are bad -/
theorem fold_some {n : Nat} {t : Bs} (h1 : 1 ≤ n) (h2 : n ≤ 4096) (h3 : t.length ≤ 8000) : ∀ (Y : List Bs) (o : OV), (∀ s ∈ Y, (∃ k, k < countN t.length ∧ s = sectB n t k) ∨ ((unpackB s).ok = false ∧ s ≠ zero64)) →
    (Y.foldl oStep o).k = o.k + Y.length ∧ o.next ≤ (Y.foldl oStep o).next ∧ (Y.foldl oStep o).next ≤ max o.next (n + 1) ∧ (Y.foldl oStep o).bad.length = o.bad.length + Y.countP (fun s => !(unpackB s).ok)
  | [], o, _ => by simp; omega
  | s :: Y, o, h => by
    obtain ⟨i1, i2, i3, i4⟩ := fold_some h1 h2 h3 Y (oStep o s) fun x hx => h x (List.mem_cons_of_mem _ hx)
    rw [List.foldl_cons, List.length_cons, List.countP_cons]
    have hk : (oStep o s).k = o.k + 1 := rfl
    have hnx : (oStep o s).next = max o.next ((unpackB s).number + 1) := rfl
    have hbd : (oStep o s).bad = if (unpackB s).ok = true ∨ blankB s = true then o.bad else o.bad ++ [o.k] := rfl
    rcases h s (List.mem_cons_self ..) with ⟨k, hk', rfl⟩ | ⟨ho, hz⟩
    · have hp := unpack_part h1 h2 h3 hk'
      rw [hp] at hnx hbd ⊢
      rw [if_pos (.inl rfl)] at hbd
      have hnn : (partOf n t k).number = n := rfl
      have hoo : (partOf n t k).ok = true := rfl
      rw [hnn] at hnx
      rw [hbd] at i4
      rw [hoo]
      simp only [Bool.not_true, Bool.false_eq_true, if_false, Nat.add_zero]
      exact ⟨by omega, by omega, by omega, i4⟩
    · have hp := (part_le s).2.2.2 ho
      have hb : blankB s = false := by unfold blankB; exact decide_eq_false hz
      rw [hp] at hnx hbd ⊢
      rw [hb, if_neg (by rintro (h | h) <;> cases h)] at hbd
      have hnn : noPart.number = 0 := rfl
      have hoo : noPart.ok = false := rfl
      rw [hnn] at hnx
      rw [hbd, List.length_append, List.length_singleton] at i4
      rw [hoo]
      simp only [Bool.not_false, if_true]
      exact ⟨by omega, by omega, by omega, by omega⟩
theorem count_set (p : Bs → Bool) : ∀ (X : List Bs) (i : Nat) (s : Bs), (X.set i s).countP p ≤ X.countP p + 1
  | [], _, _ => by simp
  | x :: X, 0, s => by
    rw [List.set_cons_zero, List.countP_cons, List.countP_cons]
    split <;> split <;> omega
  | x :: X, i + 1, s => by
    have := count_set p X i s
    rw [List.set_cons_succ, List.countP_cons, List.countP_cons]
    omega
theorem count_rot (p : Bs → Bool) : ∀ (F : List (Nat × Nat)) (X : List Bs), (rotX X F).countP p ≤ X.countP p + F.length
  | [], _ => Nat.le_refl _
  | x :: F, X => by
    have h1 := count_rot p F (X.set x.1 (flipB (X.getD x.1 []) x.2))
    have h2 := count_set p X x.1 (flipB (X.getD x.1 []) x.2)
    rw [rotX, List.length_cons]
    omega
theorem fold_bad : ∀ (R : List Bs) (n : Nat) (o : OV), 1 ≤ n → n + R.length ≤ 4097 → (∀ t ∈ R, t.length ≤ 8000) → o.next ≤ n → ((imgFrom n R).foldl oStep o).bad = o.bad ∧ (R ≠ [] → ((imgFrom n R).foldl oStep o).next = n + R.length)
  | [], _, _, _, _, _, _ => ⟨rfl, fun h => absurd rfl h⟩
  | t :: R, n, o, h1, h2, h3, h4 => by
    rw [List.length_cons] at h2
    have e : ((imgFrom n (t :: R)).foldl oStep o) = (imgFrom (n + 1) R).foldl oStep ⟨o.k + countN t.length, max o.next (n + 1), o.k + countN t.length, o.bad⟩ := by
      rw [imgFrom, List.foldl_append, foldO_pack h1 (by omega) (h3 t (List.mem_cons_self ..))]
    have hmx : max o.next (n + 1) = n + 1 := by omega
    rw [e, img_fold R (n + 1) _ (by omega) (by omega) (fun x hx => h3 x (List.mem_cons_of_mem _ hx)) hmx rfl]
    exact ⟨rfl, fun _ => by simp only [List.length_cons]; omega⟩
theorem recs_pair {A B : List Bs} {h n : Nat} (hA : A.length = h) (hn : n = h + 2) : ((recsFrom 1 A ++ recsFrom n B).map Prod.fst) = List.range' 1 h ++ List.range' (h + 2) B.length := by
  rw [List.map_append, recs_fst, recs_fst, hA, hn]
/-- what is found -/
theorem rot_law {T : RSt} {R : List Bs} {h : Nat} {t : Bs} {F : List (Nat × Nat)} (H : Rots T R h t F) (hR : R.length ≤ 12) (ht : R[h]? = some t) (hst : ∀ t ∈ R, Stepped t) (h8 : ∀ t ∈ R, t.length ≤ 8000) (hf : (imgFrom 1 R).length ≤ 200)
    (hF : F ≠ []) (hn : (F.map Prod.fst).Nodup) (hx : ∀ x ∈ F, x.1 < countN t.length ∧ x.2 < 512) (hg : genB (T.s.map (·.text)) R = true) :
    (openT T).texts = R.take h ++ R.drop (h + 1) ∧ 0 < (openT T).bad.length ∧ (openT T).bad.length ≤ F.length ∧
    (∀ z, z ∈ (openT T).nums ↔ (1 ≤ z ∧ z ≤ R.length ∧ z ≠ (h : Int) + 1)) ∧ (openT T).nums.length ≤ 12 ∧ (h + 1 < R.length → (openT T).next = (R.length : Int) + 1) := by
  obtain ⟨z, hz⟩ := H.img
  have hh := (List.getElem?_eq_some_iff.1 ht).1
  have ht8 := h8 t (List.mem_of_getElem? ht)
  obtain ⟨Y, hY⟩ : ∃ Y, Y = rotX (packB (h + 1) t) F := ⟨_, rfl⟩
  have hYl : Y.length = countN t.length := by rw [hY, rotX_len, pack_len]
  rw [← hY] at hz
  have hgm : ∀ s ∈ Y, genOne R s = true := fun s hs => by
    unfold genB at hg
    rw [List.all_eq_true] at hg
    exact hg s (by rw [hz]; simp [hs])
  -- each sector of the record
  have hPg : ∀ i, i < countN t.length → (packB (h + 1) t).getD i [] = sectB (h + 1) t i := fun i hi => by
    rw [List.getD_eq_getElem?_getD, pack_at hi]; rfl
  have hin : ∀ x ∈ F, Y[x.1]? = some (flipB (sectB (h + 1) t x.1) x.2) := fun x hm => by
    have h1 := hx x hm
    rw [hY, rotX_in F _ hn x hm (by rw [pack_len]; exact h1.1), hPg _ h1.1]
  have hbad : ∀ x ∈ F, (unpackB (flipB (sectB (h + 1) t x.1) x.2)).ok = false ∧ flipB (sectB (h + 1) t x.1) x.2 ≠ zero64 := fun x hm => by
    have h1 := hx x hm
    exact ⟨turn_bad hR ht hst h8 hf h1.1 h1.2 (hgm _ (List.mem_of_getElem? (hin x hm))), turn_nz (by omega) ht8 h1.1⟩
  have hat : ∀ (i : Nat) (s : Bs), Y[i]? = some s → s = sectB (h + 1) t i ∨ ((unpackB s).ok = false ∧ s ≠ zero64) := fun i s hi => by
    by_cases hm : i ∈ F.map Prod.fst
    · obtain ⟨x, hxm, rfl⟩ := List.mem_map.1 hm
      rw [hin x hxm] at hi
      obtain rfl := Option.some.inj hi
      exact .inr (hbad x hxm)
    · have hil : i < countN t.length := by rw [← hYl]; exact (List.getElem?_eq_some_iff.1 hi).1
      rw [hY, rotX_out F _ i hm, pack_at hil] at hi
      exact .inl (Option.some.inj hi).symm
  have hB : Block (h + 1) t (Y.map unpackB) := block_of (by omega) (by omega) ht8 hYl fun i s hi => (hat i s hi).imp id And.left
  obtain ⟨x0, hx0⟩ := List.exists_mem_of_ne_nil F hF
  have hex : ∃ s ∈ Y, (unpackB s).ok = false := ⟨_, List.mem_of_getElem? (hin x0 hx0), (hbad x0 hx0).1⟩
  have hrY : Recs (Y.map unpackB) [] := recs_bad hB (by
    obtain ⟨s, hs, ho⟩ := hex
    exact ⟨unpackB s, List.mem_map_of_mem hs, ho⟩)
  have hse : secsT T = imgFrom 1 (R.take h) ++ Y ++ (imgFrom (h + 2) (R.drop (h + 1)) ++ List.replicate z zero64) := by
    rw [secs_clean H.off (fun x hx => (H.clean x hx).1), hz]
  have s1 : ∀ t ∈ R.take h, t.length ≤ 8000 := fun x hx => h8 x (List.mem_of_mem_take hx)
  have s2 : ∀ t ∈ R.drop (h + 1), t.length ≤ 8000 := fun x hx => h8 x (List.mem_of_mem_drop hx)
  have l1 : (R.take h).length = h := by rw [List.length_take]; omega
  have l2 : (R.drop (h + 1)).length = R.length - (h + 1) := List.length_drop
  have hr : Recs ((secsT T).map unpackB) (recsFrom 1 (R.take h) ++ recsFrom (h + 2) (R.drop (h + 1))) := by
    have := ((img_recs (R.take h) 1 (Nat.le_refl _) (by omega) s1).app hrY).app ((img_recs (R.drop (h + 1)) (h + 2) (by omega) (by omega) s2).app (recs_zero z))
    rw [List.append_nil, List.append_nil, ← List.map_append, ← List.map_append, ← List.map_append, ← hse] at this
    exact this
  have hfst := recs_pair (A := R.take h) (B := R.drop (h + 1)) (n := h + 2) l1 rfl
  have hnd : ((recsFrom 1 (R.take h) ++ recsFrom (h + 2) (R.drop (h + 1))).map Prod.fst).Nodup := by
    rw [hfst, List.nodup_append]
    refine ⟨List.nodup_range', List.nodup_range', fun a ha b hb => ?_⟩
    rw [List.mem_range'_1] at ha hb
    omega
  have hfound := found_of hr hnd
  -- the fold
  have f1 : (imgFrom 1 (R.take h)).foldl oStep ⟨0, 1, 0, []⟩ = ⟨0 + (imgFrom 1 (R.take h)).length, 1 + (R.take h).length, 0 + (imgFrom 1 (R.take h)).length, []⟩ := img_fold (R.take h) 1 ⟨0, 1, 0, []⟩ (Nat.le_refl _) (by omega) s1 rfl rfl
  obtain ⟨q1, q2, q3, q4⟩ := fold_some (n := h + 1) (t := t) (by omega) (by omega) ht8 Y ⟨0 + (imgFrom 1 (R.take h)).length, 1 + (R.take h).length, 0 + (imgFrom 1 (R.take h)).length, []⟩ fun s hs => by
    obtain ⟨i, hi⟩ := List.mem_iff_getElem?.1 hs
    have hil : i < countN t.length := by rw [← hYl]; exact (List.getElem?_eq_some_iff.1 hi).1
    rcases hat i s hi with e | e
    · exact .inl ⟨i, hil, e⟩
    · exact .inr e
  obtain ⟨o2, ho2⟩ : ∃ o2, o2 = Y.foldl oStep ⟨0 + (imgFrom 1 (R.take h)).length, 1 + (R.take h).length, 0 + (imgFrom 1 (R.take h)).length, []⟩ := ⟨_, rfl⟩
  rw [← ho2] at q1 q2 q3 q4
  simp only [l1, List.length_nil, Nat.zero_add] at q2 q3 q4
  obtain ⟨p1, p2⟩ := fold_bad (R.drop (h + 1)) (h + 2) o2 (by omega) (by omega) s2 (by omega)
  obtain ⟨o3, ho3⟩ : ∃ o3, o3 = (imgFrom (h + 2) (R.drop (h + 1))).foldl oStep o2 := ⟨_, rfl⟩
  rw [← ho3] at p1 p2
  have hnx : 1 ≤ o3.next := by
    by_cases he : R.drop (h + 1) = []
    · rw [ho3, he]
      show 1 ≤ o2.next
      omega
    · rw [p2 he]; omega
  have hof : oFold (secsT T) = ⟨o3.k + z, o3.next, o3.fin, o3.bad⟩ := by
    rw [oFold, hse, List.foldl_append, List.foldl_append, List.foldl_append, f1, ← ho2, ← ho3, foldO_zero _ _ hnx]
  have hbl : (openT T).bad.length = Y.countP (fun s => !(unpackB s).ok) := by
    show ((oFold (secsT T)).bad.map _).length = _
    rw [List.length_map, hof]
    show o3.bad.length = _
    rw [p1, q4]
  have hnums : (openT T).nums = (List.range' 1 h ++ List.range' (h + 2) (R.drop (h + 1)).length).map fun x : Nat => (x : Int) := by
    show (foundL ((secsT T).map unpackB)).map (fun x => (x.1 : Int)) = _
    rw [hfound, ← hfst, List.map_map]
    rfl
  refine ⟨?_, ?_, ?_, fun z => ?_, ?_, fun hlt => ?_⟩
  · show (foundL ((secsT T).map unpackB)).map Prod.snd = _
    rw [hfound, List.map_append, recs_texts, recs_texts]
  · rw [hbl, List.countP_pos_iff]
    obtain ⟨s, hs, ho⟩ := hex
    exact ⟨s, hs, by rw [ho]; rfl⟩
  · rw [hbl, hY]
    refine Nat.le_trans (count_rot _ F _) ?_
    have : (packB (h + 1) t).countP (fun s => !(unpackB s).ok) = 0 := by
      rw [List.countP_eq_zero]
      intro s hs
      rw [packB, List.mem_map] at hs
      obtain ⟨i, hi, rfl⟩ := hs
      rw [unpack_part (by omega) (by omega) ht8 (List.mem_range.1 hi)]
      show ¬ (!true) = true
      decide
    omega
  · rw [hnums, List.mem_map]
    constructor
    · rintro ⟨a, ha, rfl⟩
      rcases List.mem_append.1 ha with ha | ha
      · rw [List.mem_range'_1] at ha
        omega
      · rw [List.mem_range'_1] at ha
        omega
    · intro hzz
      refine ⟨z.toNat, ?_, by omega⟩
      rw [List.mem_append, List.mem_range'_1, List.mem_range'_1, l2]
      omega
  · rw [hnums, List.length_map, List.length_append, List.length_range', List.length_range', l2]
    omega
  · show ((oFold (secsT T)).next : Int) = _
    rw [hof]
    show (o3.next : Int) = _
    rw [p2 (by intro e; rw [e] at l2; simp at l2; omega), l2]
    omega
/-- the numbers that are missing -/
theorem lost_one {nums : List Int} {N h : Nat} (hh : h < N) (hm : ∀ z, z ∈ nums ↔ (1 ≤ z ∧ z ≤ N ∧ z ≠ (h : Int) + 1)) : lostL nums N = [(h : Int) + 1] := by
  have key : ∀ M, M ≤ N → lostL nums M = if h < M then [(h : Int) + 1] else [] := by
    intro M
    induction M with
    | zero => intro _; rfl
    | succ M ih =>
      intro hM
      rw [lost_succ, ih (by omega)]
      by_cases e : M = h
      · subst e
        rw [if_neg (by rw [hm]; omega), if_neg (by omega), if_pos (by omega)]
        rfl
      · rw [if_pos ((hm _).2 (by omega))]
        by_cases hl : h < M
        · rw [if_pos hl, if_pos (by omega)]
        · rw [if_neg hl, if_neg (by omega)]
  rw [key N (Nat.le_refl _), if_pos hh]
end Go.Proofs.YtddpjahoeldleaaGreatDoor
