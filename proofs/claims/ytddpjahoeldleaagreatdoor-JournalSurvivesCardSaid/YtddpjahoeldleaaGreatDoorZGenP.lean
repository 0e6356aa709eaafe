import Derived.Test.YtddpjahoeldleaaGreatDoorPSane
import Derived.Test.YtddpjahoeldleaaGreatDoorRefUnpack
import Derived.Test.YtddpjahoeldleaaGreatDoorRefPack
import Derived.Deep.RegionHeld3
/-! Plain law: what is found after the power has failed during an append. -/
namespace Go.Proofs.YtddpjahoeldleaaGreatDoor
open Dk (RSt Sim rMountS rTripS mountL settleX tornB pq pickF)

theorem mount_dirty (pf : Nat → Int) : ∀ (l : List Dk.Sec) (k : Nat), ∀ x ∈ mountL pf l k, x.dirty = false
  | [], _, _, h => by cases h
  | y :: r, k, x, h => by
    rw [mountL] at h
    split at h
    · rcases List.mem_cons.1 h with rfl | h
      · rfl
      · exact mount_dirty pf r _ x h
    · rename_i hd
      rcases List.mem_cons.1 h with rfl | h
      · simpa using hd
      · exact mount_dirty pf r _ x h
theorem dirtL_nil : ∀ m : List Dk.Sec, dirtL m [] = m
  | [] => rfl
  | _ :: _ => rfl
/-- some sectors of a record, torn -/
theorem mount_torn (pf : Nat → Int) : ∀ (l : List Bs) (mid post : List Dk.Sec) (k : Nat), l.length ≤ mid.length → (∀ x ∈ mid, x.text = zero64 ∧ x.dirty = false ∧ x.worn = false) → (∀ x ∈ post, x.dirty = false) →
    ∃ X : List Bs, (mountL pf (dirtL mid l ++ post) k).map (·.text) = X ++ post.map (·.text) ∧ X.length = mid.length ∧ ∀ (i : Nat) (s : Bs), X[i]? = some s → s = zero64 ∨ ∃ b q, l[i]? = some b ∧ s = b.take q ++ zero64.drop q
  | [], mid, post, k, _, hm, hp => by
    refine ⟨mid.map (·.text), ?_, by simp, fun i s hs => .inl ?_⟩
    · rw [dirtL_nil, mountL_clean _ _ _ (fun x hx => (List.mem_append.1 hx).elim (fun h => (hm x h).2.1) (hp x)), List.map_append]
    · have := List.mem_of_getElem? hs
      obtain ⟨x, hx, rfl⟩ := List.mem_map.1 this
      exact (hm x hx).1
  | b :: l, [], _, _, h, _, _ => by simp at h
  | b :: l, x :: r, post, k, hl, hm, hp => by
    obtain ⟨X, e, hX, hs⟩ := mount_torn pf l r post (k + 1) (by simpa using hl) (fun y hy => hm y (List.mem_cons_of_mem _ hy)) hp
    obtain ⟨h1, h2, h3⟩ := hm x (List.mem_cons_self ..)
    refine ⟨(b.take (pq (pf k)) ++ zero64.drop (pq (pf k))) :: X, ?_, by rw [List.length_cons, hX, List.length_cons], fun i s hi => ?_⟩
    · rw [dirtL, List.cons_append, mountL, if_pos (show (dirt x b).dirty = true from rfl), List.map_cons, e, List.cons_append]
      congr 1
      show (if (dirt x b).worn then (dirt x b).text else tornB (dirt x b).next (dirt x b).text (pq (pf k))) = _
      rw [show (dirt x b).worn = x.worn from rfl, h3, show (dirt x b).text = x.text from rfl, h1]
      rfl
    · cases i with
      | zero =>
        obtain rfl : _ = s := by simpa using hi
        exact .inr ⟨b, _, rfl, rfl⟩
      | succ i => exact hs i s (by simpa using hi)

/-- what genuine computes -/
def genOne (texts : List Bs) (s : Bs) : Bool :=
  !(unpackB s).ok || (decide ((unpackB s).number ≤ texts.length) && (decide (packE ((unpackB s).number : Int) (texts.getD ((unpackB s).number - 1) []) = 0) && (decide ((unpackB s).part < (packV ((unpackB s).number : Int) (texts.getD ((unpackB s).number - 1) [])).length) && decide ((packV ((unpackB s).number : Int) (texts.getD ((unpackB s).number - 1) [])).getD (unpackB s).part [] = s))))
def genB (image texts : List Bs) : Bool := image.all (genOne texts)
theorem gen_one {texts : List Bs} {s : Bs} (h : genOne texts s = true) (ho : (unpackB s).ok = true) : ∃ t, texts[(unpackB s).number - 1]? = some t ∧ (unpackB s).number ≤ texts.length ∧ t.length ≤ 8000 ∧ (unpackB s).part < countN t.length ∧ s = sectB (unpackB s).number t (unpackB s).part := by
  unfold genOne at h
  simp only [ho, Bool.not_true, Bool.false_or, Bool.and_eq_true, decide_eq_true_eq] at h
  obtain ⟨h1, h2, h3, h4⟩ := h
  have hn := (part_le s).2.2.1 ho
  have ht : texts[(unpackB s).number - 1]? = some (texts[(unpackB s).number - 1]'(by omega)) := List.getElem?_eq_getElem (by omega)
  have hd : texts.getD ((unpackB s).number - 1) [] = texts[(unpackB s).number - 1]'(by omega) := by rw [List.getD_eq_getElem?_getD, ht]; rfl
  rw [hd] at h2 h3 h4
  rw [packV, if_pos h2, Int.toNat_natCast] at h3 h4
  have h8 : (texts[(unpackB s).number - 1]'(by omega)).length ≤ 8000 := by
    unfold packE at h2
    split at h2
    · cases h2
    · split at h2
      · cases h2
      · omega
  rw [pack_len] at h3
  refine ⟨_, ht, h1, h8, h3, ?_⟩
  rw [List.getD_eq_getElem?_getD, pack_at h3] at h4
  exact h4.symm
theorem unpack_fields {s : Bs} (ho : (unpackB s).ok = true) : (unpackB s).number = numB (s.take 4) ∧ (unpackB s).part = numB ((s.drop 4).take 2) ∧ (unpackB s).left = numB ((s.drop 6).take 2) := by
  unfold unpackB at ho ⊢
  split
  · exact ⟨rfl, rfl, rfl⟩
  · rename_i h; rw [if_neg h] at ho; cases ho
theorem num_zeros (m : Nat) : numB (List.replicate m 0) = 0 := by
  induction m with
  | zero => rfl
  | succ m ih => rw [List.replicate_succ, numB, ih]; rfl
theorem le_byte {n : Nat} (h : n < 256) (k : Nat) : leN n (k + 1) = UInt8.ofNat n :: List.replicate k 0 := by
  rw [leN, Nat.mod_eq_of_lt h, Nat.div_eq_of_lt h]
  congr 1
  induction k with
  | zero => rfl
  | succ k ih => rw [leN, ih]; rfl
/-- the first bytes of a sector of a small number -/
theorem sect_bytes {n i : Nat} (hn : n < 256) (hi : i < 256) (t : Bs) : ∃ r, sectB n t i = UInt8.ofNat n :: 0 :: 0 :: 0 :: UInt8.ofNat i :: 0 :: r ∧ r.length = 58 := by
  have hl := sect_len n t i
  refine ⟨(sectB n t i).drop 6, ?_, by rw [List.length_drop, hl]⟩
  have e : sectB n t i = leN n 4 ++ (leN i 2 ++ ((sectB n t i).drop 6)) := by
    rw [← List.append_assoc]
    have h : (leN n 4 ++ leN i 2).length = 6 := by simp [le_len]
    have h2 : (sectB n t i).take 6 = leN n 4 ++ leN i 2 := by
      rw [sectB, checkedB, bodyB]
      simp only [List.append_assoc]
      rw [← List.append_assoc (leN n 4)]
      exact List.take_left' h
    rw [← h2, List.take_append_drop]
  rw [le_byte hn 3, le_byte hi 1] at e
  exact e
/-- a torn sector that is genuine is the record's own -/
theorem torn_own {R : List Bs} {t : Bs} {i q : Nat} (hR : R.length ≤ 200) (h8 : t.length ≤ 8000) (hi : i < countN t.length) (hg : genOne (R ++ [t]) ((sectB (R.length + 1) t i).take q ++ zero64.drop q) = true) :
    (sectB (R.length + 1) t i).take q ++ zero64.drop q = sectB (R.length + 1) t i ∨ (unpackB ((sectB (R.length + 1) t i).take q ++ zero64.drop q)).ok = false := by
  cases ho : (unpackB ((sectB (R.length + 1) t i).take q ++ zero64.drop q)).ok with
  | false => exact .inr rfl
  | true =>
    left
    have hi167 : i < 256 := by
      unfold countN at hi
      rw [if_neg (by omega)] at hi
      split at hi <;> omega
    obtain ⟨t', g1, g2, g3, g4, g5⟩ := gen_one hg ho
    obtain ⟨f1, f2, f3⟩ := unpack_fields ho
    obtain ⟨r, hb, hr⟩ := sect_bytes (n := R.length + 1) (by omega) hi167 t
    obtain ⟨s, hs⟩ : ∃ s, s = (sectB (R.length + 1) t i).take q ++ zero64.drop q := ⟨_, rfl⟩
    rw [← hs] at g1 g2 g4 g5 f1 f2 f3 ho ⊢
    have hN : (UInt8.ofNat (R.length + 1)).toNat = R.length + 1 := by rw [UInt8.toNat_ofNat', Nat.mod_eq_of_lt (by omega)]
    have hI : (UInt8.ofNat i).toNat = i := by rw [UInt8.toNat_ofNat', Nat.mod_eq_of_lt (by omega)]
    generalize UInt8.ofNat (R.length + 1) = x0 at hb hN
    generalize UInt8.ofNat i = x4 at hb hI
    have hz : zero64 = 0 :: 0 :: 0 :: 0 :: 0 :: 0 :: List.replicate 58 0 := rfl
    -- the number
    have hnum : q = 0 ∨ (unpackB s).number = R.length + 1 := by
      rcases Nat.eq_zero_or_pos q with h0 | h0
      · exact .inl h0
      · right
        rw [f1, hs, hb, hz]
        match q, h0 with
        | 1, _ => simp [numB, hN]
        | 2, _ => simp [numB, hN]
        | 3, _ => simp [numB, hN]
        | q + 4, _ => simp [numB, hN]
    have hq0 : q ≠ 0 := fun h0 => by
      subst h0
      rw [List.take_zero, List.drop_zero, List.nil_append] at hs
      rw [hs, unpack_zero] at ho
      cases ho
    have hnum : (unpackB s).number = R.length + 1 := hnum.resolve_left hq0
    rw [hnum] at g1 g5
    rw [Nat.add_sub_cancel, List.getElem?_append_right (Nat.le_refl _), Nat.sub_self] at g1
    obtain rfl : t = t' := by simpa using g1
    by_cases hpart : (unpackB s).part = i
    · rw [hpart] at g5
      exact g5
    · exfalso
      have hq : q ≤ 4 := by
        rcases Nat.lt_or_ge 4 q with h | h
        · exfalso
          apply hpart
          rw [f2, hs, hb, hz]
          obtain ⟨m, rfl⟩ : ∃ m, q = m + 5 := ⟨q - 5, by omega⟩
          cases m with
          | zero => simp [numB, hI]
          | succ m => simp [numB, hI]
        · exact h
      have hd : s.drop 4 = List.replicate 60 0 := by
        rw [hs, hb, hz]
        match q, hq, hq0 with
        | 1, _, _ => rfl
        | 2, _, _ => rfl
        | 3, _, _ => rfl
        | 4, _, _ => rfl
      have hp0 : (unpackB s).part = 0 := by rw [f2, hd]; rfl
      have hl0 : (unpackB s).left = 0 := by
        rw [f3, show s.drop 6 = (s.drop 4).drop 2 by rw [List.drop_drop], hd]
        rfl
      rw [hp0] at g5
      have hu := unpack_part (n := R.length + 1) (t := t) (k := 0) (by omega) (by omega) h8 (count_pos h8)
      rw [← g5] at hu
      have hl : (unpackB s).left = t.length := by rw [hu]; rfl
      rw [hl0] at hl
      rw [← hl] at hi
      have : countN 0 = 1 := rfl
      rw [this] at hi
      omega

/-- what Open finds on a disk whose image is that of the records R, of a block, and blank -/
theorem open_texts {T : RSt} {R : List Bs} {X : List Bs} {z : Nat} {Q : List (Nat × Bs)} (ho : T.off = false) (hd : ∀ x ∈ T.s, x.dirty = false) (hi : T.s.map (·.text) = imgFrom 1 R ++ X ++ List.replicate z zero64) (hs : ∀ t ∈ R, t.length ≤ 8000) (hf : R.length ≤ 4000)
    (hX : Recs (X.map unpackB) Q) (hQ : ((recsFrom 1 R ++ Q).map Prod.fst).Nodup) : (openT T).texts = R ++ Q.map Prod.snd := by
  have hse : secsT T = imgFrom 1 R ++ X ++ List.replicate z zero64 := by rw [secs_clean ho hd, hi]
  have hr : Recs ((secsT T).map unpackB) (recsFrom 1 R ++ Q) := by
    have := ((img_recs R 1 (Nat.le_refl _) (by omega) hs).app hX).app (recs_zero z)
    rw [List.append_nil, ← List.map_append, ← List.map_append, ← hse] at this
    exact this
  show (foundL ((secsT T).map unpackB)).map Prod.snd = _
  rw [found_of hr hQ, List.map_append, recs_texts]
theorem one_nodup (R : List Bs) (t : Bs) : ((recsFrom 1 R ++ [(R.length + 1, t)]).map Prod.fst).Nodup := by
  have := recs_fst (R ++ [t]) 1
  rw [recs_snoc, show 1 + R.length = R.length + 1 by omega] at this
  rw [this]
  exact List.nodup_range'
theorem nil_nodup (R : List Bs) : ((recsFrom 1 R ++ ([] : List (Nat × Bs))).map Prod.fst).Nodup := by
  rw [List.append_nil, recs_fst]
  exact List.nodup_range'
def survT (T : RSt) (R : List Bs) (t : Bs) (n : Nat) (picks : List Int) : RSt := rMountS (appT (fullJ R) (rTripS T (n : Int)) t).T picks
theorem surv_law {T : RSt} {R : List Bs} (hF : Full T R) (t : Bs) (n : Nat) (picks : List Int) (hR : R.length ≤ 200) :
    (survT T R t n picks).off = false ∧ (genB ((survT T R t n picks).s.map (·.text)) (R ++ [t]) = true → (openT (survT T R t n picks)).texts = R ++ [t] ∨ ((appT (fullJ R) (rTripS T (n : Int)) t).err ≠ 0 ∧ (openT (survT T R t n picks)).texts = R)) := by
  refine ⟨rfl, fun hg => ?_⟩
  have hleft : (rTripS T (n : Int)).left = (n : Int) := by show max (-1) (n : Int) = n; omega
  have hnext : (fullJ R).next = (R.length : Int) + 1 := rfl
  have hfin : (fullJ R).fin = ((imgFrom 1 R).length : Int) := rfl
  have hN : (fullJ R).next.toNat = R.length + 1 := by rw [hnext]; omega
  have hdirty : ∀ x ∈ (survT T R t n picks).s, x.dirty = false := mount_dirty _ _ _
  by_cases h1 : 8000 < t.length ∨ 4096 < (fullJ R).next ∨ ((rTripS T (n : Int)).s.length : Int) - (fullJ R).fin < (countN t.length : Int)
  · obtain ⟨e1, -, e3⟩ := app_no (T := rTripS T (n : Int)) (t := t) (J := fullJ R) rfl h1
    right
    refine ⟨by rcases e1 with e | e <;> rw [e] <;> decide, ?_⟩
    obtain ⟨z, hz⟩ := hF.img
    have hs : (survT T R t n picks).s = T.s := by
      show mountL _ (appT (fullJ R) (rTripS T (n : Int)) t).T.s 0 = _
      rw [e3]
      exact mountL_clean _ _ _ (fun x hx => (hF.clean x hx).1)
    have := open_texts (T := survT T R t n picks) (X := []) (Q := []) rfl hdirty (by rw [hs, hz, List.append_nil]) hF.small (by omega) Recs.nil (nil_nodup R)
    rwa [List.map_nil, List.append_nil] at this
  · have h8 : t.length ≤ 8000 := by omega
    have hlen : ((rTripS T (n : Int)).s.length) = T.s.length := rfl
    obtain ⟨pre, mid, post, hs, p1, p2, p3, p4, p5, c1, c2, c3, hw⟩ := hF.part (C := countN t.length) (by rw [hlen] at h1; omega)
    have hs' : (rTripS T (n : Int)).s = pre ++ mid ++ post := hs
    by_cases h2 : countN t.length < n
    · -- written whole
      obtain ⟨a1, a2, a3, a4, a5, a6⟩ := app_ok (J := fullJ R) (T := rTripS T (n : Int)) (t := t) rfl h8 (by omega) (by rw [hfin, p1]) hF.off (.inr (by rw [hleft]; omega)) hF.clean hs' p2 hw
      rw [hN] at a4
      left
      have hcl : ∀ x ∈ (appT (fullJ R) (rTripS T (n : Int)) t).T.s, x.dirty = false := fun x hx => by
        rw [a4] at hx
        exact (((c1.app (settL_clean _ _ c2 pack_64)).app c3) x hx).1
      have hs2 : (survT T R t n picks).s = pre ++ settL mid (packB (R.length + 1) t) ++ post := by
        show mountL _ (appT (fullJ R) (rTripS T (n : Int)) t).T.s 0 = _
        rw [mountL_clean _ _ _ hcl, a4]
      have := open_texts (T := survT T R t n picks) (R := R) (X := packB (R.length + 1) t) (z := post.length) (Q := [(R.length + 1, t)]) rfl hdirty
        (by rw [hs2, List.map_append, List.map_append, p3, kept_all _ _ (by rw [p2, pack_len]) (kept_new _ _ hw), zeros_of p5]) hF.small (by omega) (block_pack (by omega) (by omega) h8) (one_nodup R t)
      exact this
    · -- the power fails
      have hpl := pack_len (R.length + 1) t
      obtain ⟨w1, w2, w3⟩ := wrote_cut (T := rTripS T (n : Int)) (l := packB (R.length + 1) t) (m := n) hF.off hs' (by rw [p2, hpl]) pack_64 hleft (by rw [hpl]; omega)
      have e : apT (fullJ R) (rTripS T (n : Int)) t = writeT (rTripS T (n : Int)) (pre.length : Int) (packB (R.length + 1) t) := by rw [apT, hfin, ← p1, hN]
      rw [← e] at w1 w2 w3
      have hA : (appT (fullJ R) (rTripS T (n : Int)) t).err = 24 ∧ (appT (fullJ R) (rTripS T (n : Int)) t).T = (apT (fullJ R) (rTripS T (n : Int)) t).T := by
        unfold appT
        rw [if_neg (show ¬ (fullJ R).closed = true from fun h => Bool.noConfusion h), if_neg (by omega), if_neg (by omega), if_pos (by rw [w1]; decide)]
        exact ⟨w1, rfl⟩
      have hs2 : (survT T R t n picks).s = mountL (pickF picks) (pre ++ dirtL mid ((packB (R.length + 1) t).take n) ++ post) 0 := by
        show mountL _ (appT (fullJ R) (rTripS T (n : Int)) t).T.s 0 = _
        rw [hA.2, w3]
      rw [List.append_assoc, mountL_app _ _ _ _ (fun x hx => (c1 x hx).1)] at hs2
      obtain ⟨X, hX, hXl, hXs⟩ := mount_torn (pickF picks) ((packB (R.length + 1) t).take n) mid post 0 (by rw [List.length_take, hpl, p2]; omega) (fun x hx => ⟨p4 x hx, (c2 x hx).1, hw x hx⟩) (fun x hx => (c3 x hx).1)
      have himg : (survT T R t n picks).s.map (·.text) = imgFrom 1 R ++ X ++ List.replicate post.length zero64 := by
        rw [hs2, List.map_append, hX, p3, zeros_of p5, List.append_assoc]
      rw [himg] at hg
      have hall : ∀ s ∈ X, genOne (R ++ [t]) s = true := fun s hs => by
        unfold genB at hg
        rw [List.all_eq_true] at hg
        exact hg s (by simp [hs])
      have hB : Block (R.length + 1) t (X.map unpackB) := block_of (by omega) (by omega) h8 (by rw [hXl, p2]) (fun i s hi => by
        have him : i < countN t.length := by rw [← p2, ← hXl]; exact (List.getElem?_eq_some_iff.1 hi).1
        rcases hXs i s hi with rfl | ⟨b, q, hb, rfl⟩
        · right; rw [unpack_zero]; rfl
        · have hb' : b = sectB (R.length + 1) t i := by
            rw [List.getElem?_take] at hb
            split at hb
            · rw [pack_at him] at hb
              exact (Option.some.inj hb).symm
            · cases hb
          subst hb'
          exact torn_own hR h8 him (hall _ (List.mem_of_getElem? hi)))
      by_cases hb : ∃ p ∈ X.map unpackB, p.ok = false
      · right
        refine ⟨by rw [hA.1]; decide, ?_⟩
        have := open_texts (T := survT T R t n picks) (R := R) (X := X) (z := post.length) (Q := []) rfl hdirty himg hF.small (by omega) (recs_bad hB hb) (nil_nodup R)
        rwa [List.map_nil, List.append_nil] at this
      · left
        have ha : ∀ p ∈ X.map unpackB, p.ok = true := fun p hp => by
          cases hpo : p.ok with
          | true => rfl
          | false => exact absurd ⟨p, hp, hpo⟩ hb
        exact open_texts (T := survT T R t n picks) (R := R) (X := X) (z := post.length) (Q := [(R.length + 1, t)]) rfl hdirty himg hF.small (by omega) (recs_good hB ha) (one_nodup R t)
end Go.Proofs.YtddpjahoeldleaaGreatDoor

/-! genuine: whether every good sector is one of the records'. -/
namespace Go.Proofs.YtddpjahoeldleaaGreatDoor
open Go.RowKit

theorem hcell_go {w w' : World} {a : Addr} {v : Value} (hb : Below w.heap.size w w') (hl : a.block < w.heap.size) (h : w.cell? a = some v) : w'.cell? a = some v := (hb.cell (p := a) hl).trans h
theorem all_take {texts : List Bs} {image : List Bs} {k : Nat} {s : Bs} (hs : image[k]? = some s) (h : (image.take k).all (genOne texts) = true) (h1 : genOne texts s = true) : (image.take (k + 1)).all (genOne texts) = true := by
  obtain ⟨hk, rfl⟩ := List.getElem?_eq_some_iff.1 hs
  rw [List.take_succ_eq_append_getElem hk, List.all_append, h]
  simpa using h1
theorem gen_false {texts : List Bs} {image : List Bs} {k : Nat} {s : Bs} (hs : image[k]? = some s) (h1 : genOne texts s = false) : genB image texts = false := by
  unfold genB
  rw [List.all_eq_false]
  exact ⟨s, List.mem_of_getElem? hs, by rw [h1]; decide⟩

set_option maxHeartbeats 8000000 in
set_option maxRecDepth 100000 in
theorem genuine_any (A1 : Option Addr) (n1 c1 : Nat) (image : List Bs) (A2 : Option Addr) (n2 c2 : Nat) (texts : List Bs) (w : World) (h1 : Rd w w.heap.size 1 A1 n1 (strCells image)) (h2 : Rd w w.heap.size 1 A2 n2 (strCells texts)) (m1 : n1 ≤ 100000) (m2 : n2 ≤ 100000) (hk : RConsts w) :
    Calls Tryz.prog 17 #[.slice A1 n1 c1, .slice A2 n2 c2] w (RetB (.bool (genB image texts)) w) := by
  obtain ⟨zP, hzP⟩ := zero_of_info infoPart
  have HI := Lib.hid (show image.length = n1 by have := h1.1; simpa [strCells] using this)
  have HT := Lib.hid (show texts.length = n2 by have := h2.1; simpa [strCells] using this)
  have H1 := Lib.hid h1
  have H2 := Lib.hid h2
  have HK := Lib.hid hk
  clear h1 h2 hk
  go_enter Tryz.func17, Tryz.ntmps17
  go_wp2_with fail
  go_loopw [12] (fun x wr => ∃ k : Nat, k ≤ n1 ∧ x = .int .i64 k ∧ Hid ((image.take k).all (genOne texts) = true) ∧ Hid (Below w.heap.size w wr)) (fun x _ => n1 - (intOf x).toNat)
  case atStart => exact ⟨0, by omega, rfl, Lib.hid rfl, Lib.hid (Below.refl _ _)⟩
  case round =>
    obtain ⟨k, hk, rfl, HA, B⟩ := hrel
    by_cases hlt : k < n1
    · obtain ⟨b1, o1, rfl, _, hc1⟩ := (H1.out.below B.out).str HI.out hlt
      have hkl : k < image.length := by rw [HI.out]; exact hlt
      obtain ⟨s, hs⟩ : ∃ s : ByteArray, s = ⟨image[k].toArray⟩ := ⟨_, rfl⟩
      rw [← hs] at hc1
      have HS := Lib.hid (show image[k]? = some s.data.toList by rw [hs, List.getElem?_eq_getElem hkl])
      have j1 : (k : Int) < (n1 : Int) := by omega
      have j0 : (0 : Int) ≤ (k : Int) := by omega
      have UN := Lib.hid (runpack_any s wr (HK.out.below B.out))
      obtain ⟨p, hp⟩ : ∃ p, p = unpackB s.data.toList := ⟨_, rfl⟩
      have HP := Lib.hid (show unpackB s.data.toList = p from hp.symm)
      have HG := Lib.hid (show genOne texts s.data.toList = (!p.ok || (decide (p.number ≤ texts.length) && (decide (packE (p.number : Int) (texts.getD (p.number - 1) []) = 0) && (decide (p.part < (packV (p.number : Int) (texts.getD (p.number - 1) [])).length) && decide ((packV (p.number : Int) (texts.getD (p.number - 1) [])).getD p.part [] = s.data.toList))))) by rw [hp]; rfl)
      have HN1 := Lib.hid (show p.ok = true → 1 ≤ p.number by rw [hp]; exact (part_le _).2.2.1)
      rw [← hp, partRow] at UN
      obtain ⟨N, hN⟩ : ∃ N, N = p.number := ⟨_, rfl⟩
      obtain ⟨Q, hQ⟩ : ∃ N, N = p.part := ⟨_, rfl⟩
      obtain ⟨l, hl⟩ : ∃ N, N = p.left := ⟨_, rfl⟩
      obtain ⟨y, hy⟩ : ∃ y : ByteArray, y = ⟨p.payload.toArray⟩ := ⟨_, rfl⟩
      obtain ⟨o, ho⟩ : ∃ o, o = p.ok := ⟨_, rfl⟩
      rw [← hN, ← hQ, ← hl, ← ho, show str p.payload = .string y by rw [hy]] at UN
      rw [← hN, ← hQ, ← ho] at HG
      rw [← hN, ← ho] at HN1
      clear hp hN hQ hl hy ho hs hkl
      go_wp2_with fail
      refine UN.out.mono ?_
      rintro e w2 ⟨rfl, b2⟩
      have B2 := Lib.hid (below_go B.out b2)
      clear b2 UN
      have B3 := Lib.hid (below_go B2.out (below_new w2 (.cells #[.int .i64 N, .int .i64 Q, .int .i64 l, .string y, .bool o] 97)))
      cases o
      · have HTR := Lib.hid (show genOne texts s.data.toList = true by rw [HG.out]; rfl)
        go_wp2_with fail
        go_roundw
        case rel => exact ⟨k + 1, by omega, by go_num, Lib.hid (all_take HS.out HA.out HTR.out), B3⟩
        case measure => simp [intOf]; omega
      · by_cases hNn : n2 < N
        · have HF := Lib.hid (show genB image texts = false from gen_false HS.out (by rw [HG.out, HT.out, decide_eq_false (by omega)]; rfl))
          have d1 : (n2 : Int) < (N : Int) := by omega
          go_wp2_with fail
          go_ret
          exact RetB.bool HF.out.symm B3.out
        · obtain ⟨M, rfl⟩ : ∃ M, N = M + 1 := ⟨N - 1, by have := HN1.out rfl; omega⟩
          have hM : M < n2 := by omega
          have d1 : ¬ (n2 : Int) < ((M + 1 : Nat) : Int) := by omega
          go_wp2_with fail
          obtain ⟨w3, hw3⟩ : ∃ w3, w3 = w2.alloc (.cells #[.int .i64 ((M : Int) + 1), .int .i64 Q, .int .i64 l, .string y, .bool true] 97) := ⟨_, rfl⟩
          have Q3 := Lib.hid (show Blk w3 w2.heap.size 97 #[.int .i64 ((M : Int) + 1), .int .i64 Q, .int .i64 l, .string y, .bool true] by rw [hw3]; exact Blk.new _ _ _)
          have B3 := Lib.hid (show Below w.heap.size w w3 by rw [hw3]; exact below_go B2.out (below_new _ _))
          rw [← hw3]
          clear hw3
          obtain ⟨b2, o2, rfl, hb2, hc2⟩ := (H2.out.go B3.out).str HT.out hM
          have hMt : M < texts.length := by rw [HT.out]; exact hM
          obtain ⟨t, ht⟩ : ∃ t : ByteArray, t = ⟨texts[M].toArray⟩ := ⟨_, rfl⟩
          rw [← ht] at hc2
          have HTX := Lib.hid (show texts.getD (M + 1 - 1) [] = t.data.toList by rw [ht, Nat.add_sub_cancel, List.getD_eq_getElem?_getD, List.getElem?_eq_getElem hMt]; rfl)
          obtain ⟨L, hL⟩ : ∃ L, L = packV ((M : Int) + 1) t.data.toList := ⟨_, rfl⟩
          obtain ⟨E, hE⟩ : ∃ E, E = packE ((M : Int) + 1) t.data.toList := ⟨_, rfl⟩
          have HGG := Lib.hid (show genOne texts s.data.toList = (decide (E = 0) && (decide (Q < L.length) && decide (L.getD Q [] = s.data.toList))) by
            rw [HG.out, HTX.out, decide_eq_true (show M + 1 ≤ texts.length from hMt), show (((M + 1 : Nat) : Int)) = (M : Int) + 1 by omega, ← hL, ← hE]; rfl)
          have HLL := Lib.hid (show L.length ≤ 1000 by
            rw [hL, packV]
            split
            · rw [packB, List.length_map, List.length_range]; unfold countN; split
              · omega
              · split <;> omega
            · simp)
          have PK := Lib.hid (show ∀ W, Hid (Below w3.heap.size w3 W) → Calls Tryz.prog 53 #[.int .i64 ((M : Int) + 1), .string t] W (PackPost L E W) from fun W h => by
            have := rpackV_any ((M : Int) + 1) t W (HK.out.below (below_go B3.out h.out))
            rwa [← hL, ← hE] at this)
          have k0 : w3.cell? ⟨w2.heap.size, 0, none⟩ = some (.int .i64 ((M : Int) + 1)) := Q3.out.cell 0
          have hwr : IntKind.i64.wrap ((M : Int) + 1 - 1) = (M : Int) := by rw [show (M : Int) + 1 - 1 = (M : Int) by omega]; exact IntWalk.i64_in _ (by omega)
          have HQL := Lib.hid Q3.out.lt
          have HB2 := Lib.hid hb2
          have y0 : Hid (Below w3.heap.size w3 w3.drew) := Lib.hid (Below.refl _ _).drew
          have jM : (M : Int) < (n2 : Int) := by omega
          have jM0 : (0 : Int) ≤ (M : Int) := by omega
          have hwr2 : IntKind.i64.wrap (M : Int) = (M : Int) := IntWalk.i64_in _ (by omega)
          clear ht hL hE hMt hb2
          go_region_held3 (fun W => W.cell? ⟨w2.heap.size, 0, none⟩ = some (.int .i64 ((M : Int) + 1)) ∧ W.cell? ⟨b2, o2 + M, none⟩ = some (.string t) ∧ Hid (Below w3.heap.size w3 W))
            (first | (go_split_ands; exact ⟨hcell_go b5 HQL.out (by assumption), hcell_go b5 HB2.out (by assumption), Lib.hid (below_go y0.out b5)⟩) | exact ⟨k0, hc2, y0⟩ | (go_split_ands; refine ⟨?_, ?_, ?_⟩ <;> assumption) | go_keep)
            (first | (go_at_call 53; go_split_ands; (with_reducible refine (PK.out _ (by assumption)).mono ?_); rintro e w5 ⟨v5, rfl, own5, b5⟩; obtain ⟨A5, c5, rfl, -⟩ := own_slice own5))
          go_split_ands
          have HB5 : Hid (Below w3.heap.size w3 w5) := by assumption
          have B5 := Lib.hid (below_go B3.out HB5.out)
          have Q5 := Lib.hid (Q3.out.below HB5.out Q3.out.lt)
          have O5 := Lib.hid own5
          have k1 : w5.cell? ⟨w2.heap.size, 1, none⟩ = some (.int .i64 Q) := Q5.out.cell 1
          clear own5 b5 y0 PK hwr hwr2
          by_cases hE : E = 0
          · subst hE
            by_cases hQ : Q < L.length
            · obtain ⟨b6, o6, rfl, -, x7⟩ := (Rd.of_own O5.out).str rfl hQ
              obtain ⟨u, hu⟩ : ∃ u : ByteArray, u = ⟨L[Q].toArray⟩ := ⟨_, rfl⟩
              have x6 : w5.cell? ⟨b6, o6 + Q, none⟩ = some (.string u) := by rw [hu]; exact x7
              have HE := Lib.hid (show (u.toList == s.toList) = decide (L.getD Q [] = s.data.toList) by
                rw [Lib.toList_data, Lib.toList_data, hu, List.getD_eq_getElem?_getD, List.getElem?_eq_getElem hQ, Option.getD_some]
                by_cases e : L[Q] = s.data.toList
                · rw [decide_eq_true e]; exact beq_iff_eq.2 e
                · rw [decide_eq_false e]; exact beq_eq_false_iff_ne.2 e)
              have j2 : ¬ (L.length : Int) ≤ (Q : Int) := by omega
              have j3 : (Q : Int) < (L.length : Int) := by omega
              have j4 : (0 : Int) ≤ (Q : Int) := by omega
              have HQQ := Lib.hid hQ
              clear x7 hu hQ
              cases hx : u.toList == s.toList
              · have HF := Lib.hid (show genB image texts = false from gen_false HS.out (by rw [HGG.out, ← HE.out, hx, Bool.and_false, Bool.and_false]))
                go_wp2_with fail
                go_ret
                exact RetB.bool HF.out.symm B5.out
              · have HTR := Lib.hid (show genOne texts s.data.toList = true by rw [HGG.out, ← HE.out, hx, decide_eq_true HQQ.out]; rfl)
                go_wp2_with fail
                go_roundw
                case rel => exact ⟨k + 1, by omega, by go_num, Lib.hid (all_take HS.out HA.out HTR.out), B5⟩
                case measure => simp [intOf]; omega
            · have HF := Lib.hid (show genB image texts = false from gen_false HS.out (by rw [HGG.out, decide_eq_false hQ, Bool.false_and, Bool.and_false]))
              have j2 : (L.length : Int) ≤ (Q : Int) := by omega
              go_wp2_with fail
              go_ret
              exact RetB.bool HF.out.symm B5.out
          · have HF := Lib.hid (show genB image texts = false from gen_false HS.out (by rw [HGG.out, decide_eq_false hE, Bool.false_and]))
            have hb : (E == 0) = false := beq_eq_false_iff_ne.2 hE
            have hb2 : (E != 0) = true := by rw [bne, hb]; rfl
            have hb3 : decide (E = 0) = false := decide_eq_false hE
            go_wp2_with fail
            go_ret
            exact RetB.bool HF.out.symm B5.out
    · obtain rfl : k = n1 := by omega
      go_wp2_with fail
      go_ret
      refine RetB.bool ?_ B.out
      have := HA.out
      rw [List.take_of_length_le (by rw [HI.out]; exact Nat.le_refl _)] at this
      exact this.symm
end Go.Proofs.YtddpjahoeldleaaGreatDoor
