/- What every operation leaves: as many sectors, the pending ones among them. -/
import Derived.Test.YtddpjahoeldleaaGreatDoorDFlush
import Derived.Test.YtddpjahoeldleaaGreatDoorDRot
namespace Go.Proofs.YtddpjahoeldleaaGreatDoor.Dk
open Go.RowKit Go.Maps

theorem mem_insert {H : Type} (x y : Lit × DataW H) : ∀ l, y ∈ DataW.insert x l → y = x ∨ y ∈ l
  | [], h => by
    rw [DataW.insert] at h
    simpa using h
  | a :: r, h => by
    rw [DataW.insert] at h
    split at h
    · simpa using h
    · rcases List.mem_cons.1 h with e | h
      · exact .inr (by simp [e])
      · rcases mem_insert x y r h with e | h
        · exact .inl e
        · exact .inr (List.mem_cons_of_mem _ h)
theorem mem_keysOf (D : Dt) (z : Int) : z ∈ keysOf D ↔ z ∈ intKeys D := (List.mergeSort_perm _ _).mem_iff
theorem keys_put (D : Dt) (i : Int) (v : Dt) (z : Int) (h : z ∈ keysOf (D.put (kI i) v)) : z = i ∨ z ∈ keysOf D := by
  rw [mem_keysOf] at h ⊢
  cases D with
  | map es =>
    obtain ⟨p, hp, rfl⟩ := List.mem_map.1 h
    rcases mem_insert _ _ _ hp with e | hp
    · left; rw [e]; rfl
    · exact .inr (List.mem_map.2 ⟨p, (List.mem_filter.1 hp).1, rfl⟩)
  | _ => exact .inr h
theorem keys_del (D : Dt) (k : Lit) (z : Int) (h : z ∈ keysOf (D.del k)) : z ∈ keysOf D := by
  rw [mem_keysOf] at h ⊢
  cases D with
  | map es =>
    obtain ⟨p, hp, rfl⟩ := List.mem_map.1 h
    exact List.mem_map.2 ⟨p, (List.mem_filter.1 hp).1, rfl⟩
  | _ => exact h
/-- S' has as many sectors as S, and its pending ones are of S or in range -/
structure Tame (S S' : St) : Prop where
  len : S'.bl.length = S.bl.length
  keys : ∀ z ∈ keysOf S'.pend, z ∈ keysOf S.pend ∨ (0 ≤ z ∧ z < (S.bl.length : Int))
theorem Tame.refl (S : St) : Tame S S := ⟨rfl, fun _ h => .inl h⟩
theorem Tame.trans {S S' S'' : St} (h : Tame S S') (k : Tame S' S'') : Tame S S'' := by
  refine ⟨k.len.trans h.len, fun z hz => ?_⟩
  rcases k.keys z hz with hz | hz
  · exact h.keys z hz
  · exact .inr (by rw [h.len] at hz; exact hz)
theorem Tame.ok {S S' : St} (h : Tame S S') (hP : PendOK S) : PendOK S' := fun z hz => by
  rw [h.len]
  rcases h.keys z hz with hz | hz
  · exact hP z hz
  · exact hz
theorem tame_step (S : St) : Tame S (stepS S) := by
  obtain ⟨h1, h2, _⟩ := step_len S
  exact ⟨h1, fun z hz => .inl (by rw [h2] at hz; exact hz)⟩
theorem tame_settle (S : St) (i : Nat) (p : Int) : Tame S (settleS S i p) := by
  refine ⟨settleS_len S i p, fun z hz => .inl ?_⟩
  unfold settleS at hz
  split at hz
  · exact keys_del _ _ _ hz
  · exact keys_del _ _ _ hz
theorem tame_settleK (S : St) (ks : List Int) (pf : Nat → Int) : ∀ m, Tame S (settleK S ks pf m)
  | 0 => Tame.refl S
  | m + 1 => (tame_settleK S ks pf m).trans (tame_settle _ _ _)
theorem tame_flush (S : St) : Tame S (flushS S) := by
  unfold flushS
  split
  · exact Tame.refl S
  · split
    · exact tame_step S
    · exact (tame_step S).trans (tame_settleK _ _ _ _)
theorem tame_write (S : St) (i : Int) (b : Bs) : Tame S (writeS S i b) := by
  unfold writeS
  split
  · exact Tame.refl S
  · rename_i hc
    split
    · exact tame_step S
    · have hs := tame_step S
      refine ⟨hs.len, fun z hz => ?_⟩
      rcases keys_put _ _ _ _ hz with rfl | hz
      · right
        have h0 : checkE S z = 0 := Decidable.byContradiction fun e => hc (.inl e)
        unfold checkE at h0
        split at h0
        · cases h0
        · split at h0
          · assumption
          · cases h0
      · exact hs.keys z hz
theorem tame_rot (S : St) (i bit : Int) : Tame S (rotS S i bit) := by
  unfold rotS
  split
  · exact ⟨List.length_set, fun _ h => .inl h⟩
  · exact Tame.refl S
theorem tame_wear (S : St) (i : Int) : Tame S (wearS S i) := by
  unfold wearS
  split
  · exact ⟨rfl, fun _ h => .inl h⟩
  · exact Tame.refl S
theorem pendOK_new (n : Nat) : PendOK (newS n) := fun z hz => by
  rw [mem_keysOf] at hz
  cases hz
end Go.Proofs.YtddpjahoeldleaaGreatDoor.Dk
