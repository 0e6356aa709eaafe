/- The plain law of DiskTears. -/
import Derived.Test.YtibhnjnfifpepaaRefDo
namespace Go.Proofs.Ytibhnjnfifpepaa
open Go.RowKit Go.Maps

theorem mountL_at (pf : Nat → Int) : ∀ (l : List Sec) (k i : Nat) (x : Sec), l[i]? = some x → (mountL pf l k)[i]? = some (if x.dirty then settleX x (pf (k + cntD (l.take i))) else x)
  | [], _, _, _, h => by simp at h
  | a :: r, k, 0, x, h => by
    obtain rfl : a = x := by simpa using h
    rw [mountL]
    by_cases hd : a.dirty = true
    · rw [if_pos hd, if_pos hd]; rfl
    · rw [if_neg hd, if_neg hd]; rfl
  | a :: r, k, i + 1, x, h => by
    have h' : r[i]? = some x := by simpa using h
    rw [mountL]
    by_cases hd : a.dirty = true
    · rw [if_pos hd, List.getElem?_cons_succ, mountL_at pf r (k + 1) i x h', show cntD ((a :: r).take (i + 1)) = cntD (r.take i) + 1 by simp [cntD, hd], show k + 1 + cntD (r.take i) = k + (cntD (r.take i) + 1) by omega]
    · rw [if_neg hd, List.getElem?_cons_succ, mountL_at pf r k i x h', show cntD ((a :: r).take (i + 1)) = cntD (r.take i) by simp [cntD, hd]]
theorem mountL_done (pf : Nat → Int) : ∀ (l : List Sec) (k : Nat), ∀ x ∈ mountL pf l k, x.dirty = false
  | [], _, x, h => by cases h
  | a :: r, k, x, h => by
    rw [mountL] at h
    by_cases hd : a.dirty = true
    · rw [if_pos hd] at h
      rcases List.mem_cons.1 h with rfl | h
      · rfl
      · exact mountL_done pf r _ x h
    · rw [if_neg hd] at h
      rcases List.mem_cons.1 h with rfl | h
      · simpa using hd
      · exact mountL_done pf r _ x h
theorem places_none {f : Sec → Bool} : ∀ (l : List Sec) (j : Nat), (∀ x ∈ l, f x = false) → placesFrom f l j = []
  | [], _, _ => rfl
  | x :: r, j, h => by
    rw [placesFrom, if_neg (by rw [h x (List.mem_cons_self ..)]; simp), places_none r _ (fun y hy => h y (List.mem_cons_of_mem _ hy))]
theorem cntD_snoc {l : List Sec} {i : Nat} {x : Sec} (hx : l[i]? = some x) : cntD (l.take (i + 1)) = if x.dirty then cntD (l.take i) + 1 else cntD (l.take i) := by
  rw [(take_snoc hx).1]
  cases hd : x.dirty <;> simp [cntD, hd]

/-- what sector i holds behind Mount -/
def nowB (T : RSt) (ps : List Int) (i : Nat) (x : Sec) : Bs := if x.dirty = true ∧ x.worn = false then tornB x.next x.text (pq (pickF ps (cntD (T.s.take i)))) else x.text
theorem now_at {S : St} {T : RSt} (h : Sim S T) (ps : List Int) {i : Nat} {x : Sec} (hx : T.s[i]? = some x) : (mountS S ps).bl[i]? = some (nowB T ps i x) := by
  rw [(h.mount ps).texts, List.getElem?_map]
  show ((mountL (pickF ps) T.s 0)[i]?).map _ = _
  rw [mountL_at _ _ _ _ _ hx, Option.map_some, Nat.zero_add]
  unfold nowB
  cases hd : x.dirty
  · simp
  · cases hw : x.worn
    · simp [settleX, hw]
    · simp [settleX, hw]
theorem old_at {S : St} {T : RSt} (h : Sim S T) {i : Nat} {x : Sec} (hx : T.s[i]? = some x) : S.bl[i]? = some x.text := by
  rw [h.texts, List.getElem?_map, hx]; rfl
theorem pend_done {S : St} {T : RSt} (h : Sim S T) (ps : List Int) : (keysOf (mountS S ps).pend).length = 0 := by
  rw [(h.mount ps).pend]
  show (placesFrom (·.dirty) (mountL (pickF ps) T.s 0) 0).length = 0
  rw [places_none _ _ (mountL_done (pickF ps) T.s 0)]; rfl
theorem rPlay_snoc (T : RSt) (os : List OpV) (k : Nat) (o : OpV) (h : os[k]? = some o) : rPlay T (os.take (k + 1)) = rDoS (rPlay T (os.take k)) o := by
  rw [List.take_add_one, h]
  simp [rPlay]
theorem clamp_pq (p : Int) : max 0 (min p 64) = ((pq p : Nat) : Int) := by unfold pq; omega
end Go.Proofs.Ytibhnjnfifpepaa
