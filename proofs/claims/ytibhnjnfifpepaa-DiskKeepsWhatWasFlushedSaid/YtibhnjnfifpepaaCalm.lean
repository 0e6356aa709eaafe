/- The plain law of DiskKeepsWhatWasFlushed: a disk without rot and worn sectors. -/
import Derived.Test.YtibhnjnfifpepaaModel
namespace Go.Proofs.Ytibhnjnfifpepaa
open Go.RowKit Go.Maps

/-- what each sector reads as -/
def curOf (l : List Sec) : List Bs := l.map fun x => if x.dirty then x.next else x.text
def secOK (x : Sec) : Prop := x.text.length = 64 ∧ (x.dirty = true → x.next.length = 64)
structure Calm (T : RSt) : Prop where
  off : T.off = false
  left : T.left = -1
  worn : ∀ x ∈ T.s, x.worn = false
theorem torn_all {a b : Bs} (ha : a.length = 64) (hb : b.length = 64) : tornB a b (pq 64) = a := by
  have e : pq 64 = 64 := rfl
  rw [tornB, e, List.take_of_length_le (by omega), List.drop_eq_nil_of_le (by omega), List.append_nil]
theorem mount64 : ∀ (l : List Sec) (k : Nat), (∀ x ∈ l, secOK x) → (∀ x ∈ l, x.worn = false) →
    curOf (mountL (fun _ => 64) l k) = curOf l ∧ (mountL (fun _ => 64) l k).map (·.text) = curOf l ∧ (∀ x ∈ mountL (fun _ => 64) l k, x.worn = false ∧ x.dirty = false)
  | [], k, _, _ => ⟨rfl, rfl, fun x h => by cases h⟩
  | x :: r, k, h1, h2 => by
    have hx := h1 x (List.mem_cons_self ..)
    have hw := h2 x (List.mem_cons_self ..)
    have r1 : ∀ y ∈ r, secOK y := fun y hy => h1 y (List.mem_cons_of_mem _ hy)
    have r2 : ∀ y ∈ r, y.worn = false := fun y hy => h2 y (List.mem_cons_of_mem _ hy)
    rw [mountL]
    by_cases hd : x.dirty = true
    · obtain ⟨a, b, c⟩ := mount64 r (k + 1) r1 r2
      have e : settleX x 64 = ⟨x.next, [], false, false⟩ := by
        unfold settleX
        rw [hw, torn_all (hx.2 hd) hx.1]
        rfl
      rw [if_pos hd, e]
      refine ⟨?_, ?_, ?_⟩
      · show x.next :: curOf _ = (if x.dirty then x.next else x.text) :: curOf r
        rw [a, hd]; rfl
      · show x.next :: List.map _ _ = (if x.dirty then x.next else x.text) :: curOf r
        rw [b, hd]; rfl
      · intro y hy
        rcases List.mem_cons.1 hy with rfl | hy
        · exact ⟨rfl, rfl⟩
        · exact c y hy
    · obtain ⟨a, b, c⟩ := mount64 r k r1 r2
      have hd' : x.dirty = false := by simpa using hd
      rw [if_neg hd]
      refine ⟨?_, ?_, ?_⟩
      · show (if x.dirty then x.next else x.text) :: curOf _ = (if x.dirty then x.next else x.text) :: curOf r
        rw [a]
      · show x.text :: List.map _ _ = (if x.dirty then x.next else x.text) :: curOf r
        rw [b, hd']; rfl
      · intro y hy
        rcases List.mem_cons.1 hy with rfl | hy
        · exact ⟨hw, hd'⟩
        · exact c y hy
theorem mount_clean (pf : Nat → Int) : ∀ (l : List Sec) (k : Nat), (∀ x ∈ l, x.dirty = false) → mountL pf l k = l
  | [], _, _ => rfl
  | x :: r, k, h => by
    rw [mountL, if_neg (by rw [h x (List.mem_cons_self ..)]; simp), mount_clean pf r k (fun y hy => h y (List.mem_cons_of_mem _ hy))]
theorem Calm.stepE {T : RSt} (h : Calm T) : rStepE T = 0 ∧ rStepS T = T := by
  have := h.left
  exact ⟨by rw [rStepE, if_neg (by omega)], by rw [rStepS, if_neg (by omega), if_neg (by omega)]⟩
theorem Calm.flush {S : St} {T : RSt} (h : Calm T) (hs : Sim S T) : Calm (rFlushS T) ∧ curOf (rFlushS T).s = curOf T.s ∧ rFlushE T = 0 ∧ (rFlushS T).s.map (·.text) = curOf T.s ∧ ∀ x ∈ (rFlushS T).s, x.dirty = false := by
  obtain ⟨e1, e2⟩ := h.stepE
  have e : rFlushS T = { T with s := mountL (fun _ => 64) T.s 0 } := by
    unfold rFlushS
    have := h.off
    rw [if_neg (by simp [this]), e1, if_neg (by simp), e2]
  obtain ⟨a, b, c⟩ := mount64 T.s 0 (fun x hx => hs.sec64 x hx) h.worn
  rw [e]
  exact ⟨⟨h.off, h.left, fun x hx => (c x hx).1⟩, a, by rw [rFlushE, h.off, if_neg (by simp), e1], b, fun x hx => (c x hx).2⟩
/-- flushed and mounted -/
theorem Calm.done {S : St} {T : RSt} (h : Calm T) (hs : Sim S T) (ps : List Int) : (flushS S).bl = curOf T.s ∧ flushE S = 0 ∧ (mountS (flushS S) ps).bl = curOf T.s := by
  obtain ⟨_, _, e3, e4, e5⟩ := h.flush hs
  have hf := hs.flush
  refine ⟨by rw [hf.texts, e4], by rw [hs.flushE, e3], ?_⟩
  rw [(hf.mount ps).texts]
  show (mountL (pickF ps) (rFlushS T).s 0).map _ = _
  rw [mount_clean _ _ _ e5, e4]
theorem Calm.writeE {T : RSt} (h : Calm T) (i : Int) (b : Bs) : rWriteE T i b = if rIs T i ∧ b.length = 64 then 0 else 1 := by
  unfold rWriteE
  rw [h.off, if_neg (by simp), h.stepE.1]
  by_cases hi : rIs T i = true <;> by_cases hb : b.length = 64 <;> simp [hi, hb]
theorem set_cur (l : List Sec) (i : Nat) (b : Bs) : curOf (l.set i { l.getD i zs with next := b, dirty := true }) = (curOf l).set i b := by
  unfold curOf
  rw [List.map_set]; rfl
theorem Calm.write {T : RSt} (h : Calm T) (i : Int) (b : Bs) : Calm (rWriteS T i b) ∧ curOf (rWriteS T i b).s = if rWriteE T i b = 0 then (curOf T.s).set i.toNat b else curOf T.s := by
  rw [h.writeE]
  obtain ⟨e1, e2⟩ := h.stepE
  unfold rWriteS
  by_cases hc : rIs T i = true ∧ b.length = 64
  · rw [if_neg (by simp [h.off, hc.1, hc.2]), if_neg (by rw [e1]; simp), e2, if_pos hc]
    have hi := is_range hc.1
    rw [if_pos rfl]
    refine ⟨⟨h.off, h.left, fun x hx => ?_⟩, set_cur _ _ b⟩
    rcases List.mem_or_eq_of_mem_set hx with hx | rfl
    · exact h.worn x hx
    · show (T.s.getD i.toNat zs).worn = false
      rw [List.getD_eq_getElem?_getD, List.getElem?_eq_getElem (by omega), Option.getD_some]
      exact h.worn _ (List.getElem_mem _)
  · rw [if_pos, if_neg hc, if_neg (by simp)]
    · exact ⟨h, rfl⟩
    · right
      by_cases hi : rIs T i = true
      · have : b.length ≠ 64 := fun e => hc ⟨hi, e⟩
        simp [this]
      · simp [hi]
/-- the operations that the law takes -/
def tame (k : Int) : Prop := k ≠ 4 ∧ k ≠ 5 ∧ k ≠ 6 ∧ k ≠ 7
theorem Calm.do_ {S : St} {T : RSt} (h : Calm T) (hs : Sim S T) (o : OpV) (ht : tame o.k) :
    Calm (rDoS T o) ∧ curOf (rDoS T o).s = if o.k = 1 ∧ rWriteE T o.i (padB o.t.data.toList) = 0 then (curOf T.s).set o.i.toNat (padB o.t.data.toList) else curOf T.s := by
  obtain ⟨t4, t5, t6, t7⟩ := ht
  unfold rDoS
  by_cases h1 : o.k = 1
  · rw [if_pos h1]
    obtain ⟨a, b⟩ := h.write o.i (padB o.t.data.toList)
    refine ⟨a, b.trans ?_⟩
    split
    · rename_i e; rw [if_pos ⟨h1, e⟩]
    · rename_i e; rw [if_neg (fun e' => e e'.2)]
  · rw [if_neg h1, if_neg t4, if_neg t5, if_neg t6, if_neg t7, if_neg (c := o.k = 1 ∧ _) (fun e' => h1 e'.1)]
    split
    · obtain ⟨a, b, _⟩ := h.flush hs
      exact ⟨a, b⟩
    · exact ⟨h, rfl⟩
theorem calm_new (n cap : Nat) (ext : List Value) : Calm (newR n cap ext) ∧ curOf (newR n cap ext).s = List.replicate n zeroBs := by
  refine ⟨⟨rfl, rfl, fun x hx => by rw [List.eq_of_mem_replicate hx]; rfl⟩, ?_⟩
  show (List.replicate n zSec).map _ = _
  rw [List.map_replicate]; rfl
end Go.Proofs.Ytibhnjnfifpepaa
