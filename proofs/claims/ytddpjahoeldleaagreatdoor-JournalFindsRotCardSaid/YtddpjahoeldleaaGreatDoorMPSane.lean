/- Plain law: the disk as a list of sectors, the records on it, the examples. -/
import Derived.Test.YtddpjahoeldleaaGreatDoorMJWrite
import Derived.Test.YtddpjahoeldleaaGreatDoorMSame
import Derived.Test.YtddpjahoeldleaaGreatDoorMJAppend
import Derived.Test.YtddpjahoeldleaaGreatDoorMJVal

namespace Go.Proofs.YtddpjahoeldleaaGreatDoor.Dk
open Go.RowKit Go.Maps

structure Sec where
  text : Bs
  next : Bs
  dirty : Bool
  worn : Bool
structure RSt where
  s : List Sec
  off : Bool
  left : Int
  cap : Nat
  ext : List Value
def zSec : Sec := ⟨zeroBs, [], false, false⟩
def newR (n : Nat) (cap : Nat) (ext : List Value) : RSt := { s := List.replicate n zSec, off := false, left := -1, cap := cap, ext := ext }
def pickF (ps : List Int) (k : Nat) : Int := if k < ps.length then ps.getD k 0 else 64
def mountS (S : St) (ps : List Int) : St := { settleK S (keysOf S.pend) (pickF ps) (keysOf S.pend).length with off := false, left := -1 }

/-- a map whose keys are the numbers of some of n sectors -/
def IntMap (n : Nat) (D : Dt) : Prop := ∃ es, D = .map es ∧ es.Pairwise (fun p q => p.1 ≠ q.1) ∧ ∀ p ∈ es, ∃ z : Nat, p.1 = kI z ∧ z < n
theorem kI_key (i : Int) : WideAt.IsKeyLit (kI i) := trivial
theorem kI_ne {i j : Nat} (h : i ≠ j) : kI (i : Int) ≠ kI (j : Int) := by
  intro e
  unfold kI at e
  injection e with _ e
  omega
theorem IntMap.empty (n : Nat) : IntMap n (.map []) := ⟨[], rfl, List.Pairwise.nil, fun p h => by cases h⟩
theorem IntMap.isMap {n : Nat} {D : Dt} (h : IntMap n D) : IsMap D := let ⟨es, e, _⟩ := h; ⟨es, e⟩
theorem IntMap.put {n : Nat} {D : Dt} (h : IntMap n D) {i : Nat} (hi : i < n) (d : Dt) : IntMap n (D.put (kI i) d) := by
  obtain ⟨es, rfl, hp, hk⟩ := h
  obtain ⟨es', e, hp'⟩ := (show Tidy (.map es : Dt) from ⟨es, rfl, hp⟩).put (kI_key i) d
  refine ⟨es', e, hp', fun p hq => ?_⟩
  have e' : es' = DataW.insert (kI i, d) (es.filter fun p => !p.1.sameKey (kI i)) := by
    have : DataW.map es' = DataW.map (DataW.insert (kI i, d) (es.filter fun p => !p.1.sameKey (kI i))) := e.symm
    injection this
  rw [e'] at hq
  rcases mem_insert _ _ _ hq with rfl | hq
  · exact ⟨i, rfl, hi⟩
  · exact hk p (List.mem_filter.1 hq).1
theorem IntMap.del {n : Nat} {D : Dt} (h : IntMap n D) (k : Lit) : IntMap n (D.del k) := by
  obtain ⟨es, rfl, hp, hk⟩ := h
  exact ⟨_, rfl, hp.filter _, fun p hq => hk p (List.mem_filter.1 hq).1⟩
theorem IntMap.has_lt {n : Nat} {D : Dt} (h : IntMap n D) {z : Int} (hz : has D (kI z) = true) : ∃ i : Nat, z = i ∧ i < n := by
  obtain ⟨es, rfl, hp, hk⟩ := h
  rw [has_eq, List.any_eq_true] at hz
  obtain ⟨p, hp', hs⟩ := hz
  obtain ⟨i, e, hi⟩ := hk p hp'
  rw [e] at hs
  refine ⟨i, ?_, hi⟩
  simp [kI, Lit.sameKey] at hs
  omega

/-- the places of those of a list that f takes, counted from j on -/
def placesFrom {α : Type} (f : α → Bool) : List α → Nat → List Int
  | [], _ => []
  | x :: r, j => if f x then (j : Int) :: placesFrom f r (j + 1) else placesFrom f r (j + 1)
theorem mem_places {α : Type} (f : α → Bool) : ∀ (l : List α) (j : Nat) (z : Int), z ∈ placesFrom f l j ↔ ∃ i x, l[i]? = some x ∧ f x = true ∧ z = ((j + i : Nat) : Int)
  | [], j, z => by simp [placesFrom]
  | x :: r, j, z => by
    have ih := mem_places f r (j + 1) z
    rw [placesFrom]
    constructor
    · intro h
      split at h
      · rename_i hx
        rcases List.mem_cons.1 h with rfl | h
        · exact ⟨0, x, rfl, hx, rfl⟩
        · obtain ⟨i, y, h1, h2, h3⟩ := ih.1 h
          exact ⟨i + 1, y, h1, h2, by rw [h3]; omega⟩
      · obtain ⟨i, y, h1, h2, h3⟩ := ih.1 h
        exact ⟨i + 1, y, h1, h2, by rw [h3]; omega⟩
    · rintro ⟨i, y, h1, h2, h3⟩
      cases i with
      | zero =>
        obtain rfl : x = y := by simpa using h1
        rw [if_pos h2, h3]
        exact List.mem_cons_self ..
      | succ i =>
        have : z ∈ placesFrom f r (j + 1) := ih.2 ⟨i, y, by simpa using h1, h2, by rw [h3]; omega⟩
        split
        · exact List.mem_cons_of_mem _ this
        · exact this
theorem places_sorted {α : Type} (f : α → Bool) : ∀ (l : List α) (j : Nat), (placesFrom f l j).Pairwise (fun a b => a < b)
  | [], _ => List.Pairwise.nil
  | x :: r, j => by
    have ih := places_sorted f r (j + 1)
    rw [placesFrom]
    split
    · refine List.pairwise_cons.2 ⟨fun z hz => ?_, ih⟩
      obtain ⟨i, y, _, _, rfl⟩ := (mem_places f r (j + 1) z).1 hz
      omega
    · exact ih

/-- sector i of a disk -/
def secOf (S : St) (i : Nat) : Sec := ⟨S.bl.getD i [], if has S.pend (kI i) then pendB S.pend i else [], has S.pend (kI i), has S.worn (kI i)⟩
def absS (S : St) : List Sec := (List.range S.bl.length).map (secOf S)
theorem absS_length (S : St) : (absS S).length = S.bl.length := by simp [absS]
theorem absS_at {S : St} {i : Nat} (h : i < S.bl.length) : (absS S)[i]? = some (secOf S i) := by simp [absS, h]
theorem absS_get {S : St} {i : Nat} (h : i < (absS S).length) : (absS S)[i] = secOf S i := by simp [absS]
theorem abs_set {S S' : St} (hl : S'.bl.length = S.bl.length) {i : Nat} (h : ∀ j, j ≠ i → secOf S' j = secOf S j) : absS S' = (absS S).set i (secOf S' i) := by
  apply List.ext_getElem
  · simp [absS, hl]
  · intro j h1 h2
    rw [List.getElem_set, absS_get, absS_get]
    split
    · rename_i e; rw [e]
    · rename_i e; exact h j (fun e' => e e'.symm)

/-- the places of a map's keys are those of the sectors that have one -/
theorem keys_places {n : Nat} {D : Dt} (hD : IntMap n D) {l : List Sec} {f : Sec → Bool} (hl : l.length = n) (hf : ∀ (i : Nat) (x : Sec), l[i]? = some x → f x = has D (kI i)) : keysOf D = placesFrom f l 0 := by
  obtain ⟨es, rfl, hp, hk⟩ := id hD
  have hm : ∀ x : Int, x ∈ placesFrom f l 0 ↔ has (.map es : Dt) (.int .i64 x) = true := by
    intro z
    rw [mem_places]
    constructor
    · rintro ⟨i, x, h1, h2, rfl⟩
      have := hf i x h1
      rw [h2] at this
      rw [Nat.zero_add]
      exact this.symm
    · intro h
      obtain ⟨i, rfl, hi⟩ := hD.has_lt h
      refine ⟨i, l[i]'(by omega), List.getElem?_eq_getElem (by omega), ?_, by omega⟩
      rw [hf i _ (List.getElem?_eq_getElem (by omega))]
      exact h
  have hs := places_sorted f l 0
  have hnd : (placesFrom f l 0).Nodup := hs.imp fun {a b} h => by omega
  have hperm := perm_intKeys (H := Unit) hp (fun p hp' => by
    obtain ⟨z, e, _⟩ := hk p hp'
    exact ⟨z, e⟩) hnd hm
  show (intKeys (.map es)).mergeSort leI = _
  rw [← mergeSort_of_perm_i hperm]
  exact List.mergeSort_of_pairwise (hs.imp fun {a b} h => by simp only [leI, decide_eq_true_eq]; omega)

/-- the disk S is as specified by T -/
structure Sim (S : St) (T : RSt) : Prop where
  s : T.s = absS S
  off : T.off = S.off
  left : T.left = max (-1) S.left
  p : IntMap S.bl.length S.pend
  w : IntMap S.bl.length S.worn
  wt : ∀ i : Nat, wornB S i = has S.worn (kI i)
  t64 : ∀ b ∈ S.bl, b.length = 64
  n64 : ∀ i : Nat, has S.pend (kI i) = true → (pendB S.pend i).length = 64
  n1 : 1 ≤ S.bl.length
theorem Sim.len {S : St} {T : RSt} (h : Sim S T) : T.s.length = S.bl.length := by rw [h.s, absS_length]
theorem Sim.pend {S : St} {T : RSt} (h : Sim S T) : keysOf S.pend = placesFrom (·.dirty) T.s 0 :=
  keys_places h.p h.len fun i x hx => by
    have hi := (List.getElem?_eq_some_iff.1 hx).1
    rw [h.len] at hi
    rw [h.s, absS_at hi] at hx
    injection hx with hx
    rw [← hx]; rfl
theorem Sim.worn {S : St} {T : RSt} (h : Sim S T) : keysOf S.worn = placesFrom (·.worn) T.s 0 :=
  keys_places h.w h.len fun i x hx => by
    have hi := (List.getElem?_eq_some_iff.1 hx).1
    rw [h.len] at hi
    rw [h.s, absS_at hi] at hx
    injection hx with hx
    rw [← hx]; rfl
theorem Sim.texts {S : St} {T : RSt} (h : Sim S T) : S.bl = T.s.map (·.text) := by
  rw [h.s, absS, List.map_map]
  apply List.ext_getElem
  · simp
  · intro i h1 h2
    simp [secOf, h1]
theorem Sim.pendOK {S : St} {T : RSt} (h : Sim S T) : PendOK S := by
  intro z hz
  rw [h.pend, mem_places] at hz
  obtain ⟨i, x, h1, _, rfl⟩ := hz
  have := (List.getElem?_eq_some_iff.1 h1).1
  rw [h.len] at this
  omega
theorem Sim.sec64 {S : St} {T : RSt} (h : Sim S T) : ∀ x ∈ T.s, x.text.length = 64 ∧ (x.dirty = true → x.next.length = 64) := by
  intro x hx
  rw [h.s, absS] at hx
  obtain ⟨i, hi, rfl⟩ := List.mem_map.1 hx
  have hi : i < S.bl.length := by simpa using hi
  refine ⟨?_, fun hd => ?_⟩
  · show (S.bl.getD i []).length = 64
    rw [List.getD_eq_getElem?_getD, List.getElem?_eq_getElem hi, Option.getD_some]
    exact h.t64 _ (List.getElem_mem hi)
  · have hd : has S.pend (kI i) = true := hd
    show (if has S.pend (kI i) then pendB S.pend i else []).length = 64
    rw [hd, if_pos rfl]
    exact h.n64 i hd
theorem Sim.at_ {S : St} {T : RSt} (h : Sim S T) {i : Nat} (hi : i < S.bl.length) : T.s[i]? = some (secOf S i) := by rw [h.s, absS_at hi]

/-! the reference's operations -/
def rIs (T : RSt) (i : Int) : Bool := decide (0 ≤ i ∧ i < T.s.length)
def zs : Sec := ⟨[], [], false, false⟩
def rStepE (T : RSt) : Int := if T.left = 0 then 24 else 0
def rStepS (T : RSt) : RSt := if T.left = 0 then { T with off := true } else if 0 < T.left then { T with left := T.left - 1 } else T
def rReadE (T : RSt) (i : Int) : Int := if T.off then 24 else if rIs T i then 0 else 1
def rReadB (T : RSt) (i : Int) : Bs := if rReadE T i ≠ 0 then [] else if (T.s.getD i.toNat zs).dirty then (T.s.getD i.toNat zs).next else (T.s.getD i.toNat zs).text
def rWriteE (T : RSt) (i : Int) (b : Bs) : Int := if T.off then 24 else if !rIs T i || decide (b.length ≠ 64) then 1 else rStepE T
def rWriteS (T : RSt) (i : Int) (b : Bs) : RSt := if T.off ∨ (!rIs T i || decide (b.length ≠ 64)) = true then T else if rStepE T ≠ 0 then rStepS T else { rStepS T with s := T.s.set i.toNat { T.s.getD i.toNat zs with next := b, dirty := true } }
def settleX (x : Sec) (p : Int) : Sec := { text := if x.worn then x.text else tornB x.next x.text (pq p), next := [], dirty := false, worn := x.worn }
def mountL (pf : Nat → Int) : List Sec → Nat → List Sec
  | [], _ => []
  | x :: r, k => if x.dirty then settleX x (pf k) :: mountL pf r (k + 1) else x :: mountL pf r k
def rFlushE (T : RSt) : Int := if T.off then 24 else rStepE T
def rFlushS (T : RSt) : RSt := if T.off then T else if rStepE T ≠ 0 then rStepS T else { rStepS T with s := mountL (fun _ => 64) T.s 0 }
def rMountS (T : RSt) (ps : List Int) : RSt := { T with s := mountL (pickF ps) T.s 0, off := false, left := -1 }
def rRotOK (T : RSt) (i bit : Int) : Bool := rIs T i && decide (0 ≤ bit ∧ bit < 512)
def rRotE (T : RSt) (i bit : Int) : Int := if rRotOK T i bit then 0 else 1
def rRotS (T : RSt) (i bit : Int) : RSt := if rRotOK T i bit then { T with s := T.s.set i.toNat { T.s.getD i.toNat zs with text := flipB (T.s.getD i.toNat zs).text bit.toNat } } else T
def rWearE (T : RSt) (i : Int) : Int := if rIs T i then 0 else 1
def rWearS (T : RSt) (i : Int) : RSt := if rIs T i then { T with s := T.s.set i.toNat { T.s.getD i.toNat zs with worn := true } } else T
def rTripS (T : RSt) (n : Int) : RSt := { T with left := max (-1) n }

/-! one settled -/
theorem getD_lt {b : Bs} {l : List Bs} {i : Nat} (h : i < l.length) : (l.set i b).getD i [] = b := by
  rw [List.getD_eq_getElem?_getD, List.getElem?_set_self h]; rfl
theorem getD_ne {b : Bs} {l : List Bs} {i j : Nat} (h : j ≠ i) : (l.set i b).getD j [] = l.getD j [] := by
  rw [List.getD_eq_getElem?_getD, List.getD_eq_getElem?_getD, List.getElem?_set_ne (Ne.symm h)]
theorem pendB_del_ne (D : Dt) {i j : Nat} (h : j ≠ i) : pendB (D.del (kI i)) j = pendB D j := by
  unfold pendB
  rw [atKey_del_other (kI_ne h)]
theorem settle_parts (S : St) (i : Nat) (p : Int) : (settleS S i p).pend = S.pend.del (kI i) ∧ (settleS S i p).worn = S.worn ∧ (settleS S i p).off = S.off ∧ (settleS S i p).left = S.left ∧
    (settleS S i p).bl = if wornB S i then S.bl else S.bl.set i (tornB (pendB S.pend i) (S.bl.getD i []) (pq p)) := by
  unfold settleS
  split
  · exact ⟨rfl, rfl, rfl, rfl, rfl⟩
  · exact ⟨rfl, rfl, rfl, rfl, rfl⟩
theorem Sim.settle {S : St} {T : RSt} (h : Sim S T) {i : Nat} (hi : i < S.bl.length) (hd : has S.pend (kI i) = true) (p : Int) : Sim (settleS S i p) { T with s := T.s.set i (settleX (secOf S i) p) } := by
  obtain ⟨e1, e2, e3, e4, e5⟩ := settle_parts S i p
  have hl : (settleS S i p).bl.length = S.bl.length := settleS_len S i p
  have hb64 : (S.bl.getD i []).length = 64 := by
    rw [List.getD_eq_getElem?_getD, List.getElem?_eq_getElem hi, Option.getD_some]; exact h.t64 _ (List.getElem_mem hi)
  refine ⟨?_, h.off.trans e3.symm, h.left.trans (by rw [e4]), ?_, ?_, ?_, ?_, ?_, by rw [hl]; exact h.n1⟩
  · show T.s.set i _ = _
    rw [abs_set (S := S) hl (i := i) ?_, h.s]
    · congr 1
      unfold secOf settleX
      simp only [e1, e2, e5, has_del_same, hd, h.wt]
      cases has S.worn (kI ↑i)
      · simp only [Bool.false_eq_true, if_false, if_true]
        rw [getD_lt hi]
      · simp only [if_true, Bool.false_eq_true, if_false]
    · intro j hj
      unfold secOf
      simp only [e1, e2, e5, has_del_other (kI_ne hj), pendB_del_ne _ hj]
      congr 1
      split
      · rfl
      · exact getD_ne hj
  · rw [hl, e1]; exact h.p.del _
  · rw [hl, e2]; exact h.w
  · intro j
    have : wornB (settleS S i p) j = wornB S j := by unfold wornB; rw [e2]
    rw [this, e2]; exact h.wt j
  · intro b hb
    rw [e5] at hb
    split at hb
    · exact h.t64 b hb
    · rcases List.mem_or_eq_of_mem_set hb with hb | rfl
      · exact h.t64 b hb
      · exact torn_length (h.n64 i hd) hb64 (pq_le p)
  · intro j hj
    rw [e1] at hj ⊢
    by_cases e : j = i
    · rw [e, has_del_same] at hj; cases hj
    · rw [pendB_del_ne _ e]
      rw [has_del_other (kI_ne e)] at hj
      exact h.n64 j hj

def settleL (pf : Nat → Int) : St → List Int → Nat → St
  | S, [], _ => S
  | S, z :: r, k => settleL pf (settleS S z.toNat (pf k)) r (k + 1)
theorem settleL_snoc (pf : Nat → Int) (z : Int) : ∀ (l : List Int) (S : St) (k : Nat), settleL pf S (l ++ [z]) k = settleS (settleL pf S l k) z.toNat (pf (k + l.length))
  | [], S, k => rfl
  | y :: r, S, k => by
    rw [List.cons_append, settleL, settleL_snoc pf z r, settleL, List.length_cons, show k + 1 + r.length = k + (r.length + 1) by omega]
theorem settleK_L (S : St) (ks : List Int) (pf : Nat → Int) : ∀ m, m ≤ ks.length → settleK S ks pf m = settleL pf S (ks.take m) 0
  | 0, _ => by rw [List.take_zero]; rfl
  | m + 1, h => by
    rw [settleK, settleK_L S ks pf m (by omega), List.take_succ_eq_append_getElem (by omega), settleL_snoc, List.length_take, Nat.zero_add, Nat.min_eq_left (by omega), List.getD_eq_getElem?_getD, List.getElem?_eq_getElem (by omega), Option.getD_some]
theorem Sim.settleL (pf : Nat → Int) : ∀ (suf pre : List Sec) (k : Nat) {S : St} {T : RSt}, Sim S T → T.s = pre ++ suf → Sim (settleL pf S (placesFrom (·.dirty) suf pre.length) k) { T with s := pre ++ mountL pf suf k }
  | [], pre, k, S, T, h, e => by
    rw [placesFrom, mountL, Dk.settleL, ← e]
    exact h
  | x :: r, pre, k, S, T, h, e => by
    have hlen := h.len
    have hi : pre.length < S.bl.length := by rw [← hlen, e, List.length_append, List.length_cons]; omega
    have hx : x = secOf S pre.length := by
      have := h.at_ hi
      rw [e, List.getElem?_append_right (Nat.le_refl _), Nat.sub_self] at this
      simpa using this
    rw [placesFrom, mountL]
    by_cases hd : x.dirty = true
    · rw [if_pos hd, if_pos hd, Dk.settleL]
      have hd' : has S.pend (kI pre.length) = true := by rw [hx] at hd; exact hd
      have h2 := h.settle hi hd' (pf k)
      have e2 : ({ T with s := T.s.set pre.length (settleX (secOf S pre.length) (pf k)) } : RSt).s = (pre ++ [settleX x (pf k)]) ++ r := by
        show T.s.set _ _ = _
        rw [e, ← hx, List.set_append_right _ _ (Nat.le_refl _), Nat.sub_self, List.set_cons_zero, List.append_assoc]; rfl
      have h3 := Sim.settleL pf r _ (k + 1) h2 e2
      rw [List.length_append, List.length_singleton, List.append_assoc] at h3
      exact h3
    · rw [if_neg hd, if_neg hd]
      have e2 : T.s = (pre ++ [x]) ++ r := by rw [e, List.append_assoc]; rfl
      have h3 := Sim.settleL pf r _ k h e2
      rw [List.length_append, List.length_singleton, List.append_assoc] at h3
      exact h3
theorem Sim.settleAll {S : St} {T : RSt} (h : Sim S T) (pf : Nat → Int) : Sim (settleK S (keysOf S.pend) pf (keysOf S.pend).length) { T with s := mountL pf T.s 0 } := by
  rw [settleK_L _ _ _ _ (Nat.le_refl _), List.take_length, h.pend]
  exact Sim.settleL pf T.s [] 0 h rfl

/-! the operations -/
theorem Sim.step {S : St} {T : RSt} (h : Sim S T) : Sim (stepS S) (rStepS T) ∧ stepE S = rStepE T ∧ (rStepS T).s = T.s := by
  have hl := h.left
  by_cases h0 : S.left = 0
  · have q1 : stepE S = 24 := by rw [stepE, if_pos h0]
    have q2 : stepS S = { S with off := true } := by rw [stepS, if_pos h0]
    have q3 : rStepE T = 24 := by rw [rStepE, if_pos (by omega)]
    have q4 : rStepS T = { T with off := true } := by rw [rStepS, if_pos (by omega)]
    rw [q1, q2, q3, q4]
    exact ⟨⟨h.s, rfl, h.left, h.p, h.w, h.wt, h.t64, h.n64, h.n1⟩, rfl, rfl⟩
  · have q1 : stepE S = 0 := by rw [stepE, if_neg h0]
    have q3 : rStepE T = 0 := by rw [rStepE, if_neg (by omega)]
    rw [q1, q3]
    by_cases hp : 0 < S.left
    · have q2 : stepS S = { S with left := S.left - 1 } := by rw [stepS, if_neg h0, if_pos hp]
      have q4 : rStepS T = { T with left := T.left - 1 } := by rw [rStepS, if_neg (by omega), if_pos (by omega)]
      rw [q2, q4]
      exact ⟨⟨h.s, h.off, (by show T.left - 1 = max (-1) (S.left - 1); omega), h.p, h.w, h.wt, h.t64, h.n64, h.n1⟩, rfl, rfl⟩
    · have q2 : stepS S = S := by rw [stepS, if_neg h0, if_neg hp]
      have q4 : rStepS T = T := by rw [rStepS, if_neg (by omega), if_neg (by omega)]
      rw [q2, q4]
      exact ⟨h, rfl, rfl⟩
theorem Sim.check {S : St} {T : RSt} (h : Sim S T) (i : Int) : checkE S i = rReadE T i := by
  unfold checkE rReadE rIs
  rw [h.off, h.len]
  split
  · rfl
  · by_cases e : 0 ≤ i ∧ i < (S.bl.length : Int)
    · rw [if_pos e, if_pos (by simpa using e)]
    · rw [if_neg e, if_neg (by simpa using e)]
theorem Sim.is {S : St} {T : RSt} (h : Sim S T) (i : Int) : isB S i = rIs T i := by unfold isB rIs; rw [h.len]
theorem Sim.getD {S : St} {T : RSt} (h : Sim S T) {i : Nat} (hi : i < S.bl.length) : T.s.getD i zs = secOf S i := by
  rw [List.getD_eq_getElem?_getD, h.at_ hi]; rfl
theorem is_range {T : RSt} {i : Int} (h : rIs T i = true) : 0 ≤ i ∧ i < T.s.length := by simpa [rIs] using h
theorem Sim.readE {S : St} {T : RSt} (h : Sim S T) (i : Int) : readB S i = rReadB T i := by
  unfold readB rReadB
  rw [h.check]
  by_cases e : rReadE T i ≠ 0
  · rw [if_pos e, if_pos e]
  · rw [if_neg e, if_neg e]
    have e0 : rReadE T i = 0 := by omega
    have hi : 0 ≤ i ∧ i < T.s.length := by
      unfold rReadE at e0
      split at e0
      · cases e0
      · split at e0
        · rename_i h; exact is_range h
        · cases e0
    rw [h.len] at hi
    obtain ⟨m, rfl⟩ : ∃ m : Nat, i = m := ⟨i.toNat, by omega⟩
    rw [Int.toNat_natCast, h.getD (by omega)]
    unfold secOf
    simp only
    cases has S.pend (kI ↑m) <;> simp
theorem Sim.writeE {S : St} {T : RSt} (h : Sim S T) (i : Int) (b : Bs) : writeE S i b = rWriteE T i b := by
  unfold Dk.writeE rWriteE
  rw [h.check, h.step.2.1]
  unfold rReadE
  cases T.off
  · cases rIs T i <;> simp
  · simp
theorem writeS_eq (S : St) (i : Int) (b : Bs) (h0 : checkE S i = 0) (hb : b.length = 64) (hE : stepE S = 0) : writeS S i b = { stepS S with pend := (stepS S).pend.put (kI i) (.lit (.string b)) } := by
  unfold writeS
  rw [if_neg (by simp [h0, hb]), if_neg (by simp [hE])]
theorem pendB_put_same {D : Dt} (hD : IsMap D) (i : Int) (b : Bs) : pendB (D.put (kI i) (.lit (.string b))) i = b := by
  unfold pendB
  rw [atKey_put_same hD (kI_key i)]
theorem pendB_put_ne (D : Dt) {i j : Nat} (h : j ≠ i) (d : Dt) : pendB (D.put (kI i) d) j = pendB D j := by
  unfold pendB
  rw [atKey_put_other (kI_ne h)]
theorem Sim.write {S : St} {T : RSt} (h : Sim S T) (i : Int) (b : Bs) : Sim (writeS S i b) (rWriteS T i b) := by
  obtain ⟨hs, hE, hsT⟩ := h.step
  have hc := h.check i
  by_cases h1 : checkE S i ≠ 0 ∨ b.length ≠ 64
  · have e1 : writeS S i b = S := by unfold writeS; rw [if_pos h1]
    have e2 : rWriteS T i b = T := by
      unfold rWriteS
      rw [if_pos]
      rcases h1 with h1 | h1
      · rw [hc] at h1
        unfold rReadE at h1
        cases ho : T.off
        · rw [ho] at h1
          cases hi : rIs T i
          · simp
          · rw [hi] at h1; simp at h1
        · simp
      · right; simp [h1]
    rw [e1, e2]; exact h
  · have hc0 : checkE S i = 0 := by omega
    have hb : b.length = 64 := by omega
    rw [hc] at hc0
    have hio : T.off = false ∧ rIs T i = true := by
      unfold rReadE at hc0
      cases ho : T.off <;> cases hi : rIs T i <;> simp [ho, hi] at hc0 ⊢
    have e2 : rWriteS T i b = if rStepE T ≠ 0 then rStepS T else { rStepS T with s := T.s.set i.toNat { T.s.getD i.toNat zs with next := b, dirty := true } } := by
      unfold rWriteS
      rw [if_neg (by simp [hio.1, hio.2, hb])]
    by_cases hE0 : stepE S = 0
    · rw [writeS_eq S i b (by rw [hc, hc0]) hb hE0, e2, if_neg (by rw [← hE, hE0]; simp)]
      have hi := is_range hio.2
      rw [h.len] at hi
      obtain ⟨m, rfl⟩ : ∃ m : Nat, i = m := ⟨i.toNat, by omega⟩
      have hm : m < S.bl.length := by omega
      rw [Int.toNat_natCast, h.getD hm]
      obtain ⟨l1, l2, l3⟩ := step_len S
      have hm2 : m < (stepS S).bl.length := by omega
      have hab : absS (stepS S) = absS S := by rw [← hs.s, hsT, h.s]
      refine ⟨?_, hs.off, hs.left, hs.p.put hm2 _, hs.w, hs.wt, hs.t64, ?_, hs.n1⟩
      · show T.s.set m _ = _
        refine Eq.trans ?_ (abs_set (S := stepS S) (S' := { stepS S with pend := (stepS S).pend.put (kI m) (.lit (.string b)) }) (i := m) rfl ?_).symm
        · rw [hab, h.s]
          congr 1
          have e : secOf S m = secOf (stepS S) m := by
            have q1 := absS_at (S := S) hm
            have q2 := absS_at (S := stepS S) hm2
            rw [hab, q1] at q2
            injection q2
          rw [e]
          unfold secOf
          simp only [has_put_same hs.p.isMap (kI_key _), pendB_put_same hs.p.isMap, if_true]
        · intro j hj
          unfold secOf
          simp only [has_put_other (kI_ne hj), pendB_put_ne _ hj]
      · intro j hj
        show (pendB ((stepS S).pend.put (kI m) _) j).length = 64
        by_cases e : j = m
        · rw [e, pendB_put_same hs.p.isMap]; exact hb
        · rw [pendB_put_ne _ e]
          have hj : has ((stepS S).pend.put (kI m) (.lit (.string b))) (kI j) = true := hj
          rw [has_put_other (kI_ne e)] at hj
          exact hs.n64 j hj
    · have e1 : writeS S i b = stepS S := by unfold writeS; rw [if_neg (by simp [hc, hc0, hb]), if_pos hE0]
      rw [e1, e2, if_pos (by rw [← hE]; exact hE0)]
      exact hs
theorem Sim.check0 {S : St} {T : RSt} (h : Sim S T) : checkE S 0 = if T.off then 24 else 0 := by
  rw [h.check]
  unfold rReadE
  have : rIs T 0 = true := by
    unfold rIs
    rw [h.len]
    have := h.n1
    simp
    omega
  rw [this]; rfl
theorem Sim.flushE {S : St} {T : RSt} (h : Sim S T) : flushE S = rFlushE T := by
  unfold Dk.flushE rFlushE
  rw [h.check0, h.step.2.1]
  cases T.off <;> simp
theorem Sim.flush {S : St} {T : RSt} (h : Sim S T) : Sim (flushS S) (rFlushS T) := by
  obtain ⟨hs, hE, hsT⟩ := h.step
  unfold flushS rFlushS
  rw [h.check0, hE]
  cases T.off
  · simp only [Bool.false_eq_true, if_false]
    rw [if_neg (by simp)]
    split
    · exact hs
    · have := hs.settleAll (fun _ => 64)
      rw [hsT] at this
      exact this
  · simp only [if_true]
    rw [if_pos (by simp)]
    exact h
theorem Sim.mount {S : St} {T : RSt} (h : Sim S T) (ps : List Int) : Sim (mountS S ps) (rMountS T ps) := by
  have := h.settleAll (pickF ps)
  exact ⟨this.s, rfl, rfl, this.p, this.w, this.wt, this.t64, this.n64, this.n1⟩
theorem Sim.rotE {S : St} {T : RSt} (h : Sim S T) (i bit : Int) : rotE S i bit = rRotE T i bit := by
  unfold Dk.rotE rRotE rotOK rRotOK
  rw [h.is]
theorem flip_length (b : Bs) (m : Nat) : (flipB b m).length = b.length := List.length_set
theorem Sim.rot {S : St} {T : RSt} (h : Sim S T) (i bit : Int) : Sim (rotS S i bit) (rRotS T i bit) := by
  unfold rotS rRotS rotOK rRotOK
  rw [h.is]
  cases hr : rIs T i && decide (0 ≤ bit ∧ bit < 512)
  · exact h
  · simp only [if_true]
    have hi : rIs T i = true := (Bool.and_eq_true_iff.1 hr).1
    have hi := is_range hi
    rw [h.len] at hi
    obtain ⟨m, rfl⟩ : ∃ m : Nat, i = m := ⟨i.toNat, by omega⟩
    have hm : m < S.bl.length := by omega
    rw [Int.toNat_natCast, h.getD hm]
    have hb64 : (S.bl.getD m []).length = 64 := by
      rw [List.getD_eq_getElem?_getD, List.getElem?_eq_getElem hm, Option.getD_some]; exact h.t64 _ (List.getElem_mem hm)
    have hl : ({ S with bl := S.bl.set m (flipB (S.bl.getD m []) bit.toNat) } : St).bl.length = S.bl.length := List.length_set
    refine ⟨?_, h.off, h.left, by rw [hl]; exact h.p, by rw [hl]; exact h.w, h.wt, ?_, h.n64, by rw [hl]; exact h.n1⟩
    · show T.s.set m _ = _
      refine Eq.trans ?_ (abs_set (S := S) (i := m) hl ?_).symm
      · rw [h.s]
        congr 1
        unfold secOf
        simp only [getD_lt hm]
      · intro j hj
        unfold secOf
        simp only [getD_ne hj]
    · intro b hb
      rcases List.mem_or_eq_of_mem_set hb with hb | rfl
      · exact h.t64 b hb
      · rw [flip_length]; exact hb64
theorem Sim.wearE {S : St} {T : RSt} (h : Sim S T) (i : Int) : wearE S i = rWearE T i := by
  unfold Dk.wearE rWearE
  rw [h.is]
theorem Sim.wear {S : St} {T : RSt} (h : Sim S T) (i : Int) : Sim (wearS S i) (rWearS T i) := by
  unfold wearS rWearS
  rw [h.is]
  cases hr : rIs T i
  · exact h
  · simp only [if_true]
    have hi := is_range hr
    rw [h.len] at hi
    obtain ⟨m, rfl⟩ : ∃ m : Nat, i = m := ⟨i.toNat, by omega⟩
    have hm : m < S.bl.length := by omega
    rw [Int.toNat_natCast, h.getD hm]
    refine ⟨?_, h.off, h.left, h.p, h.w.put hm _, ?_, h.t64, h.n64, h.n1⟩
    · show T.s.set m _ = _
      refine Eq.trans ?_ (abs_set (S := S) (S' := { S with worn := S.worn.put (kI m) (.lit (.bool true)) }) (i := m) rfl ?_).symm
      · rw [h.s]
        congr 1
        unfold secOf
        simp only [has_put_same h.w.isMap (kI_key _)]
      · intro j hj
        unfold secOf
        simp only [has_put_other (kI_ne hj)]
    · intro j
      by_cases e : j = m
      · subst e
        show (match (S.worn.put (kI j) (.lit (.bool true))).atKey (kI j) (.lit (.bool false)) with | .lit (.bool b) => b | _ => false) = has (S.worn.put (kI j) _) (kI j)
        rw [has_put_same h.w.isMap (kI_key _), atKey_put_same h.w.isMap (kI_key _)]
      · show (match (S.worn.put (kI m) (.lit (.bool true))).atKey (kI j) (.lit (.bool false)) with | .lit (.bool b) => b | _ => false) = has (S.worn.put (kI m) _) (kI j)
        rw [has_put_other (kI_ne e), atKey_put_other (kI_ne e)]
        exact h.wt j
theorem Sim.trip {S : St} {T : RSt} (h : Sim S T) (n : Int) : Sim { S with left := n } (rTripS T n) := ⟨h.s, h.off, rfl, h.p, h.w, h.wt, h.t64, h.n64, h.n1⟩
theorem sim_new (n cap : Nat) (ext : List Value) (hn : 1 ≤ n) : Sim (newS n) (newR n cap ext) := by
  have hl : (newS n).bl.length = n := List.length_replicate
  refine ⟨?_, rfl, rfl, IntMap.empty _, IntMap.empty _, fun i => rfl, fun b hb => ?_, fun i hi => (by cases hi), (by rw [hl]; exact hn)⟩
  · show List.replicate n zSec = _
    apply List.ext_getElem
    · rw [absS_length, hl, List.length_replicate]
    · intro i h1 h2
      rw [List.getElem_replicate, absS_get]
      rw [List.length_replicate] at h1
      show zSec = ⟨(List.replicate n zeroBs).getD i [], _, _, _⟩
      rw [List.getD_eq_getElem?_getD, List.getElem?_replicate, if_pos h1]
      rfl
  · rw [List.eq_of_mem_replicate hb]; rfl
end Go.Proofs.YtddpjahoeldleaaGreatDoor.Dk

/-! Plain law: the records among the parts of blocks of sectors. -/
namespace Go.Proofs.YtddpjahoeldleaaGreatDoor

/-- part i of record n with text t -/
def partOf (n : Nat) (t : Bs) (i : Nat) : PartV := ⟨n, i, t.length - 48 * i, (t.drop (48 * i)).take 48, true⟩
/-- the parts of a record, or what is left of them -/
structure Block (n : Nat) (t : Bs) (X : List PartV) : Prop where
  len : X.length = countN t.length
  small : t.length ≤ 8000
  ok : ∀ (i : Nat) (p : PartV), X[i]? = some p → p.ok = true → p = partOf n t i
theorem count_part {n k : Nat} (h : n ≤ 8000) (hk : k < countN n) : 48 * k ≤ n := by
  unfold countN at hk
  rw [if_neg (by omega)] at hk
  split at hk <;> omega
theorem count_cover {n : Nat} (h : n ≤ 8000) : n ≤ 48 * countN n := by
  unfold countN
  rw [if_neg (by omega)]
  split <;> omega
theorem chunks (t : Bs) : ∀ C, (List.range C).flatMap (fun k => (t.drop (48 * k)).take 48) = t.take (48 * C)
  | 0 => rfl
  | C + 1 => by
    rw [List.range_succ, List.flatMap_append, chunks t C]
    rw [show 48 * (C + 1) = 48 * C + 48 by omega, List.take_add]
    simp
theorem Block.get {n : Nat} {t : Bs} {X : List PartV} (h : Block n t X) (ha : ∀ p ∈ X, p.ok = true) {i : Nat} (hi : i < countN t.length) : X[i]? = some (partOf n t i) := by
  have hl : i < X.length := by rw [h.len]; exact hi
  rw [List.getElem?_eq_getElem hl, h.ok i _ (List.getElem?_eq_getElem hl) (ha _ (List.getElem_mem hl))]
theorem Block.eq {n : Nat} {t : Bs} {X : List PartV} (h : Block n t X) (ha : ∀ p ∈ X, p.ok = true) : X = (List.range (countN t.length)).map (partOf n t) := by
  apply List.ext_getElem?
  intro i
  by_cases hi : i < countN t.length
  · rw [h.get ha hi]; simp [hi]
  · rw [List.getElem?_eq_none (by rw [h.len]; omega), List.getElem?_eq_none (by simp; omega)]
/-- X yields the records R, whatever follows -/
def Recs (X : List PartV) (R : List (Nat × Bs)) : Prop := ∀ Y, recL (X ++ Y) = R ++ recL Y
theorem Recs.nil : Recs [] [] := fun _ => rfl
theorem Recs.app {X B : List PartV} {R Q : List (Nat × Bs)} (h : Recs X R) (k : Recs B Q) : Recs (X ++ B) (R ++ Q) := fun Y => by rw [List.append_assoc, h, k, List.append_assoc]
theorem recs_good {n : Nat} {t : Bs} {X : List PartV} (h : Block n t X) (ha : ∀ p ∈ X, p.ok = true) : Recs X [(n, t)] := by
  intro Y
  have hp := count_pos h.small
  have hX := h.eq ha
  have h0 : X = partOf n t 0 :: X.drop 1 := by
    have := h.get ha hp
    cases X with
    | nil => cases this
    | cons a r =>
      obtain rfl : a = partOf n t 0 := by simpa using this
      rfl
  have hget : ∀ k, k < countN t.length → (X ++ Y).getD k noPart = partOf n t k := fun k hk => by
    rw [List.getD_eq_getElem?_getD, List.getElem?_append_left (by rw [h.len]; exact hk), h.get ha hk]; rfl
  have hok : recOK (partOf n t 0 :: (X.drop 1 ++ Y)) = true := by
    have e : partOf n t 0 :: (X.drop 1 ++ Y) = X ++ Y := by rw [← List.cons_append, ← h0]
    unfold recOK
    simp only [Bool.and_eq_true, decide_eq_true_eq, List.all_eq_true, List.mem_range]
    have hl : (partOf n t 0).left = t.length := rfl
    rw [hl, e]
    refine ⟨rfl, rfl, hp, by rw [List.length_append, h.len]; omega, fun k hk => ?_⟩
    rw [hget k hk]
    exact ⟨rfl, rfl, rfl, by show t.length - 48 * k + 48 * k = t.length; have := count_part h.small hk; omega⟩
  have e : X ++ Y = partOf n t 0 :: (X.drop 1 ++ Y) := by rw [← List.cons_append, ← h0]
  rw [e, recL_yes hok, ← e]
  show (n, recT (X ++ Y) (countN t.length)) :: recL ((X ++ Y).drop (countN t.length)) = _
  rw [← h.len, List.drop_left, recT, List.take_left]
  have e2 : X.flatMap PartV.payload = t := by
    rw [hX, List.flatMap_map]
    have := chunks t (countN t.length)
    rw [List.take_of_length_le (count_cover h.small)] at this
    exact this
  rw [e2]
  rfl
theorem recs_bad {n : Nat} {t : Bs} {X : List PartV} (h : Block n t X) (hb : ∃ p ∈ X, p.ok = false) : Recs X [] := by
  intro Y
  have key : ∀ m k, k + m = X.length → recL (X.drop k ++ Y) = recL Y := by
    intro m
    induction m with
    | zero => intro k hk; rw [List.drop_of_length_le (by omega)]; rfl
    | succ m ih =>
      intro k hk
      have hlt : k < X.length := by omega
      have hd : X.drop k = X[k] :: X.drop (k + 1) := List.drop_eq_getElem_cons hlt
      rw [hd, List.cons_append, recL_no, ih (k + 1) (by omega)]
      intro hr
      unfold recOK at hr
      simp only [Bool.and_eq_true, decide_eq_true_eq, List.all_eq_true, List.mem_range] at hr
      obtain ⟨r1, r2, r3, r4, r5⟩ := hr
      have hp := h.ok k _ (List.getElem?_eq_getElem hlt) r1
      rw [hp] at r2
      have k0 : k = 0 := r2
      subst k0
      rw [hp] at r5
      obtain ⟨p, hpm, hpo⟩ := hb
      obtain ⟨i, hi, rfl⟩ := List.mem_iff_getElem.1 hpm
      have h5 := (r5 i (by show i < countN (t.length - 0); rw [Nat.sub_zero, ← h.len]; exact hi)).1
      rw [← hp, ← List.cons_append, ← hd, List.drop_zero, List.getD_eq_getElem?_getD, List.getElem?_append_left hi, List.getElem?_eq_getElem hi, Option.getD_some, hpo] at h5
      cases h5
  have := key X.length 0 (by omega)
  rwa [List.drop_zero] at this
theorem recs_none {X : List PartV} (h : ∀ p ∈ X, p.ok = false) : Recs X [] := by
  intro Y
  induction X with
  | nil => rfl
  | cons p r ih =>
    rw [List.cons_append, recL_no, ih (fun q hq => h q (List.mem_cons_of_mem _ hq))]
    intro hr
    unfold recOK at hr
    simp only [Bool.and_eq_true] at hr
    rw [h p (List.mem_cons_self ..)] at hr
    cases hr.1
theorem foldl_addR : ∀ (R acc : List (Nat × Bs)), ((acc ++ R).map Prod.fst).Nodup → R.foldl addR acc = acc ++ R
  | [], acc, _ => by simp
  | x :: R, acc, h => by
    have hx : x.1 ∉ acc.map Prod.fst := fun hm => by
      rw [List.map_append, List.map_cons, List.nodup_append] at h
      exact h.2.2 _ hm _ (List.mem_cons_self ..) rfl
    rw [List.foldl_cons, addR, if_neg hx, foldl_addR R _ (by rw [List.append_assoc]; exact h), List.append_assoc]
    rfl
theorem found_of {X : List PartV} {R : List (Nat × Bs)} (h : Recs X R) (hn : (R.map Prod.fst).Nodup) : foundL X = R := by
  have := h []
  rw [List.append_nil, recL_nil, List.append_nil] at this
  rw [foundL, this, foldl_addR R [] (by simpa using hn)]
  rfl

/-! blank sectors, a record's sectors -/
theorem unpack_zero : unpackB zero64 = noPart := unpack_bad (n := 0) (p := 0) (l := 0) (by decide) (by decide) (by decide) (.inr (.inl (by decide)))
theorem unpack_part {n : Nat} {t : Bs} {k : Nat} (h1 : 1 ≤ n) (h2 : n ≤ 4096) (h3 : t.length ≤ 8000) (hk : k < countN t.length) : unpackB (sectB n t k) = partOf n t k := unpack_sect h1 h2 h3 hk
theorem sect_nz {n : Nat} {t : Bs} {k : Nat} (h1 : 1 ≤ n) (h2 : n ≤ 4096) (h3 : t.length ≤ 8000) (hk : k < countN t.length) : sectB n t k ≠ zero64 := fun e => by
  have := unpack_part h1 h2 h3 hk
  rw [e, unpack_zero] at this
  injection this with _ _ _ _ h
  cases h
theorem pack_len (n : Nat) (t : Bs) : (packB n t).length = countN t.length := by rw [packB, List.length_map, List.length_range]
theorem pack_at {n : Nat} {t : Bs} {k : Nat} (hk : k < countN t.length) : (packB n t)[k]? = some (sectB n t k) := by simp [packB, hk]
theorem pack_64 {n : Nat} {t : Bs} : ∀ s ∈ packB n t, s.length = 64 := fun s hs => by
  rw [packB, List.mem_map] at hs
  obtain ⟨i, _, rfl⟩ := hs
  exact sect_len _ _ _
theorem pack_nz {n : Nat} {t : Bs} (h1 : 1 ≤ n) (h2 : n ≤ 4096) (h3 : t.length ≤ 8000) : ∀ s ∈ packB n t, s ≠ zero64 := fun s hs => by
  rw [packB, List.mem_map] at hs
  obtain ⟨i, hi, rfl⟩ := hs
  exact sect_nz h1 h2 h3 (List.mem_range.1 hi)
/-- a block of sectors each of which is the record's, or not good -/
theorem block_of {n : Nat} {t : Bs} {l : List Bs} (h1 : 1 ≤ n) (h2 : n ≤ 4096) (h3 : t.length ≤ 8000) (hl : l.length = countN t.length) (hs : ∀ (i : Nat) (s : Bs), l[i]? = some s → s = sectB n t i ∨ (unpackB s).ok = false) : Block n t (l.map unpackB) := by
  refine ⟨by rw [List.length_map, hl], h3, fun i p hp ho => ?_⟩
  rw [List.getElem?_map] at hp
  cases hx : l[i]? with
  | none => rw [hx] at hp; cases hp
  | some s =>
    rw [hx] at hp
    obtain rfl : unpackB s = p := by simpa using hp
    have hi : i < countN t.length := by rw [← hl]; exact (List.getElem?_eq_some_iff.1 hx).1
    rcases hs i s hx with rfl | h
    · exact unpack_part h1 h2 h3 hi
    · rw [h] at ho; cases ho
theorem block_pack {n : Nat} {t : Bs} (h1 : 1 ≤ n) (h2 : n ≤ 4096) (h3 : t.length ≤ 8000) : Recs ((packB n t).map unpackB) [(n, t)] := by
  refine recs_good (block_of h1 h2 h3 (pack_len n t) (fun i s hs => .inl ?_)) (fun p hp => ?_)
  · have hi : i < countN t.length := by rw [← pack_len n t]; exact (List.getElem?_eq_some_iff.1 hs).1
    rw [pack_at hi] at hs
    exact (Option.some.inj hs).symm
  · obtain ⟨s, hs, rfl⟩ := List.mem_map.1 hp
    rw [packB, List.mem_map] at hs
    obtain ⟨i, hi, rfl⟩ := hs
    rw [unpack_part h1 h2 h3 (List.mem_range.1 hi)]
    rfl
theorem recs_zero (m : Nat) : Recs ((List.replicate m zero64).map unpackB) [] := recs_none fun p hp => by
  obtain ⟨s, hs, rfl⟩ := List.mem_map.1 hp
  rw [List.eq_of_mem_replicate hs, unpack_zero]
  rfl

/-! the fold over the sectors -/
theorem foldO_pack {n : Nat} {t : Bs} (h1 : 1 ≤ n) (h2 : n ≤ 4096) (h3 : t.length ≤ 8000) (o : OV) : (packB n t).foldl oStep o = ⟨o.k + countN t.length, max o.next (n + 1), o.k + countN t.length, o.bad⟩ := by
  have key : ∀ C, C ≤ countN t.length → 1 ≤ C → ((List.range C).map (sectB n t)).foldl oStep o = ⟨o.k + C, max o.next (n + 1), o.k + C, o.bad⟩ := by
    intro C
    induction C with
    | zero => intro _ h; omega
    | succ C ih =>
      intro hC _
      have hp := unpack_part h1 h2 h3 (show C < countN t.length by omega)
      have hz : blankB (sectB n t C) = false := by unfold blankB; exact decide_eq_false (sect_nz h1 h2 h3 (by omega))
      rw [List.range_succ, List.map_append, List.foldl_append]
      rcases Nat.eq_zero_or_pos C with rfl | hc
      · simp only [List.range_zero, List.map_nil, List.foldl_nil, List.map_cons, List.foldl_cons, oStep, hp, hz]
        simp [partOf]
      · rw [ih (by omega) hc]
        simp only [List.map_cons, List.map_nil, List.foldl_cons, List.foldl_nil, oStep, hp, hz]
        simp [partOf]
        omega
  exact key _ (Nat.le_refl _) (count_pos h3)
theorem foldO_zero (m : Nat) (o : OV) (h1 : 1 ≤ o.next) : (List.replicate m zero64).foldl oStep o = ⟨o.k + m, o.next, o.fin, o.bad⟩ := by
  induction m generalizing o with
  | zero => rfl
  | succ m ih =>
    have hb : blankB zero64 = true := by decide
    rw [List.replicate_succ, List.foldl_cons, ih _ (by simp only [oStep]; omega)]
    simp only [oStep, unpack_zero, hb, noPart]
    simp
    omega
end Go.Proofs.YtddpjahoeldleaaGreatDoor

/-! Plain law: a journal's writing, on the disk as a list of sectors. -/
namespace Go.Proofs.YtddpjahoeldleaaGreatDoor
open Dk (RSt Sim rWriteE rWriteS rFlushE rFlushS rReadB rReadE rStepE rStepS settleX mountL zs tornB pq)

/-! write on the reference's disk -/
def wrT : RSt → Int → List Bs → Int × RSt
  | T, _, [] => (0, T)
  | T, a, s :: r => if rWriteE T a s ≠ 0 then (rWriteE T a s, rWriteS T a s) else wrT (rWriteS T a s) (a + 1) r
def rdT (T : RSt) : Int → List Bs → Bool → Int × Bool
  | _, [], b => (0, b)
  | a, s :: r, b => if rReadE T a ≠ 0 then (rReadE T a, false) else rdT T (a + 1) r (b && decide (s = rReadB T a))
structure WrT where
  err : Int
  same : Bool
  T : RSt
def writeT (T : RSt) (a : Int) (l : List Bs) : WrT :=
  if (wrT T a l).1 ≠ 0 then ⟨(wrT T a l).1, false, (wrT T a l).2⟩
  else if rFlushE (wrT T a l).2 ≠ 0 then ⟨rFlushE (wrT T a l).2, false, rFlushS (wrT T a l).2⟩
  else ⟨(rdT (rFlushS (wrT T a l).2) a l true).1, (rdT (rFlushS (wrT T a l).2) a l true).2, rFlushS (wrT T a l).2⟩
theorem sim_wr : ∀ (l : List Bs) (a : Int) {S : Dk.St} {T : RSt}, Sim S T → (wrRun S a l).1 = (wrT T a l).1 ∧ Sim (wrRun S a l).2 (wrT T a l).2
  | [], _, _, _, h => ⟨rfl, h⟩
  | s :: r, a, S, T, h => by
    rw [wrRun, wrT, h.writeE a s]
    split
    · exact ⟨rfl, h.write a s⟩
    · exact sim_wr r (a + 1) (h.write a s)
theorem sim_rd {S : Dk.St} {T : RSt} (h : Sim S T) : ∀ (l : List Bs) (a : Int) (b : Bool), rdRun S a l b = rdT T a l b
  | [], _, _ => rfl
  | s :: r, a, b => by rw [rdRun, rdT, h.check, h.readE, sim_rd h r]
theorem sim_writeR {S : Dk.St} {T : RSt} (h : Sim S T) (a : Int) (l : List Bs) : (writeR S a l).err = (writeT T a l).err ∧ (writeR S a l).same = (writeT T a l).same ∧ Sim (writeR S a l).S (writeT T a l).T := by
  obtain ⟨e1, h1⟩ := sim_wr l a h
  unfold writeR writeT
  rw [e1, h1.flushE]
  split
  · exact ⟨rfl, rfl, h1⟩
  · split
    · exact ⟨rfl, rfl, h1.flush⟩
    · rw [sim_rd h1.flush]
      exact ⟨rfl, rfl, h1.flush⟩
/-- what Append gives, on the reference's disk -/
structure ApT where
  n : Int
  err : Int
  J : JV
  T : RSt
def apT (J : JV) (T : RSt) (t : Bs) : WrT := writeT T J.fin (packB J.next.toNat t)
def appT (J : JV) (T : RSt) (t : Bs) : ApT :=
  if J.closed = true then ⟨0, 24, J, T⟩
  else if 8000 < t.length ∨ 4096 < J.next then ⟨0, 4, J, T⟩
  else if (T.s.length : Int) - J.fin < (countN t.length : Int) then ⟨0, 23, J, T⟩
  else if (apT J T t).err ≠ 0 then ⟨0, (apT J T t).err, { apJ1 J t with closed := true }, (apT J T t).T⟩
  else if (apT J T t).same = false then ⟨0, 25, apJ1 J t, (apT J T t).T⟩
  else ⟨J.next, 0, { apJ1 J t with nums := J.nums ++ [J.next], texts := J.texts ++ [t] }, (apT J T t).T⟩
theorem sim_app {S : Dk.St} {T : RSt} (h : Sim S T) (J : JV) (t : Bs) : (appR J S t).n = (appT J T t).n ∧ (appR J S t).err = (appT J T t).err ∧ (appR J S t).J = (appT J T t).J ∧ Sim (appR J S t).S (appT J T t).T := by
  obtain ⟨e1, e2, h1⟩ := sim_writeR h J.fin (packB J.next.toNat t)
  have e1 : (apR J S t).err = (apT J T t).err := e1
  have e2 : (apR J S t).same = (apT J T t).same := e2
  have h1 : Sim (apR J S t).S (apT J T t).T := h1
  unfold appR appT
  rw [h.len, e1, e2]
  split
  · exact ⟨rfl, rfl, rfl, h⟩
  · split
    · exact ⟨rfl, rfl, rfl, h⟩
    · split
      · exact ⟨rfl, rfl, rfl, h⟩
      · split
        · exact ⟨rfl, rfl, rfl, h1⟩
        · split
          · exact ⟨rfl, rfl, rfl, h1⟩
          · exact ⟨rfl, rfl, rfl, h1⟩
/-- the sectors as they are read -/
def secsT (T : RSt) : List Bs := (List.range T.s.length).map fun k : Nat => rReadB T (k : Int)

/-! a disk whose power is on -/
def dirt (x : Dk.Sec) (b : Bs) : Dk.Sec := { x with next := b, dirty := true }
def dirtL : List Dk.Sec → List Bs → List Dk.Sec
  | x :: r, b :: l => dirt x b :: dirtL r l
  | r, [] => r
  | [], _ => []
theorem dirtL_len : ∀ (m : List Dk.Sec) (l : List Bs), (dirtL m l).length = m.length
  | [], [] => rfl
  | [], _ :: _ => rfl
  | _ :: _, [] => rfl
  | _ :: r, _ :: l => by rw [dirtL, List.length_cons, List.length_cons, dirtL_len r l]
theorem is_mid {T : RSt} {pre post : List Dk.Sec} {x : Dk.Sec} (hs : T.s = pre ++ x :: post) : Dk.rIs T (pre.length : Int) = true := by
  unfold Dk.rIs
  rw [hs]
  simp
  omega
theorem step_on {T : RSt} (h : T.left ≠ 0) : rStepE T = 0 ∧ (rStepS T).s = T.s ∧ (rStepS T).off = T.off ∧ (rStepS T).left = if 0 < T.left then T.left - 1 else T.left := by
  unfold rStepE rStepS
  rw [if_neg h, if_neg h]
  split
  · exact ⟨rfl, rfl, rfl, rfl⟩
  · exact ⟨rfl, rfl, rfl, rfl⟩
theorem write_mid {T : RSt} {pre post : List Dk.Sec} {x : Dk.Sec} {b : Bs} (ho : T.off = false) (hs : T.s = pre ++ x :: post) (hb : b.length = 64) (hl : T.left ≠ 0) :
    rWriteE T (pre.length : Int) b = 0 ∧ (rWriteS T (pre.length : Int) b).s = pre ++ dirt x b :: post ∧ (rWriteS T (pre.length : Int) b).off = false ∧ (rWriteS T (pre.length : Int) b).left = if 0 < T.left then T.left - 1 else T.left := by
  obtain ⟨e1, e2, e3, e4⟩ := step_on hl
  have hi := is_mid hs
  have hg : T.s.getD pre.length zs = x := by rw [hs, List.getD_eq_getElem?_getD, List.getElem?_append_right (Nat.le_refl _), Nat.sub_self]; rfl
  unfold rWriteE rWriteS
  rw [ho, hi, e1]
  simp only [hb]
  rw [if_neg (by simp), if_neg (by simp), if_neg (by simp), if_neg (by simp)]
  refine ⟨rfl, ?_, by rw [← ho]; exact e3, e4⟩
  show T.s.set (pre.length : Int).toNat { T.s.getD (pre.length : Int).toNat zs with next := b, dirty := true } = _
  rw [Int.toNat_natCast, hg, hs, List.set_append_right _ _ (Nat.le_refl _), Nat.sub_self, List.set_cons_zero]
  rfl
theorem write_cut {T : RSt} {pre post : List Dk.Sec} {x : Dk.Sec} {b : Bs} (ho : T.off = false) (hs : T.s = pre ++ x :: post) (hb : b.length = 64) (hl : T.left = 0) :
    rWriteE T (pre.length : Int) b = 24 ∧ (rWriteS T (pre.length : Int) b).s = T.s ∧ (rWriteS T (pre.length : Int) b).off = true := by
  have hi := is_mid hs
  have e1 : rStepE T = 24 := by unfold rStepE; rw [if_pos hl]
  have e2 : rStepS T = { T with off := true } := by unfold rStepS; rw [if_pos hl]
  unfold rWriteE rWriteS
  rw [ho, hi, e1, e2]
  simp only [hb]
  rw [if_neg (by simp), if_neg (by simp), if_neg (by simp), if_pos (by simp)]
  exact ⟨rfl, rfl, rfl⟩
/-- all sectors written -/
theorem wr_ok : ∀ (l : List Bs) (pre mid post : List Dk.Sec) (T : RSt), T.off = false → T.s = pre ++ mid ++ post → mid.length = l.length → (∀ b ∈ l, b.length = 64) → (T.left < 0 ∨ (l.length : Int) ≤ T.left) →
    (wrT T (pre.length : Int) l).1 = 0 ∧ (wrT T (pre.length : Int) l).2.s = pre ++ dirtL mid l ++ post ∧ (wrT T (pre.length : Int) l).2.off = false ∧ (wrT T (pre.length : Int) l).2.left = if T.left < 0 then T.left else T.left - (l.length : Int)
  | [], pre, mid, post, T, ho, hs, hm, _, hl => by
    obtain rfl := List.eq_nil_of_length_eq_zero hm
    refine ⟨rfl, hs, ho, ?_⟩
    show T.left = _
    split <;> simp
  | b :: l, pre, mid, post, T, ho, hs, hm, h64, hl => by
    obtain ⟨x, r, rfl⟩ : ∃ x r, mid = x :: r := by cases mid with
      | nil => simp at hm
      | cons x r => exact ⟨x, r, rfl⟩
    rw [List.length_cons] at hl
    have hs' : T.s = pre ++ x :: (r ++ post) := by rw [hs, List.append_assoc]; rfl
    obtain ⟨e1, e2, e3, e4⟩ := write_mid ho hs' (h64 b (List.mem_cons_self ..)) (by omega)
    rw [wrT, if_neg (by rw [e1]; decide)]
    have hs2 : (rWriteS T (pre.length : Int) b).s = (pre ++ [dirt x b]) ++ r ++ post := by rw [e2]; simp
    have ih := wr_ok l (pre ++ [dirt x b]) r post _ e3 hs2 (by simpa using hm) (fun y hy => h64 y (List.mem_cons_of_mem _ hy)) (by rw [e4]; split <;> omega)
    rw [List.length_append, List.length_singleton, Int.natCast_add] at ih
    obtain ⟨i1, i2, i3, i4⟩ := ih
    refine ⟨i1, i2.trans (by rw [dirtL]; simp), i3, i4.trans ?_⟩
    rw [e4, List.length_cons]
    split
    · rename_i hp
      rw [if_neg (by omega), if_neg (by omega)]
      omega
    · rename_i hp
      rw [if_pos (by omega), if_pos (by omega)]
/-- the power fails -/
theorem wr_cut : ∀ (l : List Bs) (pre mid post : List Dk.Sec) (T : RSt) (m : Nat), T.off = false → T.s = pre ++ mid ++ post → mid.length = l.length → (∀ b ∈ l, b.length = 64) → T.left = (m : Int) → m < l.length →
    (wrT T (pre.length : Int) l).1 = 24 ∧ (wrT T (pre.length : Int) l).2.s = pre ++ dirtL mid (l.take m) ++ post ∧ (wrT T (pre.length : Int) l).2.off = true
  | [], _, _, _, _, m, _, _, _, _, _, h => by simp at h
  | b :: l, pre, mid, post, T, m, ho, hs, hm, h64, hl, hlt => by
    obtain ⟨x, r, rfl⟩ : ∃ x r, mid = x :: r := by cases mid with
      | nil => simp at hm
      | cons x r => exact ⟨x, r, rfl⟩
    have hs' : T.s = pre ++ x :: (r ++ post) := by rw [hs, List.append_assoc]; rfl
    cases m with
    | zero =>
      obtain ⟨e1, e2, e3⟩ := write_cut ho hs' (h64 b (List.mem_cons_self ..)) hl
      rw [wrT, if_pos (by rw [e1]; decide)]
      exact ⟨e1, by rw [e2, hs]; rfl, e3⟩
    | succ m =>
      obtain ⟨e1, e2, e3, e4⟩ := write_mid ho hs' (h64 b (List.mem_cons_self ..)) (by omega)
      rw [wrT, if_neg (by rw [e1]; decide)]
      have hs2 : (rWriteS T (pre.length : Int) b).s = (pre ++ [dirt x b]) ++ r ++ post := by rw [e2]; simp
      have ih := wr_cut l (pre ++ [dirt x b]) r post _ m e3 hs2 (by simpa using hm) (fun y hy => h64 y (List.mem_cons_of_mem _ hy)) (by rw [e4, if_pos (by omega)]; omega) (by simpa using hlt)
      rw [List.length_append, List.length_singleton, Int.natCast_add] at ih
      obtain ⟨i1, i2, i3⟩ := ih
      exact ⟨i1, i2.trans (by rw [List.take_succ_cons, dirtL]; simp), i3⟩
/-! settled -/
def settL : List Dk.Sec → List Bs → List Dk.Sec
  | x :: r, b :: l => { text := if x.worn then x.text else b, next := [], dirty := false, worn := x.worn } :: settL r l
  | r, [] => r
  | [], _ => []
def Clean (l : List Dk.Sec) : Prop := ∀ x ∈ l, x.dirty = false ∧ x.text.length = 64
theorem settL_len : ∀ (m : List Dk.Sec) (l : List Bs), (settL m l).length = m.length
  | [], [] => rfl
  | [], _ :: _ => rfl
  | _ :: _, [] => rfl
  | _ :: r, _ :: l => by rw [settL, List.length_cons, List.length_cons, settL_len r l]
theorem mountL_app (pf : Nat → Int) : ∀ (a b : List Dk.Sec) (k : Nat), (∀ x ∈ a, x.dirty = false) → mountL pf (a ++ b) k = a ++ mountL pf b k
  | [], _, _, _ => rfl
  | x :: a, b, k, h => by
    rw [List.cons_append, mountL, if_neg (by rw [h x (List.mem_cons_self ..)]; decide), mountL_app pf a b k (fun y hy => h y (List.mem_cons_of_mem _ hy))]
    rfl
theorem mountL_clean (pf : Nat → Int) (l : List Dk.Sec) (k : Nat) (h : ∀ x ∈ l, x.dirty = false) : mountL pf l k = l := by
  have := mountL_app pf l [] k h
  rw [List.append_nil] at this
  rw [this]
  exact List.append_nil l
theorem torn64 {a b : Bs} (ha : a.length = 64) (hb : b.length = 64) : tornB a b (pq 64) = a := by
  have e : pq 64 = 64 := rfl
  rw [tornB, e, List.take_of_length_le (by omega), List.drop_eq_nil_of_le (by omega), List.append_nil]
theorem mount_dirt : ∀ (l : List Bs) (mid post : List Dk.Sec) (k : Nat), mid.length = l.length → (∀ b ∈ l, b.length = 64) → Clean mid → (∀ x ∈ post, x.dirty = false) → mountL (fun _ => 64) (dirtL mid l ++ post) k = settL mid l ++ post
  | [], mid, post, k, hm, _, _, hp => by
    obtain rfl := List.eq_nil_of_length_eq_zero hm
    exact mountL_clean _ _ _ hp
  | b :: l, mid, post, k, hm, h64, hc, hp => by
    obtain ⟨x, r, rfl⟩ : ∃ x r, mid = x :: r := by cases mid with
      | nil => simp at hm
      | cons x r => exact ⟨x, r, rfl⟩
    have hx := hc x (List.mem_cons_self ..)
    rw [dirtL, settL, List.cons_append, mountL, if_pos (show (dirt x b).dirty = true from rfl), mount_dirt l r post (k + 1) (by simpa using hm) (fun y hy => h64 y (List.mem_cons_of_mem _ hy)) (fun y hy => hc y (List.mem_cons_of_mem _ hy)) hp]
    unfold settleX dirt
    simp only [torn64 (h64 b (List.mem_cons_self ..)) hx.2]
    rfl
theorem settL_clean : ∀ (m : List Dk.Sec) (l : List Bs), Clean m → (∀ b ∈ l, b.length = 64) → Clean (settL m l)
  | [], [], h, _ => h
  | [], _ :: _, h, _ => h
  | _ :: _, [], h, _ => h
  | x :: r, b :: l, h, h64 => fun y hy => by
    rw [settL] at hy
    rcases List.mem_cons.1 hy with rfl | hy
    · refine ⟨rfl, ?_⟩
      show (if x.worn then x.text else b).length = 64
      split
      · exact (h x (List.mem_cons_self ..)).2
      · exact h64 b (List.mem_cons_self ..)
    · exact settL_clean r l (fun z hz => h z (List.mem_cons_of_mem _ hz)) (fun z hz => h64 z (List.mem_cons_of_mem _ hz)) y hy
/-- written, flushed: whether the sectors have kept it -/
def keptL : List Dk.Sec → List Bs → Bool
  | x :: r, b :: l => decide (b = if x.worn then x.text else b) && keptL r l
  | _, _ => true
theorem read_mid {T : RSt} {pre post : List Dk.Sec} {x : Dk.Sec} (ho : T.off = false) (hs : T.s = pre ++ x :: post) (hd : x.dirty = false) : rReadE T (pre.length : Int) = 0 ∧ rReadB T (pre.length : Int) = x.text := by
  have hi := is_mid hs
  have hg : T.s.getD pre.length zs = x := by rw [hs, List.getD_eq_getElem?_getD, List.getElem?_append_right (Nat.le_refl _), Nat.sub_self]; rfl
  have e : rReadE T (pre.length : Int) = 0 := by unfold rReadE; rw [ho, hi]; rfl
  refine ⟨e, ?_⟩
  unfold rReadB
  rw [e, Int.toNat_natCast, hg, hd]
  rfl
theorem rd_ok : ∀ (l : List Bs) (pre mid post : List Dk.Sec) (T : RSt) (b : Bool), T.off = false → T.s = pre ++ settL mid l ++ post → mid.length = l.length → rdT T (pre.length : Int) l b = (0, b && keptL mid l)
  | [], _, mid, _, _, b, _, _, hm => by
    obtain rfl := List.eq_nil_of_length_eq_zero hm
    rw [rdT, keptL, Bool.and_true]
    all_goals simp
  | s :: l, pre, mid, post, T, b, ho, hs, hm => by
    obtain ⟨x, r, rfl⟩ : ∃ x r, mid = x :: r := by cases mid with
      | nil => simp at hm
      | cons x r => exact ⟨x, r, rfl⟩
    rw [settL] at hs
    obtain ⟨e1, e2⟩ := read_mid ho (hs.trans (by rw [List.append_assoc]; rfl)) rfl
    rw [rdT, if_neg (by rw [e1]; decide), e2]
    have ih := rd_ok l (pre ++ [{ text := if x.worn then x.text else s, next := [], dirty := false, worn := x.worn }]) r post T (b && decide (s = if x.worn then x.text else s)) ho (by rw [hs]; simp) (by simpa using hm)
    rw [List.length_append, List.length_singleton, Int.natCast_add] at ih
    rw [keptL, ← Bool.and_assoc]
    exact ih
/-- a record written, the power on -/
theorem wrote_ok {l : List Bs} {pre mid post : List Dk.Sec} {T : RSt} (ho : T.off = false) (hs : T.s = pre ++ mid ++ post) (hm : mid.length = l.length) (h64 : ∀ b ∈ l, b.length = 64) (hl : T.left < 0 ∨ (l.length : Int) < T.left) (hc : Clean T.s) :
    (writeT T (pre.length : Int) l).err = 0 ∧ (writeT T (pre.length : Int) l).same = keptL mid l ∧ (writeT T (pre.length : Int) l).T.s = pre ++ settL mid l ++ post ∧ (writeT T (pre.length : Int) l).T.off = false ∧ (writeT T (pre.length : Int) l).T.left = if T.left < 0 then T.left else T.left - (l.length : Int) - 1 := by
  obtain ⟨e1, e2, e3, e4⟩ := wr_ok l pre mid post T ho hs hm h64 (by omega)
  obtain ⟨f1, f2, f3, f4⟩ := step_on (T := (wrT T (pre.length : Int) l).2) (by rw [e4]; split <;> omega)
  have c1 : Clean pre := fun x hx => hc x (by rw [hs]; simp [hx])
  have c2 : Clean mid := fun x hx => hc x (by rw [hs]; simp [hx])
  have c3 : Clean post := fun x hx => hc x (by rw [hs]; simp [hx])
  have hE : rFlushE (wrT T (pre.length : Int) l).2 = 0 := by unfold rFlushE; rw [e3, f1]; rfl
  have hS : rFlushS (wrT T (pre.length : Int) l).2 = { rStepS (wrT T (pre.length : Int) l).2 with s := pre ++ settL mid l ++ post } := by
    unfold rFlushS
    rw [if_neg (by rw [e3]; decide), if_neg (by rw [f1]; decide), e2, List.append_assoc, mountL_app _ _ _ _ (fun x hx => (c1 x hx).1), mount_dirt l mid post 0 hm h64 c2 (fun x hx => (c3 x hx).1), List.append_assoc]
  have hR := rd_ok l pre mid post (rFlushS (wrT T (pre.length : Int) l).2) true (by rw [hS]; exact f3.trans e3) (by rw [hS]) hm
  unfold writeT
  rw [if_neg (by rw [e1]; decide), if_neg (by rw [hE]; decide), hR]
  refine ⟨rfl, by rw [Bool.true_and], by rw [hS], by rw [hS]; exact f3.trans e3, ?_⟩
  rw [hS]
  show (rStepS (wrT T (pre.length : Int) l).2).left = _
  rw [f4, e4]
  by_cases h : T.left < 0
  · rw [if_pos h, if_pos h, if_neg (by omega)]
  · rw [if_neg h, if_neg h, if_pos (by omega)]
/-- the power fails: some of the sectors are pending -/
theorem wrote_cut {l : List Bs} {pre mid post : List Dk.Sec} {T : RSt} {m : Nat} (ho : T.off = false) (hs : T.s = pre ++ mid ++ post) (hm : mid.length = l.length) (h64 : ∀ b ∈ l, b.length = 64) (hl : T.left = (m : Int)) (hlt : m ≤ l.length) :
    (writeT T (pre.length : Int) l).err = 24 ∧ (writeT T (pre.length : Int) l).same = false ∧ (writeT T (pre.length : Int) l).T.s = pre ++ dirtL mid (l.take m) ++ post := by
  by_cases h : m < l.length
  · obtain ⟨e1, e2, e3⟩ := wr_cut l pre mid post T m ho hs hm h64 hl h
    unfold writeT
    rw [if_pos (by rw [e1]; decide)]
    exact ⟨e1, rfl, e2⟩
  · obtain rfl : m = l.length := by omega
    obtain ⟨e1, e2, e3, e4⟩ := wr_ok l pre mid post T ho hs hm h64 (by omega)
    have hz : (wrT T (pre.length : Int) l).2.left = 0 := by rw [e4, if_neg (by omega)]; omega
    have f1 : rStepE (wrT T (pre.length : Int) l).2 = 24 := by unfold rStepE; rw [if_pos hz]
    have f2 : rStepS (wrT T (pre.length : Int) l).2 = { (wrT T (pre.length : Int) l).2 with off := true } := by unfold rStepS; rw [if_pos hz]
    have hE : rFlushE (wrT T (pre.length : Int) l).2 = 24 := by unfold rFlushE; rw [e3, f1]; rfl
    have hS : rFlushS (wrT T (pre.length : Int) l).2 = { (wrT T (pre.length : Int) l).2 with off := true } := by
      unfold rFlushS
      rw [if_neg (by rw [e3]; decide), if_pos (by rw [f1]; decide), f2]
    unfold writeT
    rw [if_neg (by rw [e1]; decide), if_pos (by rw [hE]; decide), hS]
    refine ⟨hE, rfl, ?_⟩
    show (wrT T (pre.length : Int) l).2.s = _
    rw [e2, List.take_of_length_le (Nat.le_refl _)]
end Go.Proofs.YtddpjahoeldleaaGreatDoor

/-! Plain law: a journal on a disk some sectors of which are worn. -/
namespace Go.Proofs.YtddpjahoeldleaaGreatDoor
open Dk (RSt Sim rReadB rReadE)

/-! what Open reads on a disk without pending sectors -/
theorem sim_secs {S : Dk.St} {T : RSt} (h : Sim S T) : secsB S = secsT T := by
  unfold secsB secsT
  rw [h.len]
  exact List.map_congr_left fun k _ => h.readE _
theorem secs_clean {T : RSt} (ho : T.off = false) (hd : ∀ x ∈ T.s, x.dirty = false) : secsT T = T.s.map (·.text) := by
  apply List.ext_getElem?
  intro i
  by_cases hi : i < T.s.length
  · have hs : T.s = T.s.take i ++ T.s[i] :: T.s.drop (i + 1) := by rw [← List.drop_eq_getElem_cons hi, List.take_append_drop]
    have hr := (read_mid ho hs (hd _ (List.getElem_mem hi))).2
    rw [List.length_take, Nat.min_eq_left (by omega)] at hr
    simp [secsT, hi, hr]
  · rw [List.getElem?_eq_none (by simp [secsT]; omega), List.getElem?_eq_none (by simp; omega)]
theorem check0 {S : Dk.St} {T : RSt} (h : Sim S T) (ho : T.off = false) : Dk.checkE S 0 = 0 := by rw [h.check0, ho]; rfl

/-- after m appends: the records R are there, numbered from 1 on; what follows them is blank -/
structure Goes (J : JV) (T : RSt) (R : List (Nat × Bs)) (m : Nat) : Prop where
  off : T.off = false
  left : T.left < 0
  clean : Clean T.s
  open_ : J.closed = false
  next : J.next = (m : Int) + 1
  place : ∃ pre post, T.s = pre ++ post ∧ J.fin = (pre.length : Int) ∧ (∀ x ∈ post, x.text = zero64) ∧ Recs (pre.map fun x => unpackB x.text) R
  nums : J.nums = R.map fun x => (x.1 : Int)
  texts : J.texts = R.map Prod.snd
  lt : (R.map Prod.fst).Pairwise (· < ·)
  le : ∀ x ∈ R, x.1 ≤ m
theorem kept_all : ∀ (m : List Dk.Sec) (l : List Bs), m.length = l.length → keptL m l = true → (settL m l).map (·.text) = l
  | [], [], _, _ => rfl
  | [], _ :: _, h, _ => by simp at h
  | _ :: _, [], h, _ => by simp at h
  | x :: r, b :: l, h, hk => by
    rw [keptL, Bool.and_eq_true, decide_eq_true_eq] at hk
    rw [settL, List.map_cons, kept_all r l (by simpa using h) hk.2]
    exact congrArg (· :: l) hk.1.symm
theorem sett_at : ∀ (m : List Dk.Sec) (l : List Bs) (i : Nat) (x : Dk.Sec) (b : Bs), m[i]? = some x → l[i]? = some b → (settL m l)[i]? = some { text := if x.worn then x.text else b, next := [], dirty := false, worn := x.worn }
  | [], _, _, _, _, h, _ => by cases h
  | _ :: _, [], _, _, _, _, h => by cases h
  | y :: r, c :: l, 0, x, b, h1, h2 => by
    obtain rfl : y = x := by simpa using h1
    obtain rfl : c = b := by simpa using h2
    rfl
  | y :: r, c :: l, i + 1, x, b, h1, h2 => by
    rw [settL, List.getElem?_cons_succ]
    exact sett_at r l i x b (by simpa using h1) (by simpa using h2)
theorem kept_not : ∀ (m : List Dk.Sec) (l : List Bs), keptL m l = false → ∃ (i : Nat) (x : Dk.Sec) (b : Bs), m[i]? = some x ∧ l[i]? = some b ∧ x.worn = true ∧ b ≠ x.text
  | [], [], h => by cases h
  | [], _ :: _, h => by cases h
  | _ :: _, [], h => by cases h
  | x :: r, b :: l, h => by
    rw [keptL, Bool.and_eq_false_iff, decide_eq_false_iff_not] at h
    rcases h with h | h
    · cases hw : x.worn with
      | true => rw [hw, if_pos rfl] at h; exact ⟨0, x, b, rfl, rfl, hw, h⟩
      | false => rw [hw] at h; exact absurd rfl h
    · obtain ⟨i, y, c, h1, h2, h3, h4⟩ := kept_not r l h
      exact ⟨i + 1, y, c, by simpa using h1, by simpa using h2, h3, h4⟩
theorem goes_step {J : JV} {T : RSt} {R : List (Nat × Bs)} {m : Nat} (h : Goes J T R m) (hm : m ≤ 4000) (t : Bs) :
    ((appT J T t).err = 0 ∧ (appT J T t).n = (m : Int) + 1 ∧ Goes (appT J T t).J (appT J T t).T (R ++ [(m + 1, t)]) (m + 1)) ∨
    (((appT J T t).err = 25 ∨ (appT J T t).err = 23 ∨ (appT J T t).err = 4) ∧ ∃ m', m ≤ m' ∧ m' ≤ m + 1 ∧ Goes (appT J T t).J (appT J T t).T R m') := by
  obtain ⟨pre, post, hs, hf, hz, hr⟩ := h.place
  unfold appT
  rw [if_neg (by rw [h.open_]; decide)]
  by_cases h1 : 8000 < t.length ∨ 4096 < J.next
  · rw [if_pos h1]
    exact .inr ⟨.inr (.inr rfl), m, Nat.le_refl _, by omega, h⟩
  · rw [if_neg h1]
    have h8 : t.length ≤ 8000 := by omega
    by_cases h2 : (T.s.length : Int) - J.fin < (countN t.length : Int)
    · rw [if_pos h2]
      exact .inr ⟨.inr (.inl rfl), m, Nat.le_refl _, by omega, h⟩
    · rw [if_neg h2]
      have hN : J.next.toNat = m + 1 := by rw [h.next]; omega
      have hpl := pack_len (m + 1) t
      have hcp : countN t.length ≤ post.length := by rw [hs, List.length_append, hf] at h2; omega
      have hmid : (post.take (countN t.length)).length = (packB (m + 1) t).length := by rw [List.length_take, hpl]; omega
      have hs3 : T.s = pre ++ post.take (countN t.length) ++ post.drop (countN t.length) := by rw [List.append_assoc, List.take_append_drop, hs]
      obtain ⟨w1, w2, w3, w4, w5⟩ := wrote_ok (T := T) h.off hs3 hmid pack_64 (.inl h.left) h.clean
      have e : apT J T t = writeT T (pre.length : Int) (packB (m + 1) t) := by rw [apT, hf, hN]
      rw [← e] at w1 w2 w3 w4 w5
      rw [if_neg (by rw [w1]; decide), w2]
      have hz2 : ∀ x ∈ post.take (countN t.length), x.text = zero64 := fun x hx => hz x (List.mem_of_mem_take hx)
      have hc2 : Clean (settL (post.take (countN t.length)) (packB (m + 1) t)) := settL_clean _ _ (fun x hx => h.clean x (by rw [hs]; simp [List.mem_of_mem_take hx])) pack_64
      have hcl : Clean (apT J T t).T.s := fun x hx => by
        rw [w3] at hx
        rcases List.mem_append.1 hx with hx | hx
        · rcases List.mem_append.1 hx with hx | hx
          · exact h.clean x (by rw [hs]; simp [hx])
          · exact hc2 x hx
        · exact h.clean x (by rw [hs]; simp [List.mem_of_mem_drop hx])
      have hfin : (apJ1 J t).fin = ((pre ++ settL (post.take (countN t.length)) (packB (m + 1) t)).length : Int) := by
        rw [List.length_append, settL_len, hmid, hpl]
        show J.fin + _ = _
        rw [hf]; omega
      have hleft : (apT J T t).T.left < 0 := by rw [w5, if_pos h.left]; exact h.left
      have hnext : (apJ1 J t).next = ((m + 1 : Nat) : Int) + 1 := by show J.next + 1 = _; rw [h.next]; omega
      by_cases hk : keptL (post.take (countN t.length)) (packB (m + 1) t) = true
      · rw [if_neg (by rw [hk]; decide)]
        refine .inl ⟨rfl, h.next, w4, hleft, hcl, h.open_, hnext, ⟨_, _, w3, hfin, fun x hx => hz x (List.mem_of_mem_drop hx), ?_⟩, ?_, ?_, ?_, ?_⟩
        · rw [List.map_append]
          refine hr.app ?_
          have := block_pack (n := m + 1) (by omega) (by omega) h8
          have hka := kept_all _ _ hmid hk
          rw [← hka, List.map_map] at this
          exact this
        · show J.nums ++ [J.next] = _
          rw [h.nums, h.next, List.map_append]; rfl
        · show J.texts ++ [t] = _
          rw [h.texts, List.map_append]; rfl
        · rw [List.map_append, List.pairwise_append]
          refine ⟨h.lt, by simp, fun a ha b hb => ?_⟩
          obtain ⟨x, hx, rfl⟩ := List.mem_map.1 ha
          have := h.le x hx
          simp at hb
          omega
        · intro x hx
          rcases List.mem_append.1 hx with hx | hx
          · have := h.le x hx; omega
          · simp at hx; rw [hx]; exact Nat.le_refl _
      · have hkf : keptL (post.take (countN t.length)) (packB (m + 1) t) = false := by simpa using hk
        rw [if_pos hkf]
        refine .inr ⟨.inl rfl, m + 1, by omega, Nat.le_refl _, w4, hleft, hcl, h.open_, hnext, ⟨_, _, w3, hfin, fun x hx => hz x (List.mem_of_mem_drop hx), ?_⟩, h.nums, h.texts, h.lt, fun x hx => by have := h.le x hx; omega⟩
        rw [List.map_append]
        have hB : Block (m + 1) t ((settL (post.take (countN t.length)) (packB (m + 1) t)).map fun x => unpackB x.text) := by
          have := block_of (n := m + 1) (t := t) (l := (settL (post.take (countN t.length)) (packB (m + 1) t)).map (·.text)) (by omega) (by omega) h8 (by rw [List.length_map, settL_len, hmid, hpl]) (fun i s hi => ?_)
          · rw [List.map_map] at this; exact this
          · rw [List.getElem?_map] at hi
            have hil : i < (settL (post.take (countN t.length)) (packB (m + 1) t)).length := by
              cases hx : (settL (post.take (countN t.length)) (packB (m + 1) t))[i]? with
              | none => rw [hx] at hi; cases hi
              | some x => exact (List.getElem?_eq_some_iff.1 hx).1
            rw [settL_len] at hil
            have hb : (packB (m + 1) t)[i]? = some (sectB (m + 1) t i) := pack_at (by rw [hmid, hpl] at hil; exact hil)
            rw [sett_at _ _ i _ _ (List.getElem?_eq_getElem hil) hb] at hi
            obtain rfl := Option.some.inj hi
            cases hw : (post.take (countN t.length))[i].worn with
            | false => left; rfl
            | true =>
              right
              show (unpackB (post.take (countN t.length))[i].text).ok = false
              rw [hz2 _ (List.getElem_mem hil), unpack_zero]
              rfl
        have hbad : ∃ p ∈ (settL (post.take (countN t.length)) (packB (m + 1) t)).map fun x => unpackB x.text, p.ok = false := by
          obtain ⟨i, x, b, i1, i2, i3, _⟩ := kept_not _ _ hkf
          refine ⟨unpackB x.text, List.mem_map.2 ⟨_, List.mem_of_getElem? (sett_at _ _ i x b i1 i2), by simp [i3]⟩, ?_⟩
          rw [hz2 x (List.mem_of_getElem? i1), unpack_zero]
          rfl
        have := hr.app (recs_bad hB hbad)
        rwa [List.append_nil] at this
/-- what Open finds -/
theorem goes_open {J : JV} {T : RSt} {R : List (Nat × Bs)} {m : Nat} (h : Goes J T R m) {S : Dk.St} (hS : Sim S T) : (openJ S).nums = J.nums ∧ (openJ S).texts = J.texts := by
  obtain ⟨pre, post, hs, hf, hz, hr⟩ := h.place
  have hp : partsB S = (pre.map fun x => unpackB x.text) ++ post.map fun x => unpackB x.text := by
    rw [partsB, sim_secs hS, secs_clean h.off (fun x hx => (h.clean x hx).1), hs, List.map_map, List.map_append]
    rfl
  have hr2 : Recs (partsB S) R := by
    have := hr.app (recs_none (X := post.map fun x => unpackB x.text) (fun p hp => by
      obtain ⟨x, hx, rfl⟩ := List.mem_map.1 hp
      rw [hz x hx, unpack_zero]; rfl))
    rw [List.append_nil, ← hp] at this
    exact this
  have hf := found_of hr2 (h.lt.imp fun {a b} hab => by omega)
  refine ⟨?_, ?_⟩
  · show (foundL (partsB S)).map _ = _
    rw [hf, h.nums]
  · show (foundL (partsB S)).map _ = _
    rw [hf, h.texts]
/-- a disk without content -/
structure Void (T : RSt) : Prop where
  off : T.off = false
  left : T.left = -1
  all : ∀ x ∈ T.s, x.text = zero64 ∧ x.dirty = false
theorem Void.wear {T : RSt} (h : Void T) (i : Int) : Void (Dk.rWearS T i) := by
  unfold Dk.rWearS
  split
  · rename_i hi
    have hr := Dk.is_range hi
    refine ⟨h.off, h.left, fun x hx => ?_⟩
    rcases List.mem_or_eq_of_mem_set hx with hx | rfl
    · exact h.all x hx
    · have hm : T.s.getD i.toNat Dk.zs ∈ T.s := by
        rw [List.getD_eq_getElem?_getD, List.getElem?_eq_getElem (by omega), Option.getD_some]
        exact List.getElem_mem _
      exact ⟨(h.all (T.s.getD i.toNat Dk.zs) hm).1, (h.all (T.s.getD i.toNat Dk.zs) hm).2⟩
  · exact h
theorem void_new (n cap : Nat) (ext : List Value) : Void (Dk.newR n cap ext) := ⟨rfl, rfl, fun x hx => by rw [List.eq_of_mem_replicate hx]; exact ⟨rfl, rfl⟩⟩
theorem Void.goes {T : RSt} (h : Void T) {S : Dk.St} (hS : Sim S T) : Goes (openJ S) T [] 0 ∧ (openJ S).bad = [] := by
  have ht : T.s.map (·.text) = List.replicate T.s.length zero64 := by
    rw [List.eq_replicate_iff]
    refine ⟨by simp, fun b hb => ?_⟩
    obtain ⟨x, hx, rfl⟩ := List.mem_map.1 hb
    exact (h.all x hx).1
  have hse : secsB S = List.replicate T.s.length zero64 := by rw [sim_secs hS, secs_clean h.off (fun x hx => (h.all x hx).2), ht]
  have ho : oFold (secsB S) = ⟨T.s.length, 1, 0, []⟩ := by
    rw [hse, oFold, foldO_zero _ _ (Nat.le_refl _)]
    simp
  have hf : foundL (partsB S) = [] := by
    rw [partsB, hse]
    exact found_of (recs_zero _) (by simp)
  have hJ : openJ S = ⟨[], [], [], 1, 0, false⟩ := by rw [openJ, ho, hf]; rfl
  rw [hJ]
  refine ⟨⟨h.off, by rw [h.left]; decide, fun x hx => ⟨(h.all x hx).2, by rw [(h.all x hx).1]; rfl⟩, rfl, rfl, ⟨[], T.s, rfl, rfl, fun x hx => (h.all x hx).1, Recs.nil⟩, rfl, rfl, List.Pairwise.nil, fun x hx => (by cases hx)⟩, rfl⟩
end Go.Proofs.YtddpjahoeldleaaGreatDoor

/-! Plain law: a journal on a disk that is not worn. -/
namespace Go.Proofs.YtddpjahoeldleaaGreatDoor
open Dk (RSt Sim rReadB rReadE)

theorem Clean.app {a b : List Dk.Sec} (h : Clean a) (k : Clean b) : Clean (a ++ b) := fun x hx => (List.mem_append.1 hx).elim (h x) (k x)
theorem Clean.left {a b : List Dk.Sec} (h : Clean (a ++ b)) : Clean a := fun x hx => h x (List.mem_append_left _ hx)
theorem Clean.right {a b : List Dk.Sec} (h : Clean (a ++ b)) : Clean b := fun x hx => h x (List.mem_append_right _ hx)
theorem kept_new : ∀ (m : List Dk.Sec) (l : List Bs), (∀ x ∈ m, x.worn = false) → keptL m l = true
  | [], [], _ => rfl
  | [], _ :: _, _ => rfl
  | _ :: _, [], _ => rfl
  | x :: r, b :: l, h => by
    rw [keptL, h x (List.mem_cons_self ..), kept_new r l (fun y hy => h y (List.mem_cons_of_mem _ hy))]
    simp
theorem settL_worn : ∀ (m : List Dk.Sec) (l : List Bs), (∀ x ∈ m, x.worn = false) → ∀ x ∈ settL m l, x.worn = false
  | [], [], h => h
  | [], _ :: _, h => h
  | _ :: _, [], h => h
  | x :: r, b :: l, h => fun y hy => by
    rw [settL] at hy
    rcases List.mem_cons.1 hy with rfl | hy
    · exact h x (List.mem_cons_self ..)
    · exact settL_worn r l (fun z hz => h z (List.mem_cons_of_mem _ hz)) y hy
/-- a record that fits, on sectors that are not worn -/
theorem app_ok {J : JV} {T : RSt} {t : Bs} {pre mid post : List Dk.Sec} (hcl : J.closed = false) (h8 : t.length ≤ 8000) (hn : J.next ≤ 4096) (hf : J.fin = (pre.length : Int)) (ho : T.off = false) (hl : T.left < 0 ∨ (countN t.length : Int) < T.left) (hc : Clean T.s) (hs : T.s = pre ++ mid ++ post) (hm : mid.length = countN t.length) (hw : ∀ x ∈ mid, x.worn = false) :
    (appT J T t).n = J.next ∧ (appT J T t).err = 0 ∧ (appT J T t).J = { apJ1 J t with nums := J.nums ++ [J.next], texts := J.texts ++ [t] } ∧ (appT J T t).T.s = pre ++ settL mid (packB J.next.toNat t) ++ post ∧ (appT J T t).T.off = false ∧ (appT J T t).T.left = if T.left < 0 then T.left else T.left - (countN t.length : Int) - 1 := by
  have hpl := pack_len J.next.toNat t
  have hm2 : mid.length = (packB J.next.toNat t).length := by rw [hm, hpl]
  obtain ⟨w1, w2, w3, w4, w5⟩ := wrote_ok (T := T) ho hs hm2 pack_64 (by rw [hpl]; exact hl) hc
  have e : apT J T t = writeT T (pre.length : Int) (packB J.next.toNat t) := by rw [apT, hf]
  rw [← e] at w1 w2 w3 w4 w5
  rw [kept_new _ _ hw] at w2
  unfold appT
  rw [if_neg (by rw [hcl]; decide), if_neg (by omega), if_neg (by rw [hs, hf, List.length_append, List.length_append, hm]; omega), if_neg (by rw [w1]; decide), if_neg (by rw [w2]; decide)]
  exact ⟨rfl, rfl, rfl, w3, w4, by rw [w5, hpl]⟩
/-- a record that does not fit, or is too long -/
theorem app_no {J : JV} {T : RSt} {t : Bs} (hcl : J.closed = false) (h : 8000 < t.length ∨ 4096 < J.next ∨ (T.s.length : Int) - J.fin < (countN t.length : Int)) : ((appT J T t).err = 4 ∨ (appT J T t).err = 23) ∧ (appT J T t).J = J ∧ (appT J T t).T = T := by
  unfold appT
  rw [if_neg (by rw [hcl]; decide)]
  by_cases h1 : 8000 < t.length ∨ 4096 < J.next
  · rw [if_pos h1]; exact ⟨.inl rfl, rfl, rfl⟩
  · rw [if_neg h1, if_pos (by omega)]; exact ⟨.inr rfl, rfl, rfl⟩

/-! records from number n on -/
def imgFrom : Nat → List Bs → List Bs
  | _, [] => []
  | n, t :: r => packB n t ++ imgFrom (n + 1) r
def recsFrom : Nat → List Bs → List (Nat × Bs)
  | _, [] => []
  | n, t :: r => (n, t) :: recsFrom (n + 1) r
theorem img_snoc : ∀ (R : List Bs) (n : Nat) (t : Bs), imgFrom n (R ++ [t]) = imgFrom n R ++ packB (n + R.length) t
  | [], n, t => by simp [imgFrom]
  | x :: R, n, t => by
    rw [List.cons_append, imgFrom, imgFrom, img_snoc R (n + 1) t, List.append_assoc, List.length_cons, show n + 1 + R.length = n + (R.length + 1) by omega]
theorem recs_snoc : ∀ (R : List Bs) (n : Nat) (t : Bs), recsFrom n (R ++ [t]) = recsFrom n R ++ [(n + R.length, t)]
  | [], n, t => by simp [recsFrom]
  | x :: R, n, t => by
    rw [List.cons_append, recsFrom, recsFrom, recs_snoc R (n + 1) t, List.length_cons, show n + 1 + R.length = n + (R.length + 1) by omega]
    rfl
theorem recs_texts : ∀ (R : List Bs) (n : Nat), (recsFrom n R).map Prod.snd = R
  | [], _ => rfl
  | x :: R, n => by rw [recsFrom, List.map_cons, recs_texts R]
theorem recs_fst : ∀ (R : List Bs) (n : Nat), (recsFrom n R).map Prod.fst = List.range' n R.length
  | [], _ => rfl
  | x :: R, n => by rw [recsFrom, List.map_cons, recs_fst R, List.length_cons, List.range'_succ]
theorem img_recs : ∀ (R : List Bs) (n : Nat), 1 ≤ n → n + R.length ≤ 4097 → (∀ t ∈ R, t.length ≤ 8000) → Recs ((imgFrom n R).map unpackB) (recsFrom n R)
  | [], _, _, _, _ => Recs.nil
  | t :: R, n, h1, h2, h3 => by
    rw [List.length_cons] at h2
    rw [imgFrom, recsFrom, List.map_append]
    exact (block_pack h1 (by omega) (h3 t (List.mem_cons_self ..))).app (img_recs R (n + 1) (by omega) (by omega) (fun x hx => h3 x (List.mem_cons_of_mem _ hx)))
theorem img_fold : ∀ (R : List Bs) (n : Nat) (o : OV), 1 ≤ n → n + R.length ≤ 4097 → (∀ t ∈ R, t.length ≤ 8000) → o.next = n → o.fin = o.k → (imgFrom n R).foldl oStep o = ⟨o.k + (imgFrom n R).length, n + R.length, o.k + (imgFrom n R).length, o.bad⟩
  | [], n, o, _, _, _, e1, e2 => by
    cases o
    simp only [imgFrom, List.foldl_nil, List.length_nil, Nat.add_zero]
    simp only at e1 e2
    rw [e1, e2]
  | t :: R, n, o, h1, h2, h3, e1, e2 => by
    rw [List.length_cons] at h2
    rw [imgFrom, List.foldl_append, foldO_pack h1 (by omega) (h3 t (List.mem_cons_self ..)), img_fold R (n + 1) _ (by omega) (by omega) (fun x hx => h3 x (List.mem_cons_of_mem _ hx)) (by simp only []; omega) rfl, List.length_append, pack_len, List.length_cons]
    simp only [OV.mk.injEq, and_true]
    omega
/-- the journal of the records R -/
def fullJ (R : List Bs) : JV := ⟨(recsFrom 1 R).map fun x => (x.1 : Int), [], R, (R.length : Int) + 1, ((imgFrom 1 R).length : Int), false⟩
def openT (T : RSt) : JV := addJ (ovJ (oFold (secsT T))) (foundL ((secsT T).map unpackB))
theorem sim_open {S : Dk.St} {T : RSt} (h : Sim S T) : openJ S = openT T := by unfold openJ openT partsB; rw [sim_secs h]
/-- the disk holds just these records -/
structure Full (T : RSt) (R : List Bs) : Prop where
  off : T.off = false
  left : T.left = -1
  clean : Clean T.s
  new : ∀ x ∈ T.s, x.worn = false
  img : ∃ z, T.s.map (·.text) = imgFrom 1 R ++ List.replicate z zero64
  small : ∀ t ∈ R, t.length ≤ 8000
  few : R.length ≤ 4096
theorem Full.open_ {T : RSt} {R : List Bs} (h : Full T R) : openT T = fullJ R := by
  obtain ⟨z, hz⟩ := h.img
  have hf := h.few
  have hse : secsT T = imgFrom 1 R ++ List.replicate z zero64 := by rw [secs_clean h.off (fun x hx => (h.clean x hx).1), hz]
  have hr : Recs ((secsT T).map unpackB) (recsFrom 1 R) := by
    have := (img_recs R 1 (Nat.le_refl _) (by omega) h.small).app (recs_zero z)
    rw [List.append_nil, ← List.map_append, ← hse] at this
    exact this
  have hn := found_of hr (by rw [recs_fst]; exact List.nodup_range')
  have ho : oFold (secsT T) = ⟨(imgFrom 1 R).length + z, 1 + R.length, (imgFrom 1 R).length, []⟩ := by
    rw [hse, oFold, List.foldl_append, img_fold R 1 _ (Nat.le_refl _) (by omega) h.small rfl rfl, foldO_zero _ _ (by simp only []; omega)]
    simp
  rw [openT, hn, ho, fullJ, addJ, ovJ, recs_texts]
  simp only [List.map_nil, JV.mk.injEq, true_and, and_true]
  omega
theorem Full.len {T : RSt} {R : List Bs} (h : Full T R) : (imgFrom 1 R).length ≤ T.s.length := by
  obtain ⟨z, hz⟩ := h.img
  have := congrArg List.length hz
  rw [List.length_map, List.length_append] at this
  omega
/-- the sectors of a full disk, parted where the next record of C sectors goes -/
theorem Full.part {T : RSt} {R : List Bs} (h : Full T R) {C : Nat} (hC : (imgFrom 1 R).length + C ≤ T.s.length) : ∃ pre mid post, T.s = pre ++ mid ++ post ∧ pre.length = (imgFrom 1 R).length ∧ mid.length = C ∧ pre.map (·.text) = imgFrom 1 R ∧ (∀ x ∈ mid, x.text = zero64) ∧ (∀ x ∈ post, x.text = zero64) ∧ Clean pre ∧ Clean mid ∧ Clean post ∧ (∀ x ∈ mid, x.worn = false) := by
  obtain ⟨z, hz⟩ := h.img
  have e : T.s = T.s.take (imgFrom 1 R).length ++ (T.s.drop (imgFrom 1 R).length).take C ++ (T.s.drop (imgFrom 1 R).length).drop C := by rw [List.append_assoc, List.take_append_drop, List.take_append_drop]
  have h1 : (T.s.take (imgFrom 1 R).length).map (·.text) = imgFrom 1 R := by rw [List.map_take, hz, List.take_left]
  have h2 : (T.s.drop (imgFrom 1 R).length).map (·.text) = List.replicate z zero64 := by rw [List.map_drop, hz, List.drop_left]
  have h3 : ∀ x ∈ T.s.drop (imgFrom 1 R).length, x.text = zero64 := fun x hx => List.eq_of_mem_replicate (h2 ▸ List.mem_map_of_mem hx)
  refine ⟨_, _, _, e, by rw [List.length_take]; omega, by rw [List.length_take, List.length_drop]; omega, h1, fun x hx => h3 x (List.mem_of_mem_take hx), fun x hx => h3 x (List.mem_of_mem_drop hx), fun x hx => h.clean x (List.mem_of_mem_take hx), fun x hx => h.clean x (List.mem_of_mem_drop (List.mem_of_mem_take hx)), fun x hx => h.clean x (List.mem_of_mem_drop (List.mem_of_mem_drop hx)), fun x hx => h.new x (List.mem_of_mem_drop (List.mem_of_mem_take hx))⟩
theorem zeros_of {l : List Dk.Sec} (h : ∀ x ∈ l, x.text = zero64) : l.map (·.text) = List.replicate l.length zero64 := by
  rw [List.eq_replicate_iff]
  refine ⟨by simp, fun b hb => ?_⟩
  obtain ⟨x, hx, rfl⟩ := List.mem_map.1 hb
  exact h x hx
/-- one more record, where there is room -/
theorem Full.fits {T : RSt} {R : List Bs} (h : Full T R) (t : Bs) (hR : R.length < 4096) (h1 : ¬ (8000 < t.length ∨ 4096 < (fullJ R).next ∨ (T.s.length : Int) - (fullJ R).fin < (countN t.length : Int))) :
    ((appT (fullJ R) T t).err = 0 ∧ (appT (fullJ R) T t).n = (R.length : Int) + 1 ∧ (appT (fullJ R) T t).J = fullJ (R ++ [t]) ∧ Full (appT (fullJ R) T t).T (R ++ [t]) ∧ (appT (fullJ R) T t).T.s.length = T.s.length) := by
  have hfin : (fullJ R).fin = ((imgFrom 1 R).length : Int) := rfl
  have hnext : (fullJ R).next = (R.length : Int) + 1 := rfl
  have hN : (fullJ R).next.toNat = 1 + R.length := by rw [hnext]; omega
  have h8 : t.length ≤ 8000 := by omega
  obtain ⟨pre, mid, post, hs, p1, p2, p3, p4, p5, c1, c2, c3, hw⟩ := h.part (C := countN t.length) (by omega)
  have hc := h.clean
  obtain ⟨a1, a2, a3, a4, a5, a6⟩ := app_ok (J := fullJ R) (T := T) (t := t) rfl h8 (by rw [hnext]; omega) (by rw [hfin, p1]) h.off (.inl (by rw [h.left]; decide)) hc hs p2 hw
  rw [hN] at a4
  have hlen : (appT (fullJ R) T t).T.s.length = T.s.length := by rw [a4, hs]; simp only [List.length_append, settL_len]
  refine ⟨a2, a1, ?_, ⟨a5, by rw [a6, h.left]; rfl, ?_, ?_, ⟨post.length, ?_⟩, ?_, by rw [List.length_append, List.length_singleton]; omega⟩, hlen⟩
  · rw [a3]
    unfold fullJ apJ1
    rw [recs_snoc, img_snoc, List.map_append]
    simp only [List.length_append, List.length_singleton, pack_len, List.map_cons, List.map_nil, JV.mk.injEq, true_and, and_true]
    refine ⟨?_, by omega, by omega⟩
    congr 2
    congr 1
    omega
  · rw [a4]; exact ((c1.app (settL_clean _ _ c2 pack_64)).app c3)
  · intro x hx
    rw [a4] at hx
    rcases List.mem_append.1 hx with hx | hx
    · rcases List.mem_append.1 hx with hx | hx
      · exact h.new x (by rw [hs]; simp [hx])
      · exact settL_worn _ _ hw x hx
    · exact h.new x (by rw [hs]; simp [hx])
  · rw [a4, List.map_append, List.map_append, p3, kept_all _ _ (by rw [p2, pack_len]) (kept_new _ _ hw), img_snoc, zeros_of p5]
  · intro x hx
    rcases List.mem_append.1 hx with hx | hx
    · exact h.small x hx
    · simp at hx; rw [hx]; exact h8
theorem Full.app {T : RSt} {R : List Bs} (h : Full T R) (t : Bs) (hR : R.length < 4096) :
    ((appT (fullJ R) T t).err = 0 ∧ (appT (fullJ R) T t).n = (R.length : Int) + 1 ∧ (appT (fullJ R) T t).J = fullJ (R ++ [t]) ∧ Full (appT (fullJ R) T t).T (R ++ [t]) ∧ (appT (fullJ R) T t).T.s.length = T.s.length) ∨
    (((appT (fullJ R) T t).err = 4 ∨ (appT (fullJ R) T t).err = 23) ∧ (appT (fullJ R) T t).J = fullJ R ∧ (appT (fullJ R) T t).T = T) := by
  by_cases h1 : 8000 < t.length ∨ 4096 < (fullJ R).next ∨ (T.s.length : Int) - (fullJ R).fin < (countN t.length : Int)
  · exact .inr (app_no rfl h1)
  · exact .inl (h.fits t hR h1)
theorem full_new (n cap : Nat) (ext : List Value) : Full (Dk.newR n cap ext) [] := by
  refine ⟨rfl, rfl, fun x hx => by rw [List.eq_of_mem_replicate hx]; exact ⟨rfl, rfl⟩, fun x hx => by rw [List.eq_of_mem_replicate hx]; rfl, ⟨n, ?_⟩, fun t h => (by cases h), Nat.zero_le _⟩
  show (List.replicate n Dk.zSec).map _ = _
  rw [List.map_replicate]; rfl
end Go.Proofs.YtddpjahoeldleaaGreatDoor

/-! The examples of sanity, computed. -/
namespace Go.Proofs.YtddpjahoeldleaaGreatDoor
open Dk (RSt Sim)

def tA : Bs := [97]
def tX : Bs := List.replicate 50 120
def tB : Bs := [98]
def tC : Bs := [99]
theorem apv (r : ApV) {n e : Int} {J : JV} (h1 : r.n = n) (h2 : r.err = e) (h3 : r.J = J) : r = ⟨n, e, J, r.S⟩ := by
  cases r
  simp only at h1 h2 h3
  rw [h1, h2, h3]
theorem sane_open : Sim (Dk.newS 4) (Dk.newR 4 4 []) ∧ openJ (Dk.newS 4) = fullJ [] ∧ Dk.checkE (Dk.newS 4) 0 = 0 := by
  have h := Dk.sim_new 4 4 [] (by decide)
  exact ⟨h, by rw [sim_open h, (full_new 4 4 []).open_], check0 h rfl⟩
theorem sane_app {S : Dk.St} {T : RSt} {R : List Bs} (h : Sim S T) (hF : Full T R) (h4 : T.s.length = 4) (t : Bs) (hR : R.length < 4096) (h1 : ¬ (8000 < t.length ∨ 4096 < (fullJ R).next ∨ (4 : Int) - (fullJ R).fin < (countN t.length : Int))) :
    ∃ S', appR (fullJ R) S t = ⟨(R.length : Int) + 1, 0, fullJ (R ++ [t]), S'⟩ ∧ ∃ T', Sim S' T' ∧ Full T' (R ++ [t]) ∧ T'.s.length = 4 := by
  obtain ⟨a1, a2, a3, a4⟩ := sim_app h (fullJ R) t
  obtain ⟨b1, b2, b3, b4, b5⟩ := hF.fits t hR (by rw [h4]; exact h1)
  exact ⟨_, apv _ (a1.trans b2) (a2.trans b1) (a3.trans b3), _, a4, b4, b5.trans h4⟩
def sA : Bs := sectB 1 tA 0
def sX0 : Bs := sectB 2 tX 0
def sX1 : Bs := sectB 2 tX 1
def sF : Bs := Dk.flipB sX0 70
set_option maxRecDepth 100000 in
theorem flip_bad : unpackB sF = noPart ∧ blankB sF = false := by
  refine ⟨(part_le sF).2.2.2 ?_, ?_⟩ <;> kernel_rfl
theorem part_A : unpackB sA = partOf 1 tA 0 ∧ blankB sA = false := ⟨unpack_part (by decide) (by decide) (by decide) (by decide), by unfold blankB; exact decide_eq_false (sect_nz (by decide) (by decide) (by decide) (by decide))⟩
theorem part_X1 : unpackB sX1 = partOf 2 tX 1 ∧ blankB sX1 = false := ⟨unpack_part (by decide) (by decide) (by decide) (by decide), by unfold blankB; exact decide_eq_false (sect_nz (by decide) (by decide) (by decide) (by decide))⟩
def saneJ : JV := ⟨[1], [1], [tA], 3, 3, false⟩
def saneK : JV := ⟨[1, 3], [1], [tA, tB], 4, 4, false⟩
theorem sane_found : foundL [partOf 1 tA 0, noPart, partOf 2 tX 1, noPart] = [(1, tA)] := by kernel_rfl
theorem sane_fold : oFold [sA, sF, sX1, zero64] = ⟨4, 3, 3, [1]⟩ := by
  have hz : blankB zero64 = true := by decide
  simp [oFold, oStep, part_A, flip_bad, part_X1, unpack_zero, hz, partOf, noPart]
theorem sane_no (S : Dk.St) (h : (S.bl.length : Int) = 4) : appR saneK S tC = ⟨0, 23, saneK, S⟩ := by
  unfold appR
  rw [if_neg (by decide), if_neg (by decide), if_pos (by rw [h]; decide)]
theorem sane_rot {S : Dk.St} {T : RSt} (h : Sim S T) (hF : Full T [tA, tX]) (h4 : T.s.length = 4) :
    Dk.rotE S 1 70 = 0 ∧ Dk.checkE (Dk.rotS S 1 70) 0 = 0 ∧ openJ (Dk.rotS S 1 70) = saneJ ∧ ∃ S', appR saneJ (Dk.rotS S 1 70) tB = ⟨3, 0, saneK, S'⟩ ∧ appR saneK S' tC = ⟨0, 23, saneK, S'⟩ := by
  have hi : Dk.rRotOK T 1 70 = true := by
    unfold Dk.rRotOK Dk.rIs
    rw [h4]
    decide
  have hE : Dk.rotE S 1 70 = 0 := by rw [h.rotE]; unfold Dk.rRotE; rw [hi]; rfl
  have h3 := h.rot 1 70
  obtain ⟨z, hz⟩ := hF.img
  have himg : imgFrom 1 [tA, tX] = [sA, sX0, sX1] := rfl
  rw [himg] at hz
  obtain ⟨x0, x1, x2, x3, hs⟩ : ∃ x0 x1 x2 x3, T.s = [x0, x1, x2, x3] := by
    match h : T.s, h4 with
    | [a, b, c, d], _ => exact ⟨a, b, c, d, rfl⟩
  have hz1 : z = 1 := by
    have := congrArg List.length hz
    rw [List.length_map, h4] at this
    simp at this
    omega
  subst hz1
  rw [hs] at hz
  simp only [List.map_cons, List.map_nil, List.cons_append, List.nil_append, List.replicate_succ, List.replicate_zero, List.cons.injEq, and_true] at hz
  obtain ⟨t0, t1, t2, t3⟩ := hz
  have hc := hF.clean
  have hnew := hF.new
  rw [hs] at hc hnew
  have hT3 : (Dk.rRotS T 1 70).s = [x0, { x1 with text := sF }, x2, x3] := by
    unfold Dk.rRotS
    rw [hi, if_pos rfl]
    show T.s.set 1 { T.s.getD 1 Dk.zs with text := Dk.flipB (T.s.getD 1 Dk.zs).text 70 } = _
    rw [hs]
    show [x0, { x1 with text := Dk.flipB x1.text 70 }, x2, x3] = _
    rw [t1]
    rfl
  have hoff : (Dk.rRotS T 1 70).off = false ∧ (Dk.rRotS T 1 70).left = -1 := by
    unfold Dk.rRotS
    rw [hi, if_pos rfl]
    exact ⟨hF.off, hF.left⟩
  have h0 := hc x0 (by simp)
  have h1 := hc x1 (by simp)
  have h2 := hc x2 (by simp)
  have h3' := hc x3 (by simp)
  have hF64 : sF.length = 64 := by
    unfold sF
    rw [Dk.flip_length]
    exact sect_len _ _ _
  have hcl : Clean (Dk.rRotS T 1 70).s := by
    rw [hT3]
    intro x hx
    simp only [List.mem_cons, List.not_mem_nil, or_false] at hx
    rcases hx with rfl | rfl | rfl | rfl
    · exact h0
    · exact ⟨h1.1, hF64⟩
    · exact h2
    · exact h3'
  have hse : secsT (Dk.rRotS T 1 70) = [sA, sF, sX1, zero64] := by
    rw [secs_clean hoff.1 (fun x hx => (hcl x hx).1), hT3]
    simp only [List.map_cons, List.map_nil, t0, t2, t3]
  have hJ : openJ (Dk.rotS S 1 70) = saneJ := by
    rw [sim_open h3, openT, hse, sane_fold]
    simp only [List.map_cons, List.map_nil, part_A.1, flip_bad.1, part_X1.1, unpack_zero]
    rw [sane_found]
    rfl
  obtain ⟨b1, b2, b3, b4, b5, b6⟩ := app_ok (J := saneJ) (T := Dk.rRotS T 1 70) (t := tB) (pre := [x0, { x1 with text := sF }, x2]) (mid := [x3]) (post := []) rfl (by decide) (by decide) rfl hoff.1 (.inl (by rw [hoff.2]; decide)) hcl hT3 rfl (fun x hx => hnew x (by simp at hx; simp [hx]))
  obtain ⟨a1, a2, a3, a4⟩ := sim_app h3 saneJ tB
  have hlen : ((appT saneJ (Dk.rRotS T 1 70) tB).T.s.length : Int) = 4 := by
    rw [b4, List.length_append, List.length_append, settL_len]
    rfl
  refine ⟨hE, check0 h3 hoff.1, hJ, _, apv _ (a1.trans b1) (a2.trans b2) (a3.trans (b3.trans rfl)), ?_⟩
  exact sane_no _ (by rw [← a4.len]; exact hlen)
end Go.Proofs.YtddpjahoeldleaaGreatDoor
