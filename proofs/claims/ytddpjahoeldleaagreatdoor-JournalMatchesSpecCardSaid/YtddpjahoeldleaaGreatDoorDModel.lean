/- The plain law: the program's disk does what the reference's does. -/
import Derived.Test.YtddpjahoeldleaaGreatDoorDInv
namespace Go.Proofs.YtddpjahoeldleaaGreatDoor.Dk
open Go.RowKit Go.Maps

structure Sec where
  text : Bs
  next : Bs
  dirty : Bool
  worn : Bool
structure RSt where
  s : List Sec
  off : Bool
  left : Int
  cap : Nat
  ext : List Value
def zSec : Sec := ⟨zeroBs, [], false, false⟩
def newR (n : Nat) (cap : Nat) (ext : List Value) : RSt := { s := List.replicate n zSec, off := false, left := -1, cap := cap, ext := ext }
def pickF (ps : List Int) (k : Nat) : Int := if k < ps.length then ps.getD k 0 else 64
def mountS (S : St) (ps : List Int) : St := { settleK S (keysOf S.pend) (pickF ps) (keysOf S.pend).length with off := false, left := -1 }

/-- a map whose keys are the numbers of some of n sectors -/
def IntMap (n : Nat) (D : Dt) : Prop := ∃ es, D = .map es ∧ es.Pairwise (fun p q => p.1 ≠ q.1) ∧ ∀ p ∈ es, ∃ z : Nat, p.1 = kI z ∧ z < n
theorem kI_key (i : Int) : WideAt.IsKeyLit (kI i) := trivial
theorem kI_ne {i j : Nat} (h : i ≠ j) : kI (i : Int) ≠ kI (j : Int) := by
  intro e
  unfold kI at e
  injection e with _ e
  omega
theorem IntMap.empty (n : Nat) : IntMap n (.map []) := ⟨[], rfl, List.Pairwise.nil, fun p h => by cases h⟩
theorem IntMap.isMap {n : Nat} {D : Dt} (h : IntMap n D) : IsMap D := let ⟨es, e, _⟩ := h; ⟨es, e⟩
theorem IntMap.put {n : Nat} {D : Dt} (h : IntMap n D) {i : Nat} (hi : i < n) (d : Dt) : IntMap n (D.put (kI i) d) := by
  obtain ⟨es, rfl, hp, hk⟩ := h
  obtain ⟨es', e, hp'⟩ := (show Tidy (.map es : Dt) from ⟨es, rfl, hp⟩).put (kI_key i) d
  refine ⟨es', e, hp', fun p hq => ?_⟩
  have e' : es' = DataW.insert (kI i, d) (es.filter fun p => !p.1.sameKey (kI i)) := by
    have : DataW.map es' = DataW.map (DataW.insert (kI i, d) (es.filter fun p => !p.1.sameKey (kI i))) := e.symm
    injection this
  rw [e'] at hq
  rcases mem_insert _ _ _ hq with rfl | hq
  · exact ⟨i, rfl, hi⟩
  · exact hk p (List.mem_filter.1 hq).1
theorem IntMap.del {n : Nat} {D : Dt} (h : IntMap n D) (k : Lit) : IntMap n (D.del k) := by
  obtain ⟨es, rfl, hp, hk⟩ := h
  exact ⟨_, rfl, hp.filter _, fun p hq => hk p (List.mem_filter.1 hq).1⟩
theorem IntMap.has_lt {n : Nat} {D : Dt} (h : IntMap n D) {z : Int} (hz : has D (kI z) = true) : ∃ i : Nat, z = i ∧ i < n := by
  obtain ⟨es, rfl, hp, hk⟩ := h
  rw [has_eq, List.any_eq_true] at hz
  obtain ⟨p, hp', hs⟩ := hz
  obtain ⟨i, e, hi⟩ := hk p hp'
  rw [e] at hs
  refine ⟨i, ?_, hi⟩
  simp [kI, Lit.sameKey] at hs
  omega

/-- the places of those of a list that f takes, counted from j on -/
def placesFrom {α : Type} (f : α → Bool) : List α → Nat → List Int
  | [], _ => []
  | x :: r, j => if f x then (j : Int) :: placesFrom f r (j + 1) else placesFrom f r (j + 1)
theorem mem_places {α : Type} (f : α → Bool) : ∀ (l : List α) (j : Nat) (z : Int), z ∈ placesFrom f l j ↔ ∃ i x, l[i]? = some x ∧ f x = true ∧ z = ((j + i : Nat) : Int)
  | [], j, z => by simp [placesFrom]
  | x :: r, j, z => by
    have ih := mem_places f r (j + 1) z
    rw [placesFrom]
    constructor
    · intro h
      split at h
      · rename_i hx
        rcases List.mem_cons.1 h with rfl | h
        · exact ⟨0, x, rfl, hx, rfl⟩
        · obtain ⟨i, y, h1, h2, h3⟩ := ih.1 h
          exact ⟨i + 1, y, h1, h2, by rw [h3]; omega⟩
      · obtain ⟨i, y, h1, h2, h3⟩ := ih.1 h
        exact ⟨i + 1, y, h1, h2, by rw [h3]; omega⟩
    · rintro ⟨i, y, h1, h2, h3⟩
      cases i with
      | zero =>
        obtain rfl : x = y := by simpa using h1
        rw [if_pos h2, h3]
        exact List.mem_cons_self ..
      | succ i =>
        have : z ∈ placesFrom f r (j + 1) := ih.2 ⟨i, y, by simpa using h1, h2, by rw [h3]; omega⟩
        split
        · exact List.mem_cons_of_mem _ this
        · exact this
theorem places_sorted {α : Type} (f : α → Bool) : ∀ (l : List α) (j : Nat), (placesFrom f l j).Pairwise (fun a b => a < b)
  | [], _ => List.Pairwise.nil
  | x :: r, j => by
    have ih := places_sorted f r (j + 1)
    rw [placesFrom]
    split
    · refine List.pairwise_cons.2 ⟨fun z hz => ?_, ih⟩
      obtain ⟨i, y, _, _, rfl⟩ := (mem_places f r (j + 1) z).1 hz
      omega
    · exact ih

/-- sector i of a disk -/
def secOf (S : St) (i : Nat) : Sec := ⟨S.bl.getD i [], if has S.pend (kI i) then pendB S.pend i else [], has S.pend (kI i), has S.worn (kI i)⟩
def absS (S : St) : List Sec := (List.range S.bl.length).map (secOf S)
theorem absS_length (S : St) : (absS S).length = S.bl.length := by simp [absS]
theorem absS_at {S : St} {i : Nat} (h : i < S.bl.length) : (absS S)[i]? = some (secOf S i) := by simp [absS, h]
theorem absS_get {S : St} {i : Nat} (h : i < (absS S).length) : (absS S)[i] = secOf S i := by simp [absS]
theorem abs_set {S S' : St} (hl : S'.bl.length = S.bl.length) {i : Nat} (h : ∀ j, j ≠ i → secOf S' j = secOf S j) : absS S' = (absS S).set i (secOf S' i) := by
  apply List.ext_getElem
  · simp [absS, hl]
  · intro j h1 h2
    rw [List.getElem_set, absS_get, absS_get]
    split
    · rename_i e; rw [e]
    · rename_i e; exact h j (fun e' => e e'.symm)

/-- the places of a map's keys are those of the sectors that have one -/
theorem keys_places {n : Nat} {D : Dt} (hD : IntMap n D) {l : List Sec} {f : Sec → Bool} (hl : l.length = n) (hf : ∀ (i : Nat) (x : Sec), l[i]? = some x → f x = has D (kI i)) : keysOf D = placesFrom f l 0 := by
  obtain ⟨es, rfl, hp, hk⟩ := id hD
  have hm : ∀ x : Int, x ∈ placesFrom f l 0 ↔ has (.map es : Dt) (.int .i64 x) = true := by
    intro z
    rw [mem_places]
    constructor
    · rintro ⟨i, x, h1, h2, rfl⟩
      have := hf i x h1
      rw [h2] at this
      rw [Nat.zero_add]
      exact this.symm
    · intro h
      obtain ⟨i, rfl, hi⟩ := hD.has_lt h
      refine ⟨i, l[i]'(by omega), List.getElem?_eq_getElem (by omega), ?_, by omega⟩
      rw [hf i _ (List.getElem?_eq_getElem (by omega))]
      exact h
  have hs := places_sorted f l 0
  have hnd : (placesFrom f l 0).Nodup := hs.imp fun {a b} h => by omega
  have hperm := perm_intKeys (H := Unit) hp (fun p hp' => by
    obtain ⟨z, e, _⟩ := hk p hp'
    exact ⟨z, e⟩) hnd hm
  show (intKeys (.map es)).mergeSort leI = _
  rw [← mergeSort_of_perm_i hperm]
  exact List.mergeSort_of_pairwise (hs.imp fun {a b} h => by simp only [leI, decide_eq_true_eq]; omega)

/-- the disk S is as specified by T -/
structure Sim (S : St) (T : RSt) : Prop where
  s : T.s = absS S
  off : T.off = S.off
  left : T.left = max (-1) S.left
  p : IntMap S.bl.length S.pend
  w : IntMap S.bl.length S.worn
  wt : ∀ i : Nat, wornB S i = has S.worn (kI i)
  t64 : ∀ b ∈ S.bl, b.length = 64
  n64 : ∀ i : Nat, has S.pend (kI i) = true → (pendB S.pend i).length = 64
  n1 : 1 ≤ S.bl.length
theorem Sim.len {S : St} {T : RSt} (h : Sim S T) : T.s.length = S.bl.length := by rw [h.s, absS_length]
theorem Sim.pend {S : St} {T : RSt} (h : Sim S T) : keysOf S.pend = placesFrom (·.dirty) T.s 0 :=
  keys_places h.p h.len fun i x hx => by
    have hi := (List.getElem?_eq_some_iff.1 hx).1
    rw [h.len] at hi
    rw [h.s, absS_at hi] at hx
    injection hx with hx
    rw [← hx]; rfl
theorem Sim.worn {S : St} {T : RSt} (h : Sim S T) : keysOf S.worn = placesFrom (·.worn) T.s 0 :=
  keys_places h.w h.len fun i x hx => by
    have hi := (List.getElem?_eq_some_iff.1 hx).1
    rw [h.len] at hi
    rw [h.s, absS_at hi] at hx
    injection hx with hx
    rw [← hx]; rfl
theorem Sim.texts {S : St} {T : RSt} (h : Sim S T) : S.bl = T.s.map (·.text) := by
  rw [h.s, absS, List.map_map]
  apply List.ext_getElem
  · simp
  · intro i h1 h2
    simp [secOf, h1]
theorem Sim.pendOK {S : St} {T : RSt} (h : Sim S T) : PendOK S := by
  intro z hz
  rw [h.pend, mem_places] at hz
  obtain ⟨i, x, h1, _, rfl⟩ := hz
  have := (List.getElem?_eq_some_iff.1 h1).1
  rw [h.len] at this
  omega
theorem Sim.sec64 {S : St} {T : RSt} (h : Sim S T) : ∀ x ∈ T.s, x.text.length = 64 ∧ (x.dirty = true → x.next.length = 64) := by
  intro x hx
  rw [h.s, absS] at hx
  obtain ⟨i, hi, rfl⟩ := List.mem_map.1 hx
  have hi : i < S.bl.length := by simpa using hi
  refine ⟨?_, fun hd => ?_⟩
  · show (S.bl.getD i []).length = 64
    rw [List.getD_eq_getElem?_getD, List.getElem?_eq_getElem hi, Option.getD_some]
    exact h.t64 _ (List.getElem_mem hi)
  · have hd : has S.pend (kI i) = true := hd
    show (if has S.pend (kI i) then pendB S.pend i else []).length = 64
    rw [hd, if_pos rfl]
    exact h.n64 i hd
theorem Sim.at_ {S : St} {T : RSt} (h : Sim S T) {i : Nat} (hi : i < S.bl.length) : T.s[i]? = some (secOf S i) := by rw [h.s, absS_at hi]

/-! the reference's operations -/
def rIs (T : RSt) (i : Int) : Bool := decide (0 ≤ i ∧ i < T.s.length)
def zs : Sec := ⟨[], [], false, false⟩
def rStepE (T : RSt) : Int := if T.left = 0 then 24 else 0
def rStepS (T : RSt) : RSt := if T.left = 0 then { T with off := true } else if 0 < T.left then { T with left := T.left - 1 } else T
def rReadE (T : RSt) (i : Int) : Int := if T.off then 24 else if rIs T i then 0 else 1
def rReadB (T : RSt) (i : Int) : Bs := if rReadE T i ≠ 0 then [] else if (T.s.getD i.toNat zs).dirty then (T.s.getD i.toNat zs).next else (T.s.getD i.toNat zs).text
def rWriteE (T : RSt) (i : Int) (b : Bs) : Int := if T.off then 24 else if !rIs T i || decide (b.length ≠ 64) then 1 else rStepE T
def rWriteS (T : RSt) (i : Int) (b : Bs) : RSt := if T.off ∨ (!rIs T i || decide (b.length ≠ 64)) = true then T else if rStepE T ≠ 0 then rStepS T else { rStepS T with s := T.s.set i.toNat { T.s.getD i.toNat zs with next := b, dirty := true } }
def settleX (x : Sec) (p : Int) : Sec := { text := if x.worn then x.text else tornB x.next x.text (pq p), next := [], dirty := false, worn := x.worn }
def mountL (pf : Nat → Int) : List Sec → Nat → List Sec
  | [], _ => []
  | x :: r, k => if x.dirty then settleX x (pf k) :: mountL pf r (k + 1) else x :: mountL pf r k
def rFlushE (T : RSt) : Int := if T.off then 24 else rStepE T
def rFlushS (T : RSt) : RSt := if T.off then T else if rStepE T ≠ 0 then rStepS T else { rStepS T with s := mountL (fun _ => 64) T.s 0 }
def rMountS (T : RSt) (ps : List Int) : RSt := { T with s := mountL (pickF ps) T.s 0, off := false, left := -1 }
def rRotOK (T : RSt) (i bit : Int) : Bool := rIs T i && decide (0 ≤ bit ∧ bit < 512)
def rRotE (T : RSt) (i bit : Int) : Int := if rRotOK T i bit then 0 else 1
def rRotS (T : RSt) (i bit : Int) : RSt := if rRotOK T i bit then { T with s := T.s.set i.toNat { T.s.getD i.toNat zs with text := flipB (T.s.getD i.toNat zs).text bit.toNat } } else T
def rWearE (T : RSt) (i : Int) : Int := if rIs T i then 0 else 1
def rWearS (T : RSt) (i : Int) : RSt := if rIs T i then { T with s := T.s.set i.toNat { T.s.getD i.toNat zs with worn := true } } else T
def rTripS (T : RSt) (n : Int) : RSt := { T with left := max (-1) n }

/-! one settled -/
theorem getD_lt {b : Bs} {l : List Bs} {i : Nat} (h : i < l.length) : (l.set i b).getD i [] = b := by
  rw [List.getD_eq_getElem?_getD, List.getElem?_set_self h]; rfl
theorem getD_ne {b : Bs} {l : List Bs} {i j : Nat} (h : j ≠ i) : (l.set i b).getD j [] = l.getD j [] := by
  rw [List.getD_eq_getElem?_getD, List.getD_eq_getElem?_getD, List.getElem?_set_ne (Ne.symm h)]
theorem pendB_del_ne (D : Dt) {i j : Nat} (h : j ≠ i) : pendB (D.del (kI i)) j = pendB D j := by
  unfold pendB
  rw [atKey_del_other (kI_ne h)]
theorem settle_parts (S : St) (i : Nat) (p : Int) : (settleS S i p).pend = S.pend.del (kI i) ∧ (settleS S i p).worn = S.worn ∧ (settleS S i p).off = S.off ∧ (settleS S i p).left = S.left ∧
    (settleS S i p).bl = if wornB S i then S.bl else S.bl.set i (tornB (pendB S.pend i) (S.bl.getD i []) (pq p)) := by
  unfold settleS
  split
  · exact ⟨rfl, rfl, rfl, rfl, rfl⟩
  · exact ⟨rfl, rfl, rfl, rfl, rfl⟩
theorem Sim.settle {S : St} {T : RSt} (h : Sim S T) {i : Nat} (hi : i < S.bl.length) (hd : has S.pend (kI i) = true) (p : Int) : Sim (settleS S i p) { T with s := T.s.set i (settleX (secOf S i) p) } := by
  obtain ⟨e1, e2, e3, e4, e5⟩ := settle_parts S i p
  have hl : (settleS S i p).bl.length = S.bl.length := settleS_len S i p
  have hb64 : (S.bl.getD i []).length = 64 := by
    rw [List.getD_eq_getElem?_getD, List.getElem?_eq_getElem hi, Option.getD_some]; exact h.t64 _ (List.getElem_mem hi)
  refine ⟨?_, h.off.trans e3.symm, h.left.trans (by rw [e4]), ?_, ?_, ?_, ?_, ?_, by rw [hl]; exact h.n1⟩
  · show T.s.set i _ = _
    rw [abs_set (S := S) hl (i := i) ?_, h.s]
    · congr 1
      unfold secOf settleX
      simp only [e1, e2, e5, has_del_same, hd, h.wt]
      cases has S.worn (kI ↑i)
      · simp only [Bool.false_eq_true, if_false, if_true]
        rw [getD_lt hi]
      · simp only [if_true, Bool.false_eq_true, if_false]
    · intro j hj
      unfold secOf
      simp only [e1, e2, e5, has_del_other (kI_ne hj), pendB_del_ne _ hj]
      congr 1
      split
      · rfl
      · exact getD_ne hj
  · rw [hl, e1]; exact h.p.del _
  · rw [hl, e2]; exact h.w
  · intro j
    have : wornB (settleS S i p) j = wornB S j := by unfold wornB; rw [e2]
    rw [this, e2]; exact h.wt j
  · intro b hb
    rw [e5] at hb
    split at hb
    · exact h.t64 b hb
    · rcases List.mem_or_eq_of_mem_set hb with hb | rfl
      · exact h.t64 b hb
      · exact torn_length (h.n64 i hd) hb64 (pq_le p)
  · intro j hj
    rw [e1] at hj ⊢
    by_cases e : j = i
    · rw [e, has_del_same] at hj; cases hj
    · rw [pendB_del_ne _ e]
      rw [has_del_other (kI_ne e)] at hj
      exact h.n64 j hj

def settleL (pf : Nat → Int) : St → List Int → Nat → St
  | S, [], _ => S
  | S, z :: r, k => settleL pf (settleS S z.toNat (pf k)) r (k + 1)
theorem settleL_snoc (pf : Nat → Int) (z : Int) : ∀ (l : List Int) (S : St) (k : Nat), settleL pf S (l ++ [z]) k = settleS (settleL pf S l k) z.toNat (pf (k + l.length))
  | [], S, k => rfl
  | y :: r, S, k => by
    rw [List.cons_append, settleL, settleL_snoc pf z r, settleL, List.length_cons, show k + 1 + r.length = k + (r.length + 1) by omega]
theorem settleK_L (S : St) (ks : List Int) (pf : Nat → Int) : ∀ m, m ≤ ks.length → settleK S ks pf m = settleL pf S (ks.take m) 0
  | 0, _ => by rw [List.take_zero]; rfl
  | m + 1, h => by
    rw [settleK, settleK_L S ks pf m (by omega), List.take_succ_eq_append_getElem (by omega), settleL_snoc, List.length_take, Nat.zero_add, Nat.min_eq_left (by omega), List.getD_eq_getElem?_getD, List.getElem?_eq_getElem (by omega), Option.getD_some]
theorem Sim.settleL (pf : Nat → Int) : ∀ (suf pre : List Sec) (k : Nat) {S : St} {T : RSt}, Sim S T → T.s = pre ++ suf → Sim (settleL pf S (placesFrom (·.dirty) suf pre.length) k) { T with s := pre ++ mountL pf suf k }
  | [], pre, k, S, T, h, e => by
    rw [placesFrom, mountL, Dk.settleL, ← e]
    exact h
  | x :: r, pre, k, S, T, h, e => by
    have hlen := h.len
    have hi : pre.length < S.bl.length := by rw [← hlen, e, List.length_append, List.length_cons]; omega
    have hx : x = secOf S pre.length := by
      have := h.at_ hi
      rw [e, List.getElem?_append_right (Nat.le_refl _), Nat.sub_self] at this
      simpa using this
    rw [placesFrom, mountL]
    by_cases hd : x.dirty = true
    · rw [if_pos hd, if_pos hd, Dk.settleL]
      have hd' : has S.pend (kI pre.length) = true := by rw [hx] at hd; exact hd
      have h2 := h.settle hi hd' (pf k)
      have e2 : ({ T with s := T.s.set pre.length (settleX (secOf S pre.length) (pf k)) } : RSt).s = (pre ++ [settleX x (pf k)]) ++ r := by
        show T.s.set _ _ = _
        rw [e, ← hx, List.set_append_right _ _ (Nat.le_refl _), Nat.sub_self, List.set_cons_zero, List.append_assoc]; rfl
      have h3 := Sim.settleL pf r _ (k + 1) h2 e2
      rw [List.length_append, List.length_singleton, List.append_assoc] at h3
      exact h3
    · rw [if_neg hd, if_neg hd]
      have e2 : T.s = (pre ++ [x]) ++ r := by rw [e, List.append_assoc]; rfl
      have h3 := Sim.settleL pf r _ k h e2
      rw [List.length_append, List.length_singleton, List.append_assoc] at h3
      exact h3
theorem Sim.settleAll {S : St} {T : RSt} (h : Sim S T) (pf : Nat → Int) : Sim (settleK S (keysOf S.pend) pf (keysOf S.pend).length) { T with s := mountL pf T.s 0 } := by
  rw [settleK_L _ _ _ _ (Nat.le_refl _), List.take_length, h.pend]
  exact Sim.settleL pf T.s [] 0 h rfl

/-! the operations -/
theorem Sim.step {S : St} {T : RSt} (h : Sim S T) : Sim (stepS S) (rStepS T) ∧ stepE S = rStepE T ∧ (rStepS T).s = T.s := by
  have hl := h.left
  by_cases h0 : S.left = 0
  · have q1 : stepE S = 24 := by rw [stepE, if_pos h0]
    have q2 : stepS S = { S with off := true } := by rw [stepS, if_pos h0]
    have q3 : rStepE T = 24 := by rw [rStepE, if_pos (by omega)]
    have q4 : rStepS T = { T with off := true } := by rw [rStepS, if_pos (by omega)]
    rw [q1, q2, q3, q4]
    exact ⟨⟨h.s, rfl, h.left, h.p, h.w, h.wt, h.t64, h.n64, h.n1⟩, rfl, rfl⟩
  · have q1 : stepE S = 0 := by rw [stepE, if_neg h0]
    have q3 : rStepE T = 0 := by rw [rStepE, if_neg (by omega)]
    rw [q1, q3]
    by_cases hp : 0 < S.left
    · have q2 : stepS S = { S with left := S.left - 1 } := by rw [stepS, if_neg h0, if_pos hp]
      have q4 : rStepS T = { T with left := T.left - 1 } := by rw [rStepS, if_neg (by omega), if_pos (by omega)]
      rw [q2, q4]
      exact ⟨⟨h.s, h.off, (by show T.left - 1 = max (-1) (S.left - 1); omega), h.p, h.w, h.wt, h.t64, h.n64, h.n1⟩, rfl, rfl⟩
    · have q2 : stepS S = S := by rw [stepS, if_neg h0, if_neg hp]
      have q4 : rStepS T = T := by rw [rStepS, if_neg (by omega), if_neg (by omega)]
      rw [q2, q4]
      exact ⟨h, rfl, rfl⟩
theorem Sim.check {S : St} {T : RSt} (h : Sim S T) (i : Int) : checkE S i = rReadE T i := by
  unfold checkE rReadE rIs
  rw [h.off, h.len]
  split
  · rfl
  · by_cases e : 0 ≤ i ∧ i < (S.bl.length : Int)
    · rw [if_pos e, if_pos (by simpa using e)]
    · rw [if_neg e, if_neg (by simpa using e)]
theorem Sim.is {S : St} {T : RSt} (h : Sim S T) (i : Int) : isB S i = rIs T i := by unfold isB rIs; rw [h.len]
theorem Sim.getD {S : St} {T : RSt} (h : Sim S T) {i : Nat} (hi : i < S.bl.length) : T.s.getD i zs = secOf S i := by
  rw [List.getD_eq_getElem?_getD, h.at_ hi]; rfl
theorem is_range {T : RSt} {i : Int} (h : rIs T i = true) : 0 ≤ i ∧ i < T.s.length := by simpa [rIs] using h
theorem Sim.readE {S : St} {T : RSt} (h : Sim S T) (i : Int) : readB S i = rReadB T i := by
  unfold readB rReadB
  rw [h.check]
  by_cases e : rReadE T i ≠ 0
  · rw [if_pos e, if_pos e]
  · rw [if_neg e, if_neg e]
    have e0 : rReadE T i = 0 := by omega
    have hi : 0 ≤ i ∧ i < T.s.length := by
      unfold rReadE at e0
      split at e0
      · cases e0
      · split at e0
        · rename_i h; exact is_range h
        · cases e0
    rw [h.len] at hi
    obtain ⟨m, rfl⟩ : ∃ m : Nat, i = m := ⟨i.toNat, by omega⟩
    rw [Int.toNat_natCast, h.getD (by omega)]
    unfold secOf
    simp only
    cases has S.pend (kI ↑m) <;> simp
theorem Sim.writeE {S : St} {T : RSt} (h : Sim S T) (i : Int) (b : Bs) : writeE S i b = rWriteE T i b := by
  unfold Dk.writeE rWriteE
  rw [h.check, h.step.2.1]
  unfold rReadE
  cases T.off
  · cases rIs T i <;> simp
  · simp
theorem writeS_eq (S : St) (i : Int) (b : Bs) (h0 : checkE S i = 0) (hb : b.length = 64) (hE : stepE S = 0) : writeS S i b = { stepS S with pend := (stepS S).pend.put (kI i) (.lit (.string b)) } := by
  unfold writeS
  rw [if_neg (by simp [h0, hb]), if_neg (by simp [hE])]
theorem pendB_put_same {D : Dt} (hD : IsMap D) (i : Int) (b : Bs) : pendB (D.put (kI i) (.lit (.string b))) i = b := by
  unfold pendB
  rw [atKey_put_same hD (kI_key i)]
theorem pendB_put_ne (D : Dt) {i j : Nat} (h : j ≠ i) (d : Dt) : pendB (D.put (kI i) d) j = pendB D j := by
  unfold pendB
  rw [atKey_put_other (kI_ne h)]
theorem Sim.write {S : St} {T : RSt} (h : Sim S T) (i : Int) (b : Bs) : Sim (writeS S i b) (rWriteS T i b) := by
  obtain ⟨hs, hE, hsT⟩ := h.step
  have hc := h.check i
  by_cases h1 : checkE S i ≠ 0 ∨ b.length ≠ 64
  · have e1 : writeS S i b = S := by unfold writeS; rw [if_pos h1]
    have e2 : rWriteS T i b = T := by
      unfold rWriteS
      rw [if_pos]
      rcases h1 with h1 | h1
      · rw [hc] at h1
        unfold rReadE at h1
        cases ho : T.off
        · rw [ho] at h1
          cases hi : rIs T i
          · simp
          · rw [hi] at h1; simp at h1
        · simp
      · right; simp [h1]
    rw [e1, e2]; exact h
  · have hc0 : checkE S i = 0 := by omega
    have hb : b.length = 64 := by omega
    rw [hc] at hc0
    have hio : T.off = false ∧ rIs T i = true := by
      unfold rReadE at hc0
      cases ho : T.off <;> cases hi : rIs T i <;> simp [ho, hi] at hc0 ⊢
    have e2 : rWriteS T i b = if rStepE T ≠ 0 then rStepS T else { rStepS T with s := T.s.set i.toNat { T.s.getD i.toNat zs with next := b, dirty := true } } := by
      unfold rWriteS
      rw [if_neg (by simp [hio.1, hio.2, hb])]
    by_cases hE0 : stepE S = 0
    · rw [writeS_eq S i b (by rw [hc, hc0]) hb hE0, e2, if_neg (by rw [← hE, hE0]; simp)]
      have hi := is_range hio.2
      rw [h.len] at hi
      obtain ⟨m, rfl⟩ : ∃ m : Nat, i = m := ⟨i.toNat, by omega⟩
      have hm : m < S.bl.length := by omega
      rw [Int.toNat_natCast, h.getD hm]
      obtain ⟨l1, l2, l3⟩ := step_len S
      have hm2 : m < (stepS S).bl.length := by omega
      have hab : absS (stepS S) = absS S := by rw [← hs.s, hsT, h.s]
      refine ⟨?_, hs.off, hs.left, hs.p.put hm2 _, hs.w, hs.wt, hs.t64, ?_, hs.n1⟩
      · show T.s.set m _ = _
        refine Eq.trans ?_ (abs_set (S := stepS S) (S' := { stepS S with pend := (stepS S).pend.put (kI m) (.lit (.string b)) }) (i := m) rfl ?_).symm
        · rw [hab, h.s]
          congr 1
          have e : secOf S m = secOf (stepS S) m := by
            have q1 := absS_at (S := S) hm
            have q2 := absS_at (S := stepS S) hm2
            rw [hab, q1] at q2
            injection q2
          rw [e]
          unfold secOf
          simp only [has_put_same hs.p.isMap (kI_key _), pendB_put_same hs.p.isMap, if_true]
        · intro j hj
          unfold secOf
          simp only [has_put_other (kI_ne hj), pendB_put_ne _ hj]
      · intro j hj
        show (pendB ((stepS S).pend.put (kI m) _) j).length = 64
        by_cases e : j = m
        · rw [e, pendB_put_same hs.p.isMap]; exact hb
        · rw [pendB_put_ne _ e]
          have hj : has ((stepS S).pend.put (kI m) (.lit (.string b))) (kI j) = true := hj
          rw [has_put_other (kI_ne e)] at hj
          exact hs.n64 j hj
    · have e1 : writeS S i b = stepS S := by unfold writeS; rw [if_neg (by simp [hc, hc0, hb]), if_pos hE0]
      rw [e1, e2, if_pos (by rw [← hE]; exact hE0)]
      exact hs
theorem Sim.check0 {S : St} {T : RSt} (h : Sim S T) : checkE S 0 = if T.off then 24 else 0 := by
  rw [h.check]
  unfold rReadE
  have : rIs T 0 = true := by
    unfold rIs
    rw [h.len]
    have := h.n1
    simp
    omega
  rw [this]; rfl
theorem Sim.flushE {S : St} {T : RSt} (h : Sim S T) : flushE S = rFlushE T := by
  unfold Dk.flushE rFlushE
  rw [h.check0, h.step.2.1]
  cases T.off <;> simp
theorem Sim.flush {S : St} {T : RSt} (h : Sim S T) : Sim (flushS S) (rFlushS T) := by
  obtain ⟨hs, hE, hsT⟩ := h.step
  unfold flushS rFlushS
  rw [h.check0, hE]
  cases T.off
  · simp only [Bool.false_eq_true, if_false]
    rw [if_neg (by simp)]
    split
    · exact hs
    · have := hs.settleAll (fun _ => 64)
      rw [hsT] at this
      exact this
  · simp only [if_true]
    rw [if_pos (by simp)]
    exact h
theorem Sim.mount {S : St} {T : RSt} (h : Sim S T) (ps : List Int) : Sim (mountS S ps) (rMountS T ps) := by
  have := h.settleAll (pickF ps)
  exact ⟨this.s, rfl, rfl, this.p, this.w, this.wt, this.t64, this.n64, this.n1⟩
theorem Sim.rotE {S : St} {T : RSt} (h : Sim S T) (i bit : Int) : rotE S i bit = rRotE T i bit := by
  unfold Dk.rotE rRotE rotOK rRotOK
  rw [h.is]
theorem flip_length (b : Bs) (m : Nat) : (flipB b m).length = b.length := List.length_set
theorem Sim.rot {S : St} {T : RSt} (h : Sim S T) (i bit : Int) : Sim (rotS S i bit) (rRotS T i bit) := by
  unfold rotS rRotS rotOK rRotOK
  rw [h.is]
  cases hr : rIs T i && decide (0 ≤ bit ∧ bit < 512)
  · exact h
  · simp only [if_true]
    have hi : rIs T i = true := (Bool.and_eq_true_iff.1 hr).1
    have hi := is_range hi
    rw [h.len] at hi
    obtain ⟨m, rfl⟩ : ∃ m : Nat, i = m := ⟨i.toNat, by omega⟩
    have hm : m < S.bl.length := by omega
    rw [Int.toNat_natCast, h.getD hm]
    have hb64 : (S.bl.getD m []).length = 64 := by
      rw [List.getD_eq_getElem?_getD, List.getElem?_eq_getElem hm, Option.getD_some]; exact h.t64 _ (List.getElem_mem hm)
    have hl : ({ S with bl := S.bl.set m (flipB (S.bl.getD m []) bit.toNat) } : St).bl.length = S.bl.length := List.length_set
    refine ⟨?_, h.off, h.left, by rw [hl]; exact h.p, by rw [hl]; exact h.w, h.wt, ?_, h.n64, by rw [hl]; exact h.n1⟩
    · show T.s.set m _ = _
      refine Eq.trans ?_ (abs_set (S := S) (i := m) hl ?_).symm
      · rw [h.s]
        congr 1
        unfold secOf
        simp only [getD_lt hm]
      · intro j hj
        unfold secOf
        simp only [getD_ne hj]
    · intro b hb
      rcases List.mem_or_eq_of_mem_set hb with hb | rfl
      · exact h.t64 b hb
      · rw [flip_length]; exact hb64
theorem Sim.wearE {S : St} {T : RSt} (h : Sim S T) (i : Int) : wearE S i = rWearE T i := by
  unfold Dk.wearE rWearE
  rw [h.is]
theorem Sim.wear {S : St} {T : RSt} (h : Sim S T) (i : Int) : Sim (wearS S i) (rWearS T i) := by
  unfold wearS rWearS
  rw [h.is]
  cases hr : rIs T i
  · exact h
  · simp only [if_true]
    have hi := is_range hr
    rw [h.len] at hi
    obtain ⟨m, rfl⟩ : ∃ m : Nat, i = m := ⟨i.toNat, by omega⟩
    have hm : m < S.bl.length := by omega
    rw [Int.toNat_natCast, h.getD hm]
    refine ⟨?_, h.off, h.left, h.p, h.w.put hm _, ?_, h.t64, h.n64, h.n1⟩
    · show T.s.set m _ = _
      refine Eq.trans ?_ (abs_set (S := S) (S' := { S with worn := S.worn.put (kI m) (.lit (.bool true)) }) (i := m) rfl ?_).symm
      · rw [h.s]
        congr 1
        unfold secOf
        simp only [has_put_same h.w.isMap (kI_key _)]
      · intro j hj
        unfold secOf
        simp only [has_put_other (kI_ne hj)]
    · intro j
      by_cases e : j = m
      · subst e
        show (match (S.worn.put (kI j) (.lit (.bool true))).atKey (kI j) (.lit (.bool false)) with | .lit (.bool b) => b | _ => false) = has (S.worn.put (kI j) _) (kI j)
        rw [has_put_same h.w.isMap (kI_key _), atKey_put_same h.w.isMap (kI_key _)]
      · show (match (S.worn.put (kI m) (.lit (.bool true))).atKey (kI j) (.lit (.bool false)) with | .lit (.bool b) => b | _ => false) = has (S.worn.put (kI m) _) (kI j)
        rw [has_put_other (kI_ne e), atKey_put_other (kI_ne e)]
        exact h.wt j
theorem Sim.trip {S : St} {T : RSt} (h : Sim S T) (n : Int) : Sim { S with left := n } (rTripS T n) := ⟨h.s, h.off, rfl, h.p, h.w, h.wt, h.t64, h.n64, h.n1⟩
theorem sim_new (n cap : Nat) (ext : List Value) (hn : 1 ≤ n) : Sim (newS n) (newR n cap ext) := by
  have hl : (newS n).bl.length = n := List.length_replicate
  refine ⟨?_, rfl, rfl, IntMap.empty _, IntMap.empty _, fun i => rfl, fun b hb => ?_, fun i hi => (by cases hi), (by rw [hl]; exact hn)⟩
  · show List.replicate n zSec = _
    apply List.ext_getElem
    · rw [absS_length, hl, List.length_replicate]
    · intro i h1 h2
      rw [List.getElem_replicate, absS_get]
      rw [List.length_replicate] at h1
      show zSec = ⟨(List.replicate n zeroBs).getD i [], _, _, _⟩
      rw [List.getD_eq_getElem?_getD, List.getElem?_replicate, if_pos h1]
      rfl
  · rw [List.eq_of_mem_replicate hb]; rfl
end Go.Proofs.YtddpjahoeldleaaGreatDoor.Dk
