/- Maps of strings, and of slices of strings; the worklist: plain law. -/
import Derived.Test.YtflfachkoffiiaaRefFine
import Derived.Maps.Own
import Derived.Maps.Views
import Derived.StringKeys
namespace Go.Proofs.Ytflfachkoffiiaa
open Go.RowKit Go.Maps

abbrev Dt := DataW Unit
theorem law9 : Keyed Try.prog 9 := string_keyed Try.underlying9
theorem key_s {s : ByteArray} (hs : s.size ≤ 9223372036854775807) : keyOf Try.prog 9 (.string s) = some (.string s.data.toList) := WideMaps.keyOf_string_mk Try.underlying9 (by unfold maxLen; omega)
theorem kS_key (k : Bs) : WideAt.IsKeyLit (.string k) := trivial
theorem own_isMap {w : World} {k : TypeId} {R : Value → Option (Dt × List MemPlace)} {b n : Nat} {D : Dt} (h : w.ownsMap Try.prog k R b n D) : IsMap D := by
  obtain ⟨_, _, _, _, _, rfl⟩ := h; exact ⟨_, rfl⟩
theorem zero4 (w : World) : (zeroValue 4).run Try.prog w = .ok (.bool false) w := by kernel_rfl
theorem zero34 (w : World) : (zeroValue 34).run Try.prog w = .ok (.slice none 0 0) w := by kernel_rfl
theorem plainElem_bool_inv {P : Program} {e : TypeId} (he : P.underlying e = some .bool) {v : Value} {z : Dt × List MemPlace} (h : plainElem P e v = some z) : ∃ a, v = .bool a ∧ z = (.lit (.bool a), []) := by
  unfold plainElem at h
  rw [he] at h
  cases v <;> simp at h
  exact ⟨_, rfl, h.symm⟩
/-- block F is the map of the strings in fs -/
def Set_ (w : World) (F n : Nat) (fs : List Bs) : Prop := ∃ D : Dt, w.ownsMap Try.prog 9 (plainElem Try.prog 4) F n D ∧ ∀ k, D.atKey (.string k) (.lit (.bool false)) = .lit (.bool (fs.contains k))
theorem Set_.look {w : World} {F n : Nat} {fs : List Bs} (h : Set_ w F n fs) {s : ByteArray} (hs : s.size ≤ 9223372036854775807) :
    (Instr.lookup 63 (.map (some F)) (.string s) false).run Try.prog w = .ok (.bool (fs.contains s.data.toList)) w := by
  obtain ⟨D, ho, hD⟩ := h
  obtain ⟨v, ps, hr, hv⟩ := ho.lookup law9 Try.underlying63 (zero4 w) (plainElem_bool Try.underlying4 false) (key_s hs)
  obtain ⟨b, rfl, hd⟩ := plainElem_bool_inv Try.underlying4 hv
  rw [hD] at hd
  injection hd with hd _
  injection hd with hd
  injection hd with hd
  rw [hd]; exact hr
theorem Set_.kept {w w' : World} {F n : Nat} {fs : List Bs} {row : Option Nat} (h : Set_ w F n fs) (hg : w.grownBy w' row) (hne : some F ≠ row) : Set_ w' F n fs := by
  obtain ⟨D, ho, hD⟩ := h; exact ⟨D, ho.kept hg hne, hD⟩
theorem Set_.below {w w' : World} {F n : Nat} {fs : List Bs} (h : Set_ w F n fs) (hb : Below w.heap.size w w') : Set_ w' F n fs :=
  h.kept (row := none) ⟨hb.os, hb.tape, hb.output, hb.size, fun i hi _ => hb.block i hi⟩ (by simp)
theorem set_put {D : Dt} {fs : List Bs} {k : Bs} (hm : IsMap D) (h : ∀ k, D.atKey (.string k) (.lit (.bool false)) = .lit (.bool (fs.contains k))) (x : Bs) : (D.put (.string k) (.lit (.bool true))).atKey (.string x) (.lit (.bool false)) = .lit (.bool ((k :: fs).contains x)) := by
  by_cases e : x = k
  · subst e
    rw [atKey_put_same hm (kS_key x), List.contains_iff_mem.2 List.mem_cons_self]
  · rw [atKey_put_other (fun h => e (by injection h)), h, List.contains_cons]
    have : (x == k) = false := beq_eq_false_iff_ne.2 e
    rw [this, Bool.false_or]

/-- how a slice's header reads -/
def hdrR : Value → Option (Dt × List MemPlace)
  | .slice none 0 0 => some (.nil, [])
  | .slice (some ⟨g, off, none⟩) n c => some (.slice [.lit (.int .i64 g), .lit (.int .i64 off), .lit (.int .i64 n), .lit (.int .i64 c)] [], [])
  | _ => none
def hdr (v : Value) : Dt := match hdrR v with
  | some p => p.1
  | none => .nil
theorem hdr_inj {v v' : Value} {p p' : Dt × List MemPlace} (h : hdrR v = some p) (h' : hdrR v' = some p') (he : p.1 = p'.1) : v = v' := by
  unfold hdrR at h h'
  split at h
  · cases h
    split at h'
    · rfl
    · cases h'; cases he
    · cases h'
  · cases h
    split at h'
    · cases h'; cases he
    · cases h'
      simp at he
      obtain ⟨e1, e2, e3, e4⟩ := he
      rw [Int.ofNat_inj.1 e1, Int.ofNat_inj.1 e2, Int.ofNat_inj.1 e3, Int.ofNat_inj.1 e4]
    · cases h'
  · cases h
theorem hdr_of {v : Value} {w : World} {base : Nat} {xs : List Value} (h : QAt w base v xs) : hdrR v = some (hdr v, []) := by
  rcases h with ⟨rfl, _⟩ | ⟨g, off, cap, rfl, _⟩ <;> rfl

def upd {α : Type} (f : Option Bs → α) (o : Option Bs) (x : α) : Option Bs → α := fun o' => if o' = o then x else f o'
theorem upd_same {α : Type} (f : Option Bs → α) (o : Option Bs) (x : α) : upd f o x o = x := if_pos rfl
theorem upd_other {α : Type} (f : Option Bs → α) {o o' : Option Bs} (x : α) (h : o' ≠ o) : upd f o x o' = f o' := if_neg h

/-- slices of the call's own, one for each key and the list (none), no two in one block -/
structure Grps (w : World) (base : Nat) (val : Option Bs → Value) (gs : Option Bs → List Bs) : Prop where
  row : ∀ o, QAt w base (val o) (strCells (gs o))
  apart : ∀ o o', o ≠ o' → (val o).ownBlock = none ∨ (val o).ownBlock ≠ (val o').ownBlock
theorem Grps.kept {w w' : World} {base : Nat} {val : Option Bs → Value} {gs : Option Bs → List Bs} {row : Option Nat} (h : Grps w base val gs) (hg : w.grownBy w' row) (hr : ∀ g, row = some g → g < base) : Grps w' base val gs :=
  ⟨fun o => (h.row o).kept hg (by
    cases ho : (val o).ownBlock with
    | none => exact .inl rfl
    | some g => refine .inr (fun e => ?_); have := ((h.row o).lt ho).1; have := hr g e.symm; omega), h.apart⟩
theorem Grps.below {w w' : World} {base : Nat} {val : Option Bs → Value} {gs : Option Bs → List Bs} (h : Grps w base val gs) (hb : Below w.heap.size w w') : Grps w' base val gs :=
  ⟨fun o => (h.row o).below hb (Nat.le_refl _), h.apart⟩
theorem Grps.upd {w w' : World} {base : Nat} {val : Option Bs → Value} {gs : Option Bs → List Bs} {o : Option Bs} {v' : Value} {g' : List Bs} (h : Grps w base val gs) (hg : w.grownBy w' (val o).ownBlock) (hq : QAt w' base v' (strCells g'))
    (hl : v'.ownBlock = (val o).ownBlock ∨ ∃ k, v'.ownBlock = some k ∧ w.heap.size ≤ k) : Grps w' base (upd val o v') (upd gs o g') := by
  have hne : ∀ o', o' ≠ o → (val o').ownBlock = none ∨ (val o').ownBlock ≠ v'.ownBlock := fun o' ho => by
    rcases hl with hl | ⟨k, hl, hk⟩
    · rw [hl]; exact h.apart o' o ho
    · cases hx : (val o').ownBlock with
      | none => exact .inl rfl
      | some g => refine .inr (fun e => ?_); have := ((h.row o').lt hx).2; rw [hl] at e; injection e with e; omega
  refine ⟨fun o' => ?_, fun o1 o2 h12 => ?_⟩
  · by_cases e : o' = o
    · subst e; rw [upd_same, upd_same]; exact hq
    · rw [upd_other _ _ e, upd_other _ _ e]
      exact (h.row o').kept hg (h.apart o' o e)
  · by_cases e1 : o1 = o
    · subst e1
      rw [upd_same, upd_other _ _ (Ne.symm h12)]
      rcases hne o2 (Ne.symm h12) with h0 | h0
      · cases hv : v'.ownBlock with
        | none => exact .inl rfl
        | some g => refine .inr (fun e => ?_); rw [h0] at e; cases e
      · exact .inr (Ne.symm h0)
    · rw [upd_other _ _ e1]
      by_cases e2 : o2 = o
      · subst e2; rw [upd_same]; exact hne o1 e1
      · rw [upd_other _ _ e2]; exact h.apart o1 o2 h12
/-- block N is the map of their headers -/
def Hdrs (w : World) (N n : Nat) (val : Option Bs → Value) : Prop := ∃ D : Dt, w.ownsMap Try.prog 9 hdrR N n D ∧ ∀ k, D.atKey (.string k) .nil = hdr (val (some k))
theorem Hdrs.look {w : World} {N n base : Nat} {val : Option Bs → Value} {gs : Option Bs → List Bs} (h : Hdrs w N n val) (hg : Grps w base val gs) {s : ByteArray} (hs : s.size ≤ 9223372036854775807) :
    (Instr.lookup 64 (.map (some N)) (.string s) false).run Try.prog w = .ok (val (some s.data.toList)) w := by
  obtain ⟨D, ho, hD⟩ := h
  obtain ⟨v, ps, hr, hv⟩ := ho.lookup law9 Try.underlying64 (zero34 w) (zd := .nil) (zp := []) rfl (key_s hs)
  rw [hD] at hv
  rw [← hdr_inj hv (hdr_of (hg.row (some s.data.toList))) rfl]
  exact hr
theorem Hdrs.kept {w w' : World} {N n : Nat} {val : Option Bs → Value} {row : Option Nat} (h : Hdrs w N n val) (hg : w.grownBy w' row) (hne : some N ≠ row) : Hdrs w' N n val := by
  obtain ⟨D, ho, hD⟩ := h; exact ⟨D, ho.kept hg hne, hD⟩
theorem Hdrs.below {w w' : World} {N n : Nat} {val : Option Bs → Value} (h : Hdrs w N n val) (hb : Below w.heap.size w w') : Hdrs w' N n val :=
  h.kept (row := none) ⟨hb.os, hb.tape, hb.output, hb.size, fun i hi _ => hb.block i hi⟩ (by simp)
theorem Hdrs.list {w : World} {N n : Nat} {val : Option Bs → Value} (h : Hdrs w N n val) (v : Value) : Hdrs w N n (upd val none v) := by
  obtain ⟨D, ho, hD⟩ := h
  exact ⟨D, ho, fun k => by rw [upd_other _ _ (by simp)]; exact hD k⟩
theorem hdr_put {D : Dt} {val : Option Bs → Value} {k : Bs} {v' : Value} (hm : IsMap D) (h : ∀ k, D.atKey (.string k) .nil = hdr (val (some k))) (x : Bs) : (D.put (.string k) (hdr v')).atKey (.string x) .nil = hdr (upd val (some k) v' (some x)) := by
  by_cases e : x = k
  · subst e
    rw [atKey_put_same hm (kS_key x), upd_same]
  · rw [atKey_put_other (fun h => e (by injection h)), h, upd_other _ _ (fun h => e (by injection h))]

/-- the facts of conditions, and what a fact leads to -/
def factsB (ms : List Bs) : List Bs := ms.filter (fun m => (cutB m).isNone)
def toB (a : Bs) (m : Bs) : Option Bs := match cutB m with
  | some (x, b) => if x = a then some b else none
  | none => none
def nextB (ms : List Bs) (a : Bs) : List Bs := ms.filterMap (toB a)
def grpB (ms : List Bs) : Option Bs → List Bs
  | none => factsB ms
  | some a => nextB ms a
theorem grp_fact {ms : List Bs} {m : Bs} (h : cutB m = none) : grpB (ms ++ [m]) = upd (grpB ms) none (grpB ms none ++ [m]) := by
  funext o
  cases o with
  | none => rw [upd_same]; simp [grpB, factsB, h]
  | some a => rw [upd_other _ _ (by simp)]; simp [grpB, nextB, toB, h]
theorem grp_rule {ms : List Bs} {m a b : Bs} (h : cutB m = some (a, b)) : grpB (ms ++ [m]) = upd (grpB ms) (some a) (grpB ms (some a) ++ [b]) := by
  funext o
  by_cases e : o = some a
  · subst e; rw [upd_same]; simp [grpB, nextB, toB, h]
  · rw [upd_other _ _ e]
    cases o with
    | none => simp [grpB, factsB, h]
    | some x =>
      have : ¬ a = x := fun e' => e (by rw [e'])
      simp [grpB, nextB, toB, h, this]
theorem mem_next {ms : List Bs} {a b : Bs} : b ∈ nextB ms a ↔ ∃ m ∈ ms, cutB m = some (a, b) := by
  rw [nextB, List.mem_filterMap]
  constructor
  · rintro ⟨m, hm, ht⟩
    refine ⟨m, hm, ?_⟩
    unfold toB at ht
    cases hc : cutB m with
    | none => rw [hc] at ht; cases ht
    | some p =>
      rw [hc] at ht
      dsimp only at ht
      split at ht
      · rename_i e; obtain ⟨x, y⟩ := p; dsimp only at e ht; rw [e, Option.some.inj ht]
      · cases ht
  · rintro ⟨m, hm, hc⟩
    exact ⟨m, hm, by unfold toB; rw [hc]; simp⟩
theorem next_len (ms : List Bs) (a : Bs) : (nextB ms a).length ≤ ms.length := List.length_filterMap_le _ _
theorem facts_len (ms : List Bs) : (factsB ms).length ≤ ms.length := List.length_filter_le _ _

/-- the worklist's state -/
structure Wl (ms list fs : List Bs) : Prop where
  sound : ∀ s, s ∈ list ∨ s ∈ fs → Der ms s
  facts : ∀ m ∈ ms, cutB m = none → m ∈ list ∨ m ∈ fs
  rules : ∀ m ∈ ms, ∀ a b, cutB m = some (a, b) → a ∈ fs → b ∈ list ∨ b ∈ fs
theorem Wl.start (ms : List Bs) : Wl ms (factsB ms) [] := by
  refine ⟨fun s hs => ?_, fun m hm hc => .inl (List.mem_filter.2 ⟨hm, by rw [hc]; rfl⟩), fun m hm a b hc ha => by cases ha⟩
  rcases hs with hs | hs
  · obtain ⟨hm, hc⟩ := List.mem_filter.1 hs
    exact .fact hm (by cases h : cutB s <;> simp [h] at hc ⊢)
  · cases hs
theorem Wl.skip {ms list fs : List Bs} {s : Bs} (h : Wl ms (s :: list) fs) (hs : s ∈ fs) : Wl ms list fs := by
  have hh : ∀ x, x ∈ s :: list ∨ x ∈ fs → x ∈ list ∨ x ∈ fs := fun x hx => by
    rcases hx with hx | hx
    · rcases List.mem_cons.1 hx with rfl | hx
      · exact .inr hs
      · exact .inl hx
    · exact .inr hx
  exact ⟨fun x hx => h.sound x (hx.imp (List.mem_cons_of_mem _) id), fun m hm hc => hh m (h.facts m hm hc), fun m hm a b hc ha => hh b (h.rules m hm a b hc ha)⟩
theorem Wl.take {ms list fs : List Bs} {s : Bs} (h : Wl ms (s :: list) fs) : Wl ms (list ++ nextB ms s) (s :: fs) := by
  have hd : Der ms s := h.sound s (.inl List.mem_cons_self)
  have hh : ∀ x, x ∈ s :: list ∨ x ∈ fs → x ∈ list ++ nextB ms s ∨ x ∈ s :: fs := fun x hx => by
    rcases hx with hx | hx
    · rcases List.mem_cons.1 hx with rfl | hx
      · exact .inr List.mem_cons_self
      · exact .inl (List.mem_append_left _ hx)
    · exact .inr (List.mem_cons_of_mem _ hx)
  refine ⟨fun x hx => ?_, fun m hm hc => hh m (h.facts m hm hc), fun m hm a b hc ha => ?_⟩
  · rcases hx with hx | hx
    · rcases List.mem_append.1 hx with hx | hx
      · exact h.sound x (.inl (List.mem_cons_of_mem _ hx))
      · obtain ⟨m, hm, hc⟩ := mem_next.1 hx
        exact .rule hm hc hd
    · rcases List.mem_cons.1 hx with rfl | hx
      · exact hd
      · exact h.sound x (.inr hx)
  · rcases List.mem_cons.1 ha with rfl | ha
    · exact .inl (List.mem_append_right _ (mem_next.2 ⟨m, hm, hc⟩))
    · exact hh b (h.rules m hm a b hc ha)
theorem Wl.done {ms fs : List Bs} (h : Wl ms [] fs) (s : Bs) : s ∈ fs ↔ Der ms s := by
  refine ⟨fun hs => h.sound s (.inr hs), fun hd => ?_⟩
  induction hd with
  | fact hm hc => rcases h.facts _ hm hc with h | h; · cases h
                  · exact h
  | rule hm hc _ ih => rcases h.rules _ hm _ _ hc ih with h | h; · cases h
                       · exact h
/-- a rule whose condition is not yet followed -/
def waitB (fs : List Bs) (m : Bs) : Bool := match cutB m with
  | some (a, _) => !fs.contains a
  | none => false
def pendB (ms fs : List Bs) : Nat := (ms.filter (waitB fs)).length
theorem pend_take (fs : List Bs) (s : Bs) (hs : fs.contains s = false) : ∀ ms : List Bs, (nextB ms s).length + pendB ms (s :: fs) = pendB ms fs := by
  intro ms
  induction ms with
  | nil => rfl
  | cons m ms ih =>
    unfold nextB pendB at ih ⊢
    rw [List.filterMap_cons, List.filter_cons, List.filter_cons]
    cases hc : cutB m with
    | none =>
      have h0 : toB s m = none := by unfold toB; rw [hc]
      have h1 : waitB (s :: fs) m = false := by unfold waitB; rw [hc]
      have h2 : waitB fs m = false := by unfold waitB; rw [hc]
      rw [h0, h1, h2]; simpa using ih
    | some p =>
      obtain ⟨a, b⟩ := p
      by_cases e : a = s
      · subst e
        have h0 : toB a m = some b := by unfold toB; rw [hc]; simp
        have h1 : waitB (a :: fs) m = false := by unfold waitB; rw [hc]; simp
        have h2 : waitB fs m = true := by unfold waitB; rw [hc]; dsimp only; rw [hs]; rfl
        rw [h0, h1, h2, if_neg (by simp), if_pos rfl, List.length_cons, List.length_cons]
        omega
      · have h0 : toB s m = none := by unfold toB; rw [hc]; simp [e]
        have h1 : waitB (s :: fs) m = waitB fs m := by unfold waitB; rw [hc]; dsimp only; rw [List.contains_cons, beq_eq_false_iff_ne.2 e, Bool.false_or]
        rw [h0, h1]
        by_cases hf : waitB fs m = true
        · rw [if_pos hf, if_pos hf, List.length_cons, List.length_cons]
          dsimp only
          omega
        · rw [if_neg hf, if_neg hf]
          exact ih

/-- the least m of which R holds -/
theorem least {P : Nat → Prop} (h : ∃ m, P m) : ∃ m, P m ∧ ∀ k, P k → m ≤ k := by
  obtain ⟨m, hm⟩ := h
  induction m using Nat.strongRecOn with
  | ind m ih =>
    by_cases hk : ∃ k, k < m ∧ P k
    · obtain ⟨k, h1, h2⟩ := hk; exact ih k h1 h2
    · exact ⟨m, hm, fun k hp => Nat.le_of_not_lt (fun hl => hk ⟨k, hl, hp⟩)⟩
open Classical in
noncomputable def gmeas (P : Nat → Prop) : Nat := if h : ∃ m, P m then Classical.choose (least h) else 0
theorem gmeas_spec {P : Nat → Prop} (h : ∃ m, P m) : P (gmeas P) := by
  unfold gmeas; rw [dif_pos h]; exact (Classical.choose_spec (least h)).1
theorem gmeas_le {P : Nat → Prop} {m : Nat} (h : P m) : gmeas P ≤ m := by
  unfold gmeas; rw [dif_pos ⟨m, h⟩]; exact (Classical.choose_spec (least ⟨m, h⟩)).2 m h
end Go.Proofs.Ytflfachkoffiiaa
