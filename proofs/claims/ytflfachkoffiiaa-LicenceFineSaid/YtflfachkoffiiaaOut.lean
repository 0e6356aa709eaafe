/- A list of clauses of the call's own, whose clauses are changed one field at a time. -/
import Derived.Test.YtflfachkoffiiaaMakes
namespace Go.Proofs.Ytflfachkoffiiaa
open Go.RowKit

/-- the clause reads, and not out of block g -/
structure Apt (w : World) (g : Nat) (c : ClV) : Prop where
  ok : ClAt w w.heap.size c
  a1 : ∀ b off, c.A1 = some ⟨b, off, none⟩ → 0 < c.n1 → b ≠ g
  a2 : ∀ b off, c.A2 = some ⟨b, off, none⟩ → 0 < c.n2 → b ≠ g
/-- the clauses cs in block g -/
structure Ow (w : World) (g : Nat) (cs : List ClV) : Prop where
  row : ∃ cur : Array Value, w.heap[g]? = some (.cells cur 36 (0, 0)) ∧ cur.toList.take (cs.length * 3) = clsCells cs
  all : ∀ c ∈ cs, Apt w g c

section
variable {w w' : World} {g n : Nat} {cs : List ClV} {c : ClV}
theorem setCell_size (w : World) (p : Addr) (u : Value) : (w.setCell p u).heap.size = w.heap.size := by simp [World.setCell]
theorem Rd.set {B size : Nat} {A : Option Addr} {xs : List Value} (h : Rd w B size A n xs) (ha : ∀ b off, A = some ⟨b, off, none⟩ → 0 < n → b ≠ g) (i : Nat) (u : Value) : Rd (w.setCell ⟨g, i, none⟩ u) B size A n xs :=
  ⟨h.1, fun hn => by
    obtain ⟨b, off, e, hb, hc⟩ := h.2 hn
    exact ⟨b, off, e, hb, fun j v hv => (World.cell?_of_block (w := w) (a := ⟨b, off + j, none⟩) (Below.heap_setCell _ _ _ _ (ha b off e hn))).trans (hc j v hv)⟩⟩
theorem Apt.set (h : Apt w g c) (i : Nat) (u : Value) : Apt (w.setCell ⟨g, i, none⟩ u) g c := by
  refine ⟨?_, h.a1, h.a2⟩
  rw [setCell_size]
  exact ⟨h.ok.nm, h.ok.m1, h.ok.m2, h.ok.r1.set h.a1 i u, h.ok.r2.set h.a2 i u, h.ok.f1, h.ok.f2⟩
theorem Apt.below (h : Apt w g c) (hb : Below w.heap.size w w') : Apt w' g c := ⟨(h.ok.keep fun _ hp => hb.cell hp).more hb.size, h.a1, h.a2⟩
theorem Ow.lt (h : Ow w g cs) : g < w.heap.size := by
  obtain ⟨cur, hg, _⟩ := h.row
  exact (Array.getElem?_eq_some_iff.1 hg).1
theorem Ow.below (h : Ow w g cs) (hb : Below w.heap.size w w') : Ow w' g cs := by
  obtain ⟨cur, hg, ht⟩ := h.row
  exact ⟨⟨cur, (hb.block g h.lt).trans hg, ht⟩, fun c hc => (h.all c hc).below hb⟩
theorem Ow.cell (h : Ow w g cs) {k j : Nat} (hk : k < cs.length) (hj : j < 3) : w.cell? ⟨g, k * 3 + j, none⟩ = (clCells cs[k])[j]? := by
  obtain ⟨cur, hg, ht⟩ := h.row
  rw [cell_of_row w g _ cur 36 (0, 0) hg, ← clsCells_at cs k j _ (List.getElem?_eq_getElem hk) hj, ← ht, List.getElem?_take, if_pos (by omega)]
  simp
theorem Ow.frozen (h : Ow w g cs) (i : Nat) : w.frozen? ⟨g, i, none⟩ = false := by
  obtain ⟨cur, hg, _⟩ := h.row
  simp [World.frozen?, hg]
theorem cls_set : ∀ (cs : List ClV) (k j : Nat) (hk : k < cs.length) (_ : j < 3) (c' : ClV) (u : Value), clCells c' = (clCells cs[k]).set j u → (clsCells cs).set (k * 3 + j) u = clsCells (cs.set k c')
  | a :: cs, 0, j, _, hj, c', u, hc => by
    show (clCells a ++ clsCells cs).set (0 * 3 + j) u = clCells c' ++ clsCells cs
    rw [List.set_append_left _ _ (by simp [clCells]; omega), hc]
    simp
  | a :: cs, k + 1, j, hk, hj, c', u, hc => by
    show (clCells a ++ clsCells cs).set ((k + 1) * 3 + j) u = clCells a ++ clsCells (cs.set k c')
    rw [List.set_append_right _ _ (by simp [clCells]; omega), ← cls_set cs k j (by simpa using hk) hj c' u (by simpa using hc)]
    congr 2
    simp [clCells]; omega
theorem Ow.set (h : Ow w g cs) {k j : Nat} (hk : k < cs.length) (hj : j < 3) {c' : ClV} {u : Value} (hc : clCells c' = (clCells cs[k]).set j u) (hx : Apt w g c') : Ow (w.setCell ⟨g, k * 3 + j, none⟩ u) g (cs.set k c') := by
  obtain ⟨cur, hg, ht⟩ := h.row
  refine ⟨⟨cur.setIfInBounds (k * 3 + j) u, by simp [World.setCell, Array.getElem?_modify, hg], ?_⟩, fun c hm => ?_⟩
  · rw [Array.toList_setIfInBounds, List.take_set, List.length_set, ht]
    exact cls_set cs k j hk hj c' u hc
  · rcases List.mem_or_eq_of_mem_set hm with hm | rfl
    · exact (h.all c hm).set _ _
    · exact hx.set _ _
theorem Ow.cls (h : Ow w g cs) : Cls w w.heap.size (some ⟨g, 0, none⟩) cs.length cs := by
  obtain ⟨cur, hg, ht⟩ := h.row
  refine ⟨⟨clsCells_length cs, fun _ => ⟨g, 0, rfl, h.lt, fun j u hu => ?_⟩⟩, rfl, fun c hc => (h.all c hc).ok⟩
  rw [Nat.zero_add, cell_of_row w g _ cur 36 (0, 0) hg]
  rw [← ht, List.getElem?_take] at hu
  split at hu
  · simpa using hu
  · cases hu
/-- a copy of a list -/
theorem Ow.start {A : Option Addr} (hl : Cls w w.heap.size A n cs) (hb : Below w.heap.size w w') (hg : w.heap.size ≤ g) {cap : Nat} (hown : w'.ownsRow w.heap.size 36 3 (.slice (some ⟨g, 0, none⟩) n cap) n (clsCells cs)) : Ow w' g cs := by
  refine ⟨?_, fun c hc => ?_⟩
  · rcases hown.2 with ⟨h, _⟩ | ⟨g', cp, cur, e, hbg, hg', _, _, _, htk⟩
    · cases h
    · injection e with e1 _ e3
      injection e1 with e1
      injection e1 with e1
      subst e1
      exact ⟨cur, hg', by rw [hl.len]; exact htk⟩
  · have ho := hl.all c hc
    refine ⟨(ho.keep fun _ hp => hb.cell hp).more hb.size, fun b off e hn => ?_, fun b off e hn => ?_⟩
    · obtain ⟨b', off', e', hb', _⟩ := ho.r1.2 hn
      rw [e] at e'
      injection e' with e'; injection e' with e'
      omega
    · obtain ⟨b', off', e', hb', _⟩ := ho.r2.2 hn
      rw [e] at e'
      injection e' with e'; injection e' with e'
      omega
/-- the clause with another name -/
def ClV.named (c : ClV) (s : Bs) : ClV := { c with name := s }
def ClV.musts (c : ClV) (A : Option Addr) (n cap : Nat) (ss : List Bs) : ClV := { c with A1 := A, n1 := n, c1 := cap, must := ss }
def ClV.notss (c : ClV) (A : Option Addr) (n cap : Nat) (ss : List Bs) : ClV := { c with A2 := A, n2 := n, c2 := cap, nots := ss }
theorem QAt.far {v : Value} {xs : List Value} (h : QAt w (g + 1) v xs) {A : Option Addr} {m cap : Nat} (hv : v = .slice A m cap) : ∀ b off, A = some ⟨b, off, none⟩ → b ≠ g := by
  rintro b off rfl
  subst hv
  rcases h with ⟨e, _⟩ | ⟨g', off', cap', e, h1, _⟩
  · cases e
  · injection e with e _ _
    injection e with e
    injection e with e _ _
    omega
theorem Ow.set0 (h : Ow w g cs) {k : Nat} (hk : k < cs.length) (S : ByteArray) (hS : S.size ≤ 9223372036854775807) : Ow (w.setCell ⟨g, k * 3, none⟩ (.string S)) g (cs.set k (cs[k].named S.data.toList)) := by
  have ha := h.all _ (List.getElem_mem hk)
  refine h.set (j := 0) hk (by decide) ?_ ⟨⟨by show S.data.toList.length ≤ _; rw [list_size]; exact hS, ha.ok.m1, ha.ok.m2, ha.ok.r1, ha.ok.r2, ha.ok.f1, ha.ok.f2⟩, ha.a1, ha.a2⟩
  show [str S.data.toList, _, _] = [_, _, _]
  rw [str_of (s := S) rfl]
  rfl
theorem Ow.set1 (h : Ow w g cs) {k : Nat} (hk : k < cs.length) {A : Option Addr} {m cap : Nat} {ss : List Bs} (hq : QAt w (g + 1) (.slice A m cap) (strCells ss)) (hm : m ≤ 1000) (hf : ∀ b ∈ ss, b.length ≤ 9223372036854775807) : Ow (w.setCell ⟨g, k * 3 + 1, none⟩ (.slice A m cap)) g (cs.set k (cs[k].musts A m cap ss)) := by
  have ha := h.all _ (List.getElem_mem hk)
  obtain ⟨_, hr⟩ := q_lens hq
  exact h.set (j := 1) hk (by decide) rfl ⟨⟨ha.ok.nm, by show m ≤ _; omega, ha.ok.m2, hr, ha.ok.r2, hf, ha.ok.f2⟩, fun b off e _ => hq.far rfl b off e, ha.a2⟩
theorem Ow.set2 (h : Ow w g cs) {k : Nat} (hk : k < cs.length) {A : Option Addr} {m cap : Nat} {ss : List Bs} (hq : QAt w (g + 1) (.slice A m cap) (strCells ss)) (hm : m ≤ 1000) (hf : ∀ b ∈ ss, b.length ≤ 9223372036854775807) : Ow (w.setCell ⟨g, k * 3 + 2, none⟩ (.slice A m cap)) g (cs.set k (cs[k].notss A m cap ss)) := by
  have ha := h.all _ (List.getElem_mem hk)
  obtain ⟨_, hr⟩ := q_lens hq
  exact h.set (j := 2) hk (by decide) rfl ⟨⟨ha.ok.nm, ha.ok.m1, by show m ≤ _; omega, ha.ok.r1, hr, ha.ok.f1, hf⟩, ha.a1, fun b off e _ => hq.far rfl b off e⟩

/-- clauses that come back: at most 8, or more than 32 -/
def SpPost (w : World) : Ending → World → Prop := fun e w' => ∃ A n c cs, e = .returned (.slice A n c) ∧ (n ≤ 8 ∨ 32 < n) ∧ n ≤ 1000 ∧ n ≤ c ∧ Cls w' w'.heap.size A n cs ∧ Below w.heap.size w w'
theorem Ow.done {cap : Nat} (h : Ow w' g cs) (hn : cs.length = n) (h8 : n ≤ 8) (hc : n ≤ cap) (hb : Below w.heap.size w w') : SpPost w (.returned (.slice (some ⟨g, 0, none⟩) n cap)) w' :=
  ⟨_, n, cap, cs, rfl, .inl h8, by omega, hc, by have := h.cls; rwa [hn] at this, hb⟩
theorem QAt.empty {base : Nat} (h1 : base ≤ g) (h2 : g < w.heap.size) : QAt w base (.slice (some ⟨g, 0, none⟩) 0 0) [] :=
  .inr ⟨g, 0, 0, rfl, h1, h2, Nat.le_refl _, by decide, fun j hj => by omega, fun j u hu => by simp at hu⟩
end
end Go.Proofs.Ytflfachkoffiiaa
