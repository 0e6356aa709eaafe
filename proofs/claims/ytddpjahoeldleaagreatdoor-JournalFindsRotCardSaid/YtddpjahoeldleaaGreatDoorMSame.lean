/- What Open finds, plainly; SameTexts and SameInts. -/
import Derived.Test.YtddpjahoeldleaaGreatDoorSha
import Derived.Test.YtddpjahoeldleaaGreatDoorMBase

namespace Go.Proofs.YtddpjahoeldleaaGreatDoor

def zero64 : Bs := List.replicate 64 0
def blankB (s : Bs) : Bool := decide (s = zero64)
/-- the parts l begin with the parts of a record -/
def recOK (l : List PartV) : Bool := match l with
  | [] => false
  | p :: _ => p.ok && (decide (p.part = 0) && (decide (1 ≤ countN p.left) && (decide (countN p.left ≤ l.length) && ((List.range (countN p.left)).all fun k => (l.getD k noPart).ok && (decide ((l.getD k noPart).number = p.number) && (decide ((l.getD k noPart).part = k) && decide ((l.getD k noPart).left + 48 * k = p.left)))))))
/-- the text of n parts -/
def recT (l : List PartV) (n : Nat) : Bs := (l.take n).flatMap PartV.payload
def recs : Nat → List PartV → List (Nat × Bs)
  | 0, _ => []
  | _ + 1, [] => []
  | f + 1, p :: r => if recOK (p :: r) = true then (p.number, recT (p :: r) (countN p.left)) :: recs f ((p :: r).drop (countN p.left)) else recs f r
theorem rec_one {p : PartV} {r : List PartV} (h : recOK (p :: r) = true) : 1 ≤ countN p.left ∧ countN p.left ≤ r.length + 1 := by
  unfold recOK at h
  simp only [Bool.and_eq_true, decide_eq_true_eq, List.length_cons] at h
  exact ⟨h.2.2.1, h.2.2.2.1⟩
theorem recs_fuel : ∀ (f g : Nat) (l : List PartV), l.length ≤ f → l.length ≤ g → recs f l = recs g l
  | 0, 0, _, _, _ => rfl
  | 0, g + 1, [], _, _ => rfl
  | 0, _ + 1, _ :: _, h, _ => by simp at h
  | f + 1, 0, [], _, _ => rfl
  | _ + 1, 0, _ :: _, _, h => by simp at h
  | f + 1, g + 1, [], _, _ => rfl
  | f + 1, g + 1, p :: r, hf, hg => by
    rw [recs, recs]
    rw [List.length_cons] at hf hg
    by_cases h : recOK (p :: r) = true
    · obtain ⟨h1, h2⟩ := rec_one h
      rw [if_pos h, if_pos h, recs_fuel f g _ (by rw [List.length_drop, List.length_cons]; omega) (by rw [List.length_drop, List.length_cons]; omega)]
    · rw [if_neg h, if_neg h, recs_fuel f g r (by omega) (by omega)]
/-- the records among the parts of a disk -/
def recL (l : List PartV) : List (Nat × Bs) := recs l.length l
theorem recL_nil : recL [] = [] := rfl
theorem recL_yes {p : PartV} {r : List PartV} (h : recOK (p :: r) = true) : recL (p :: r) = (p.number, recT (p :: r) (countN p.left)) :: recL ((p :: r).drop (countN p.left)) := by
  obtain ⟨h1, h2⟩ := rec_one h
  rw [recL, List.length_cons, recs, if_pos h, recL]
  rw [recs_fuel r.length _ ((p :: r).drop (countN p.left)) (by rw [List.length_drop, List.length_cons]; omega) (Nat.le_refl _)]
theorem recL_no {p : PartV} {r : List PartV} (h : ¬ recOK (p :: r) = true) : recL (p :: r) = recL r := by
  rw [recL, List.length_cons, recs, if_neg h, recL]
/-- a record is kept if its number is new -/
def addR (acc : List (Nat × Bs)) (x : Nat × Bs) : List (Nat × Bs) := if x.1 ∈ acc.map Prod.fst then acc else acc ++ [x]
def foundL (l : List PartV) : List (Nat × Bs) := (recL l).foldl addR []
/-- what the sectors say by themselves -/
structure OV where
  k : Nat
  next : Nat
  fin : Nat
  bad : List Nat
def oStep (o : OV) (s : Bs) : OV := ⟨o.k + 1, max o.next ((unpackB s).number + 1), if blankB s = true then o.fin else o.k + 1, if (unpackB s).ok = true ∨ blankB s = true then o.bad else o.bad ++ [o.k]⟩
def oFold (l : List Bs) : OV := l.foldl oStep ⟨0, 1, 0, []⟩
theorem oFold_snoc (l : List Bs) (s : Bs) : oFold (l ++ [s]) = oStep (oFold l) s := by rw [oFold, List.foldl_append]; rfl
theorem oFold_k : ∀ (l : List Bs) (o : OV), (l.foldl oStep o).k = o.k + l.length
  | [], o => by simp
  | s :: l, o => by rw [List.foldl_cons, oFold_k l, List.length_cons]; simp only [oStep]; omega
theorem take_snoc {α : Type} {l : List α} {k : Nat} (h : k < l.length) : l.take (k + 1) = l.take k ++ [l[k]] := List.take_succ_eq_append_getElem h
theorem oFold_at {l : List Bs} {k : Nat} (h : k ≤ l.length) : (oFold (l.take k)).k = k := by
  rw [oFold, oFold_k, List.length_take]; simp only []; omega
/-! when a sector is good -/
theorem unpack_bad {s : Bs} {n p l : Nat} (hn : n = numB (s.take 4)) (hp : p = numB ((s.drop 4).take 2)) (hl : l = numB ((s.drop 6).take 2))
    (h : checkedB (s.take 56) ≠ s ∨ n < 1 ∨ 4096 < n ∨ 8000 < 48 * p + l ∨ (l < 1 ∧ 0 < p)) : unpackB s = noPart := by
  unfold unpackB
  rw [← hn, ← hp, ← hl]
  rw [if_neg]
  rintro ⟨_, hg⟩
  unfold goodB at hg
  simp only [Bool.and_eq_true, Bool.or_eq_true, decide_eq_true_eq] at hg
  obtain ⟨g1, g2, g3, g4, g5, _⟩ := hg
  rcases h with h | h | h | h | h
  · exact h g1
  all_goals omega
theorem zero_of_all {s : Bs} {m : Nat} (h : ((s.take 56).drop (8 + m)).all (· == 0) = true) {k : Nat} (h1 : 8 + m ≤ k) (h2 : k < 56) {x : UInt8} (hx : s[k]? = some x) : x = 0 := by
  rw [List.all_eq_true] at h
  have : x ∈ (s.take 56).drop (8 + m) := by
    refine List.mem_of_getElem? (i := k - (8 + m)) ?_
    rw [List.getElem?_drop, show 8 + m + (k - (8 + m)) = k by omega, List.getElem?_take, if_pos h2, hx]
  simpa using h x this
theorem unpack_nz {s : Bs} {n p l : Nat} (hn : n = numB (s.take 4)) (hp : p = numB ((s.drop 4).take 2)) (hl : l = numB ((s.drop 6).take 2)) {k : Nat} (h1 : 8 + min l 48 ≤ k) (h2 : k < 56) {x : UInt8} (hx : s[k]? = some x) (h0 : x ≠ 0) : unpackB s = noPart := by
  unfold unpackB
  rw [← hn, ← hp, ← hl]
  rw [if_neg]
  rintro ⟨_, hg⟩
  unfold goodB at hg
  simp only [Bool.and_eq_true] at hg
  exact h0 (zero_of_all hg.2.2.2.2.2 h1 h2 hx)
theorem unpack_good {s : Bs} {n p l : Nat} (hn : n = numB (s.take 4)) (hp : p = numB ((s.drop 4).take 2)) (hl : l = numB ((s.drop 6).take 2)) (h64 : s.length = 64)
    (g1 : checkedB (s.take 56) = s) (g2 : 1 ≤ n) (g3 : n ≤ 4096) (g4 : 48 * p + l ≤ 8000) (g5 : 1 ≤ l ∨ p = 0) (gz : ∀ k, 8 + min l 48 ≤ k → k < 56 → s[k]? = some 0) : unpackB s = ⟨n, p, l, (s.drop 8).take (min l 48), true⟩ := by
  unfold unpackB
  rw [← hn, ← hp, ← hl]
  rw [if_pos]
  refine ⟨h64, ?_⟩
  unfold goodB
  have hz : ((s.take 56).drop (8 + min l 48)).all (· == 0) = true := by
    rw [List.all_eq_true]
    intro x hx
    obtain ⟨i, hi, e⟩ := List.mem_iff_getElem.1 hx
    rw [List.length_drop, List.length_take] at hi
    have := gz (8 + min l 48 + i) (by omega) (by omega)
    rw [List.getElem_drop, List.getElem_take] at e
    rw [List.getElem?_eq_getElem (by omega), e] at this
    injection this with this
    rw [this]
    rfl
  rw [hz, decide_eq_true g1, decide_eq_true g2, decide_eq_true g3, decide_eq_true g4]
  rcases g5 with h | h
  · rw [decide_eq_true h]; rfl
  · rw [decide_eq_true (p := p = 0) h, Bool.or_true]; rfl
theorem unpack_short {s : Bs} (h : s.length ≠ 64) : unpackB s = noPart := by unfold unpackB; rw [if_neg (fun e => h e.1)]
/-- what a good part is -/
theorem part_le (s : Bs) : (unpackB s).left ≤ 8000 ∧ (unpackB s).number ≤ 4096 ∧ ((unpackB s).ok = true → 1 ≤ (unpackB s).number) ∧ ((unpackB s).ok = false → unpackB s = noPart) := by
  unfold unpackB
  split
  · rename_i h
    have := h.2
    unfold goodB at this
    simp only [Bool.and_eq_true, decide_eq_true_eq] at this
    exact ⟨by have := this.2.2.2.1; simp only []; omega, this.2.2.1, fun _ => this.2.1, fun e => by cases e⟩
  · exact ⟨by decide, by decide, fun e => (by cases e), fun _ => rfl⟩
theorem count_pos {n : Nat} (h : n ≤ 8000) : 1 ≤ countN n := by unfold countN; rw [if_neg (by omega)]; split <;> omega
end Go.Proofs.YtddpjahoeldleaaGreatDoor

namespace Go.Proofs.YtddpjahoeldleaaGreatDoor
open Go.RowKit

set_option maxRecDepth 100000 in
theorem sameTexts_any (A1 A2 : Option Addr) (n1 n2 c1 c2 : Nat) (xs ys : List Bs) (w : World) (h1 : Rd w w.heap.size 1 A1 n1 (strCells xs)) (h2 : Rd w w.heap.size 1 A2 n2 (strCells ys)) (e1 : xs.length = n1) (e2 : ys.length = n2)
    (m1 : n1 ≤ 9223372036854775807) (b : Bool) (hb : Hid (decide (xs = ys) = b)) :
    Calls Tryz.prog 10 #[.slice A1 n1 c1, .slice A2 n2 c2] w (RetB (.bool b) w) := by
  have E1 := Lib.hid e1
  have E2 := Lib.hid e2
  clear e1 e2
  by_cases hne : n1 = n2
  · subst hne
    go_enter Tryz.func10, Tryz.ntmps10
    go_wp2_with fail
    go_loopw [5] (fun x wr => ∃ k : Nat, k ≤ n1 ∧ x = .int .i64 k ∧ xs.take k = ys.take k ∧ Below w.heap.size w wr) (fun x _ => n1 - (intOf x).toNat)
    case atStart => exact ⟨0, by omega, rfl, by simp, Below.refl _ _⟩
    case round =>
      obtain ⟨k, hk, rfl, he, hbl⟩ := hrel
      have Ht := Lib.hid he
      clear he
      by_cases hlt : k < n1
      · obtain ⟨b1, o1, rfl, hb1, x1⟩ := (h1.below hbl).str E1.out hlt
        obtain ⟨b2, o2, rfl, hb2, y1⟩ := (h2.below hbl).str E2.out hlt
        have l1 : k < xs.length := by have := E1.out; omega
        have l2 : k < ys.length := by have := E2.out; omega
        obtain ⟨p, hp⟩ : ∃ p : ByteArray, p = ⟨xs[k].toArray⟩ := ⟨_, rfl⟩
        obtain ⟨q, hq⟩ : ∃ q : ByteArray, q = ⟨ys[k].toArray⟩ := ⟨_, rfl⟩
        have He : Hid ((p.toList == q.toList) = (xs[k] == ys[k])) := Lib.hid (by rw [hp, hq, arr_eq])
        rw [← hp] at x1
        rw [← hq] at y1
        clear hp hq
        cases hx : p.toList == q.toList
        · have Hx := Lib.hid (He.out.symm.trans hx)
          go_wp2_with fail
          go_quiet (fail)
          go_wp2_with fail
          go_ret
          refine RetB.bool ?_ (below_drewN hbl _)
          rw [← hb.out]
          simp only [Bool.false_eq, decide_eq_false_iff_not]
          intro e
          subst e
          exact absurd rfl (beq_eq_false_iff_ne.1 Hx.out)
        · have Hx := Lib.hid (He.out.symm.trans hx)
          go_wp2_with fail
          go_quiet (fail)
          go_wp2_with fail
          go_roundw
          case rel => exact ⟨k + 1, by omega, by go_num, take_eq_succ l1 l2 Ht.out (beq_iff_eq.1 Hx.out), below_drewN hbl _⟩
          case measure => simp [intOf]; omega
      · go_wp2_with fail
        go_ret
        refine RetB.bool ?_ hbl
        rw [← hb.out]
        obtain rfl : k = n1 := by omega
        have := Ht.out
        rw [List.take_of_length_le (by have := E1.out; omega), List.take_of_length_le (by have := E2.out; omega)] at this
        simp [this]
  · go_enter Tryz.func10, Tryz.ntmps10
    go_wp2_with fail
    go_ret
    refine RetB.bool ?_ (Below.refl _ _)
    rw [← hb.out]
    simp only [Bool.false_eq, decide_eq_false_iff_not]
    intro e
    subst e
    exact hne (E1.out.symm.trans E2.out)
set_option maxRecDepth 100000 in
theorem sameInts_any (A1 A2 : Option Addr) (n1 n2 c1 c2 : Nat) (xs ys : List Int) (w : World) (h1 : Rd w w.heap.size 1 A1 n1 (intCells xs)) (h2 : Rd w w.heap.size 1 A2 n2 (intCells ys)) (e : xs = ys) (m1 : n1 ≤ 9223372036854775807) :
    Calls Tryz.prog 36 #[.slice A1 n1 c1, .slice A2 n2 c2] w (RetB (.bool true) w) := by
  subst e
  have l1 : xs.length = n1 := by have := h1.1; simpa [intCells] using this
  have l2 : xs.length = n2 := by have := h2.1; simpa [intCells] using this
  obtain rfl : n1 = n2 := by omega
  have L1 := Lib.hid l1
  clear l1 l2
  go_enter Tryz.func36, Tryz.ntmps36
  go_wp2_with fail
  go_loopw [5] (fun x wr => ∃ k : Nat, k ≤ n1 ∧ x = .int .i64 k ∧ Below w.heap.size w wr) (fun x _ => n1 - (intOf x).toNat)
  case atStart => exact ⟨0, by omega, rfl, Below.refl _ _⟩
  case round =>
    obtain ⟨k, hk, rfl, hbl⟩ := hrel
    by_cases hlt : k < n1
    · obtain ⟨b1, o1, u1, rfl, _, hu1, x1⟩ := (h1.below hbl).at1 hlt
      obtain ⟨b2, o2, u2, rfl, _, hu2, x2⟩ := (h2.below hbl).at1 hlt
      rw [intCells, List.getElem?_map, List.getElem?_eq_getElem (by have := L1.out; omega)] at hu1 hu2
      obtain rfl := (Option.some.inj hu1).symm
      obtain rfl := (Option.some.inj hu2).symm
      have j1 : (k : Int) < (n1 : Int) := by omega
      have j0 : (0 : Int) ≤ (k : Int) := by omega
      generalize xs[k]'(by have := L1.out; omega) = z at *
      clear hu1 hu2
      go_wp2_with fail
      go_quiet (fail)
      go_wp2_with fail
      go_roundw
      case rel => exact ⟨k + 1, by omega, by go_num, below_drewN hbl _⟩
      case measure => simp [intOf]; omega
    · obtain rfl : k = n1 := by omega
      go_wp2_with fail
      go_ret
      exact ⟨rfl, hbl⟩
end Go.Proofs.YtddpjahoeldleaaGreatDoor
