/- Arguments '[]int' and '[]Clause' opened. -/
import Derived.Test.YtflfachkoffiiaaLives
import Derived.Test.YtflfachkoffiiaaSpoilt
import Derived.ProofKit
import Derived.SliceStrings
import Derived.OpenShut
namespace Go.Proofs.Ytflfachkoffiiaa
open Go.RowKit Go.WideShapes Go.ChangeShapes Go.ChangeAt

section
variable {H : Type} {enc : TypeId × Value → H} {W : World} {base : Nat} {sp : Nat → Bool} {held : Bool}
theorem open_nums_trod {fuel : Nat} {cs : List Value} {x : DataW H × List MemPlace} (hsp : ∀ b, sp b = true) (h : DataW.trod enc Try.prog W base sp held fuel 22 cs = some x) {B : Nat} (hlt : ∀ p ∈ x.2, p.block < B) :
    ∃ A n c zs, cs = [.slice A n c] ∧ Rd W B 1 A n (intCells zs) ∧ n ≤ 9223372036854775807 ∧ Fits zs := by
  rcases open_ints Try.underlying22 Try.underlying3 (by kernel_rfl) h with ⟨rfl, rfl⟩ | ⟨a, len, cap, zs, rfl, _, hl, hm, hz, hx, hcell, hwz⟩
  · exact ⟨none, 0, 0, [], rfl, Rd.nil, by omega, fun z hz => by cases hz⟩
  · rw [if_pos (hsp _)] at hz
    unfold maxLen at hm
    refine ⟨some a, len, cap, zs.take len, rfl, ⟨by simp [intCells]; omega, fun hn => ?_⟩, by omega, fun z hzz => bounds_i64 (hwz z (List.mem_of_mem_take hzz))⟩
    obtain ⟨b, off, spot⟩ := a
    have hspot : spot = none := by simpa [Addr.add] using World.cell?_spot (hcell 0 (by omega))
    subst hspot
    refine ⟨b, off, rfl, hlt (.cell b off) (by rw [hx]; exact MemPlace.mem_row.2 ⟨0, by omega, by simp⟩), fun j u hu => ?_⟩
    simp only [intCells, List.map_take, List.getElem?_take, List.getElem?_map] at hu
    split at hu
    · rename_i hj
      have := hcell j (by omega)
      rw [show (⟨b, off, none⟩ : Addr).add j = ⟨b, off + j, none⟩ from by unfold Addr.add; split <;> simp_all] at this
      rw [this]
      rw [List.getElem?_eq_getElem (by omega)] at hu
      rw [List.getD_eq_getElem?_getD, List.getElem?_eq_getElem (by omega)]
      exact hu
    · cases hu
theorem open_strs_trod {fuel : Nat} {cs : List Value} {x : DataW H × List MemPlace} (hsp : ∀ b, sp b = true) (h : DataW.trod enc Try.prog W base sp held fuel 34 cs = some x) {B : Nat} (hlt : ∀ p ∈ x.2, p.block < B) :
    ∃ A n c ss, cs = [.slice A n c] ∧ Rd W B 1 A n (strCells ss) ∧ n ≤ 9223372036854775807 ∧ Lens ss := by
  rcases open_strings Try.underlying34 Try.underlying9 (by kernel_rfl) h with ⟨rfl, rfl⟩ | ⟨a, len, cap, zs, rfl, _, hl, hm, hz, hx, hcell, hwz⟩
  · exact ⟨none, 0, 0, [], rfl, Rd.nil, by omega, fun z hz => by cases hz⟩
  · rw [if_pos (hsp _)] at hz
    unfold maxLen at hm hwz
    refine ⟨some a, len, cap, (zs.take len).map (fun s => s.data.toList), rfl, ⟨by simp [strCells]; omega, fun hn => ?_⟩, by omega, fun b hb => ?_⟩
    · obtain ⟨b, off, spot⟩ := a
      have hspot : spot = none := by simpa [Addr.add] using World.cell?_spot (hcell 0 (by omega))
      subst hspot
      refine ⟨b, off, rfl, hlt (.cell b off) (by rw [hx]; exact MemPlace.mem_row.2 ⟨0, by omega, by simp⟩), fun j u hu => ?_⟩
      simp only [strCells, List.map_map, List.map_take, List.getElem?_take, List.getElem?_map] at hu
      split at hu
      · rename_i hj
        have := hcell j (by omega)
        rw [show (⟨b, off, none⟩ : Addr).add j = ⟨b, off + j, none⟩ from by unfold Addr.add; split <;> simp_all] at this
        rw [this]
        rw [List.getElem?_eq_getElem (by omega)] at hu
        rw [List.getD_eq_getElem?_getD, List.getElem?_eq_getElem (by omega), ← hu]
        show some (Value.string zs[j]) = _
        rw [str_of (s := zs[j]) rfl]
        rfl
      · cases hu
    · obtain ⟨s, hs, rfl⟩ := List.mem_map.1 hb
      rw [list_size]
      have := hwz s (List.mem_of_mem_take hs)
      omega
set_option maxRecDepth 100000 in
theorem open_clause {fuel : Nat} {cs : List Value} {x : DataW H × List MemPlace} (hsp : ∀ b, sp b = true) (h : DataW.trod enc Try.prog W base sp held fuel 36 cs = some x) {B : Nat} (hlt : ∀ p ∈ x.2, p.block < B) :
    ∃ o, cs = clCells o ∧ ClAt W B o := by
  obtain ⟨xs, n, rfl, rfl, hl, hx, hf⟩ := DataW.trod_struct Try.underlying36 h
  have s36 : Try.prog.cellsOf 36 = 3 := by kernel_rfl
  rw [s36] at hl
  replace hx : xs.length = 3 := hx
  match cs, hl, xs, hx with
  | [c0, c1, c2], _, [x0, x1, x2], _ =>
    have h0 := hf 0 _ rfl
    have h1 := hf 1 _ rfl
    have h2 := hf 2 _ rfl
    simp only [List.getElem?_cons_zero, List.getElem?_cons_succ] at h0 h1 h2
    obtain ⟨t, e0, r0, w0⟩ := DataW.trod_string Try.underlying9 h0
    obtain ⟨A1, m1, k1, s1, e1, r1, w1, f1⟩ := open_strs_trod hsp h1 (B := B) (fun p hp => hlt p (by simp [hp]))
    obtain ⟨A2, m2, k2, s2, e2, r2, w2, f2⟩ := open_strs_trod hsp h2 (B := B) (fun p hp => hlt p (by simp [hp]))
    obtain rfl : c0 = _ := by injection e0
    obtain rfl : c1 = _ := by injection e1
    obtain rfl : c2 = _ := by injection e2
    refine ⟨⟨t.data.toList, A1, m1, k1, s1, A2, m2, k2, s2⟩, by rw [str_of (s := t) rfl]; rfl, ⟨?_, w1, w2, r1, r2, f1, f2⟩⟩
    unfold maxLen at w0
    show t.data.toList.length ≤ _
    rw [list_size]; exact Nat.le_trans w0 (by decide)
theorem cls_get (os : List ClV) (q : Nat) (u : Value) (h : (clsCells os)[q]? = some u) : ∃ o, os[q / 3]? = some o ∧ (clCells o)[q % 3]? = some u := by
  have hq := (List.getElem?_eq_some_iff.1 h).1
  rw [clsCells_length] at hq
  have hm : q / 3 < os.length := by omega
  refine ⟨os[q / 3], List.getElem?_eq_getElem hm, ?_⟩
  rw [← clsCells_at os (q / 3) (q % 3) _ (List.getElem?_eq_getElem hm) (by omega), show q / 3 * 3 + q % 3 = q by omega, h]
theorem choose_list {α : Type} (P : Nat → α → Prop) : ∀ n : Nat, (∀ i, i < n → ∃ o, P i o) → ∃ os : List α, os.length = n ∧ ∀ i o, os[i]? = some o → P i o := by
  intro n
  induction n with
  | zero => intro _; exact ⟨[], rfl, fun i o h => by cases h⟩
  | succ n ih =>
    intro h
    obtain ⟨os, hl, hP⟩ := ih (fun i hi => h i (by omega))
    obtain ⟨o, ho⟩ := h n (by omega)
    refine ⟨os ++ [o], by simp [hl], fun i o' h' => ?_⟩
    rw [List.getElem?_append] at h'
    split at h'
    · exact hP i o' h'
    · have hi : i - os.length = 0 := by
        have := (List.getElem?_eq_some_iff.1 h').1
        simp at this
        omega
      rw [hi] at h'
      obtain rfl : o = o' := by simpa using h'
      obtain rfl : i = n := by omega
      exact ho
set_option maxRecDepth 100000 in
theorem open_clauses {v : Value} {d : DataW H} {p : List MemPlace} (hv : Value.okWide Try.prog W .any base 23 v) (h : DataW.Trod enc Try.prog W 0 (fun _ => true) true 23 v d p) (hlt : ∀ x ∈ p, x.block < W.heap.size) :
    ∃ A n c os, v = .slice A n c ∧ Cls W W.heap.size A n os ∧ n ≤ 9223372036854775807 := by
  obtain ⟨a0, len, cap, rfl⟩ := okWide_slice Try.underlying23 hv
  obtain ⟨fuel, hf⟩ := h
  rcases DataW.trod_slice Try.underlying23 hf with ⟨hcs, hx⟩ | ⟨a, len', cap', elems, rest, n, rfl, hcs, hx, _, hl, hm, hlen, hel, _, _⟩
  · simp [Value.cells] at hcs
    obtain ⟨rfl, rfl, rfl⟩ := hcs
    exact ⟨none, 0, 0, [], rfl, ⟨Rd.nil, rfl, fun o ho => by cases ho⟩, by omega⟩
  · simp [Value.cells] at hcs
    obtain ⟨rfl, rfl, rfl⟩ := hcs
    unfold maxLen at hm
    have s36 : Try.prog.cellsOf 36 = 3 := by kernel_rfl
    rw [s36] at hel hx
    simp only [Prod.mk.injEq] at hx
    obtain ⟨os, hol, hos⟩ := choose_list (fun i o => ClAt W W.heap.size o ∧ W.cells? 0 (a.add (i * 3)) 3 = some (clCells o)) len (fun i hi => by
      have he := hel i hi
      obtain ⟨y, hy⟩ : ∃ y, elems[i]? = some y := ⟨_, List.getElem?_eq_getElem (by omega)⟩
      rw [hy, Option.bind_eq_some_iff] at he
      obtain ⟨cs, h1, h2⟩ := he
      obtain ⟨o, rfl, ho⟩ := open_clause (fun _ => rfl) h2 (B := W.heap.size) (fun q hq => hlt q (by
        rw [hx.2]
        exact List.mem_append_right _ (List.mem_flatMap.2 ⟨y, List.mem_append_left _ (List.mem_of_getElem? hy), hq⟩)))
      exact ⟨o, ho, h1⟩)
    refine ⟨some a, len, cap, os, rfl, ⟨⟨by rw [clsCells_length, hol], fun hn => ?_⟩, hol, fun o ho => ?_⟩, by omega⟩
    · have hc0 : ∃ u, W.cell? (a.add 0) = some u := by
        have := (World.cells?_some (hos 0 _ (List.getElem?_eq_getElem (by omega))).2).2.2 0 (by omega)
        rw [Nat.zero_mul] at this
        exact ⟨_, by simpa [Addr.add, clCells] using this⟩
      obtain ⟨u0, hu0⟩ := hc0
      obtain ⟨b, off, spot⟩ := a
      have hspot : spot = none := by simpa [Addr.add] using World.cell?_spot hu0
      subst hspot
      refine ⟨b, off, rfl, hlt (.cell b off) (by rw [hx.2]; exact List.mem_append_left _ (MemPlace.mem_row.2 ⟨0, by omega, by simp⟩)), fun j u hu => ?_⟩
      obtain ⟨o, ho, hu'⟩ := cls_get os j u hu
      have := (World.cells?_some (hos _ _ ho).2).2.2 (j % 3) (by omega)
      have ha : ∀ o j : Nat, (⟨b, o, none⟩ : Addr).add j = ⟨b, o + j, none⟩ := fun o j => by unfold Addr.add; split <;> simp_all
      rw [hu', ha, ha, show off + j / 3 * 3 + j % 3 = off + j by omega] at this
      exact this
    · obtain ⟨i, hi⟩ := List.getElem?_of_mem ho
      exact (hos i o hi).1
theorem open_nums {v : Value} {d : DataW H} {p : List MemPlace} (hv : Value.okWide Try.prog W .any base 22 v) (h : DataW.Trod enc Try.prog W 0 (fun _ => true) true 22 v d p) (hlt : ∀ x ∈ p, x.block < W.heap.size) :
    ∃ A n c zs, v = .slice A n c ∧ Rd W W.heap.size 1 A n (intCells zs) ∧ n ≤ 9223372036854775807 ∧ Fits zs := by
  obtain ⟨a0, len, cap, rfl⟩ := okWide_slice Try.underlying22 hv
  obtain ⟨fuel, hf⟩ := h
  obtain ⟨A, n, c, zs, e, hr, hn, hfit⟩ := open_nums_trod (fun _ => rfl) hf (B := W.heap.size) hlt
  refine ⟨A, n, c, zs, ?_, hr, hn, hfit⟩
  simp [Value.cells] at e
  obtain ⟨rfl, rfl, rfl⟩ := e
  rfl
end
end Go.Proofs.Ytflfachkoffiiaa
