/- What the listed variables hold: the package's tables. -/
import Derived.Test.YtjjdfccbkohlcaaDoorRows
import Derived.Test.YtjjdfccbkohlcaaDoorWord
import Derived.ProofKit
import Derived.OpenShut
import Derived.LaidMore
import Derived.Lib.LaidTab
namespace Go.Proofs.YtjjdfccbkohlcaaDoor
open Go.ChangeShapes Go.WideShapes Go.RowKit

section
variable {H : Type} {enc : TypeId × Value → H} {P : Program} {w : World} {base : Nat} {spare : Nat → Bool} {held : Bool}
theorem cells_of_strs {fuel n : Nat} {t e : TypeId} {cs : List Value} {ss : List Lx.Bs} {p : List MemPlace} (ht : P.underlying t = some (.array n e)) (he : P.underlying e = some .string) (hce : P.cellsOf e = 1) (hct : P.cellsOf t = n)
    (h : DataW.trod enc P w base spare held fuel t cs = some (.agg (ss.map fun s => .lit (.string s)), p)) : cs = ss.map str := by
  obtain ⟨xs, m, _, hx, hl, hxl, hf⟩ := DataW.trod_array ht h
  simp only [Prod.mk.injEq, DataW.agg.injEq] at hx
  have hs : ss.length = n := by have := congrArg List.length hx.1; simpa [hxl] using this
  rw [hct] at hl
  apply List.ext_getElem?
  intro i
  by_cases hi : i < n
  · have h1 := hf i hi
    rw [hce, Nat.mul_one, List.getElem?_eq_getElem (by omega)] at h1
    obtain ⟨s, hc, hx', _⟩ := DataW.trod_string he h1
    have h2 : cs[i]? = some (.string s) := by
      have := congrArg (·[0]?) hc
      simpa [List.getElem?_take, List.getElem?_drop] using this
    have h3 := congrArg (·[i]?) hx.1
    simp only [List.getElem?_map, List.getElem?_eq_getElem (show i < xs.length by omega), List.getElem?_eq_getElem (show i < ss.length by omega), Option.map_some, hx', Option.some.injEq, DataW.lit.injEq, Lit.string.injEq] at h3
    have h4 : (ss[i]'(by omega)) = s.data.toList := h3
    rw [h2, List.getElem?_map, List.getElem?_eq_getElem (show i < ss.length by omega), Option.map_some, h4]
  · rw [List.getElem?_eq_none (by omega), List.getElem?_eq_none (by simp; omega)]
theorem two_funcs {fuel : Nat} {t e : TypeId} {cs : List Value} {a b : DataW H} {p : List MemPlace} (ht : P.underlying t = some (.array 2 e)) (hce : P.cellsOf e = 1) (hct : P.cellsOf t = 2)
    (h : DataW.trod enc P w base spare held fuel t cs = some (.agg [a, b], p)) :
    ∃ u v m q r, cs = [u, v] ∧ DataW.trod enc P w base spare held m e [u] = some (a, q) ∧ DataW.trod enc P w base spare held m e [v] = some (b, r) := by
  obtain ⟨xs, m, _, hx, hl, hxl, hf⟩ := DataW.trod_array ht h
  rw [hct] at hl
  match cs, hl with
  | [u, v], _ =>
    match xs, hxl with
    | [x, y], _ =>
      simp only [Prod.mk.injEq, DataW.agg.injEq, List.map_cons, List.map_nil, List.cons.injEq, and_true] at hx
      have f0 := hf 0 (by omega)
      have f1 := hf 1 (by omega)
      rw [hce] at f0 f1
      exact ⟨u, v, m, x.2, y.2, rfl, by rw [hx.1.1]; simpa using f0, by rw [hx.1.2]; simpa using f1⟩
theorem two_rows {fuel : Nat} {t e : TypeId} {cs : List Value} {a b : DataW H} {p : List MemPlace} (ht : P.underlying t = some (.array 2 e)) (hce : P.cellsOf e = 2) (hct : P.cellsOf t = 4)
    (h : DataW.trod enc P w base spare held fuel t cs = some (.agg [a, b], p)) :
    ∃ u v x y m q r, cs = [u, v, x, y] ∧ DataW.trod enc P w base spare held m e [u, v] = some (a, q) ∧ DataW.trod enc P w base spare held m e [x, y] = some (b, r) := by
  obtain ⟨xs, m, _, hx, hl, hxl, hf⟩ := DataW.trod_array ht h
  rw [hct] at hl
  match cs, hl with
  | [u, v, k, l], _ =>
    match xs, hxl with
    | [x, y], _ =>
      simp only [Prod.mk.injEq, DataW.agg.injEq, List.map_cons, List.map_nil, List.cons.injEq, and_true] at hx
      have f0 := hf 0 (by omega)
      have f1 := hf 1 (by omega)
      rw [hce] at f0 f1
      exact ⟨u, v, k, l, m, x.2, y.2, rfl, by rw [hx.1.1]; simpa using f0, by rw [hx.1.2]; simpa using f1⟩
end
theorem var_block {P : Program} {w : World} {n : String} {g : Nat} {cs : Array Value} (hg : P.globalNamed n = some g) (h : w.var? P n = some cs) : ∃ t fr, w.heap[g]? = some (.cells cs t fr) := by
  simp only [World.var?, hg, Option.bind_some] at h
  split at h
  · rename_i c t fr he
    injection h with h
    subst h
    exact ⟨t, fr, he⟩
  · cases h

abbrev laidList : List (String × DataW Unit) := [("splicery/lex.signs", Rows.laid_splicery_lex_signs), ("splicery/lex.kinds", Rows.laid_splicery_lex_kinds), ("splicery/lex.keywords", Rows.laid_splicery_lex_keywords)]
theorem gKw : Tryd.prog.globalNamed "splicery/lex.keywords" = some 0 := by kernel_rfl
theorem gKinds : Tryd.prog.globalNamed "splicery/lex.kinds" = some 1 := by kernel_rfl
theorem gSigns : Tryd.prog.globalNamed "splicery/lex.signs" = some 2 := by kernel_rfl
theorem tKw : (Tryd.prog.globals[0]?).map (·.type) = some 69 := by kernel_rfl
theorem tKinds : (Tryd.prog.globals[1]?).map (·.type) = some 73 := by kernel_rfl
theorem tSigns : (Tryd.prog.globals[2]?).map (·.type) = some 74 := by kernel_rfl
theorem c9 : Tryd.prog.cellsOf 9 = 1 := by kernel_rfl
theorem c67 : Tryd.prog.cellsOf 67 = 1 := by kernel_rfl
theorem c69 : Tryd.prog.cellsOf 69 = 27 := by kernel_rfl
theorem c72 : Tryd.prog.cellsOf 72 = 2 := by kernel_rfl
theorem c73 : Tryd.prog.cellsOf 73 = 4 := by kernel_rfl
theorem c74 : Tryd.prog.cellsOf 74 = 18 := by kernel_rfl

theorem of_laid {W : World} (h : laidMetH Tryd.prog laidList W) : Tabs W ∧ Kw W := by
  have hk : ∃ t fr, W.heap[1]? = some (.cells kindsC t fr) := by
    obtain ⟨g, t, cs, fuel, p, hg, ht, hv, hd⟩ := h.funcs (n := "splicery/lex.kinds") (List.mem_cons_of_mem _ (List.mem_cons_self ..))
    obtain rfl := Option.some.inj (gKinds.symm.trans hg)
    obtain rfl := Option.some.inj (tKinds.symm.trans ht)
    have hd' : DataW.trod (funcToken Tryd.prog) Tryd.prog W 0 (fun _ => true) true fuel 73 cs.toList = some (.agg [.agg [.held [115, 112, 108, 105, 99, 101, 114, 121, 47, 108, 101, 120, 46, 108, 101, 116, 116, 101, 114], .held [115, 112, 108, 105, 99, 101, 114, 121, 47, 108, 101, 120, 46, 101, 105, 116, 104, 101, 114]], .agg [.held [115, 112, 108, 105, 99, 101, 114, 121, 47, 108, 101, 120, 46, 100, 105, 103, 105, 116], .held [115, 112, 108, 105, 99, 101, 114, 121, 47, 108, 101, 120, 46, 100, 105, 103, 105, 116]]], p) := hd
    obtain ⟨u, v, x, y, m, q, r, hcs, h1, h2⟩ := two_rows Tryd.underlying73 c72 c73 hd'
    obtain ⟨u', v', m', q', r', e1, f1, f2⟩ := two_funcs Tryd.underlying72 c67 c72 h1
    obtain ⟨x', y', m'', q'', r'', e2, f3, f4⟩ := two_funcs Tryd.underlying72 c67 c72 h2
    simp only [List.cons.injEq, and_true] at e1 e2
    obtain ⟨rfl, rfl⟩ := e1
    obtain ⟨rfl, rfl⟩ := e2
    obtain rfl := Go.func_of_trod (f0 := 38) Tryd.underlying67 (by kernel_rfl) f1
    obtain rfl := Go.func_of_trod (f0 := 67) Tryd.underlying67 (by kernel_rfl) f2
    obtain rfl := Go.func_of_trod (f0 := 68) Tryd.underlying67 (by kernel_rfl) f3
    obtain rfl := Go.func_of_trod (f0 := 68) Tryd.underlying67 (by kernel_rfl) f4
    obtain ⟨t, fr, hb⟩ := var_block gKinds hv
    refine ⟨t, fr, ?_⟩
    rw [hb, show cs = kindsC from by rw [kindsC, ← hcs]]
  have hl : laidMet Tryd.prog [("splicery/lex.signs", Rows.laid_splicery_lex_signs), ("splicery/lex.keywords", Rows.laid_splicery_lex_keywords)] W := h.1
  obtain ⟨ps, ⟨g, t, cs, fuel, p, q, hg, ht, hv, hd, ⟨g2, t2, cs2, fuel2, p2, q2, hg2, ht2, hv2, hd2, _, _⟩, _⟩, _⟩ := hl
  obtain rfl := Option.some.inj (gSigns.symm.trans hg)
  obtain rfl := Option.some.inj (tSigns.symm.trans ht)
  obtain rfl := Option.some.inj (gKw.symm.trans hg2)
  obtain rfl := Option.some.inj (tKw.symm.trans ht2)
  have e1 : cs.toList = Lx.signsL.map str := cells_of_strs Tryd.underlying74 Tryd.underlying9 c9 c74 hd
  have e2 : cs2.toList = keywordsL.map str := cells_of_strs Tryd.underlying69 Tryd.underlying9 c9 c69 hd2
  obtain ⟨t, fr, hb⟩ := var_block gSigns hv
  obtain ⟨t2, fr2, hb2⟩ := var_block gKw hv2
  exact ⟨⟨hk, t, fr, by rw [hb, show cs = strs Lx.signsL from by rw [strs, ← e1]]⟩, t2, fr2, by rw [hb2, show cs2 = strs keywordsL from by rw [strs, ← e2]]⟩
end Go.Proofs.YtjjdfccbkohlcaaDoor
