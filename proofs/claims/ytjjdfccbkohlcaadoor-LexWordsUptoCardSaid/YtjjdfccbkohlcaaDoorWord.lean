/- Word: a word and no keyword. -/
import Derived.Test.YtjjdfccbkohlcaaDoorUsual
namespace Go.Proofs.YtjjdfccbkohlcaaDoor
open Go.RowKit

def keywordsL : List Lx.Bs := [[109, 111, 100, 117, 108, 101], [117, 115, 101], [114, 101, 99], [99, 97, 115, 101], [102, 117, 110], [111, 110], [116, 101, 115, 116], [99, 111, 110, 118], [116, 114, 117, 101], [102, 97, 108, 115, 101], [110, 111, 116], [97, 110, 100], [111, 114], [105, 102], [116, 104, 101, 110], [101, 108, 115, 101], [108, 101, 116], [105, 110], [109, 97, 116, 99, 104], [102, 111, 108, 100], [111, 118, 101, 114], [100, 111], [108, 101, 110], [106, 111, 105, 110], [76, 105, 115, 116], [73, 110, 116], [66, 111, 111, 108]]
def Kw (w : World) : Prop := ∃ t fr, w.heap[0]? = some (.cells (strs keywordsL) t fr)
theorem below_kw {B : Nat} {w w' : World} (h : Below B w w') (hB : w.heap.size ≤ B) (ht : Kw w) : Kw w' := by
  obtain ⟨t1, f1, h1⟩ := ht
  exact ⟨t1, f1, (h.block 0 (Nat.lt_of_lt_of_le (Array.getElem?_eq_some_iff.1 h1).1 hB)).trans h1⟩

def wordB (l : Lx.Bs) : Bool := match l with
  | [] => false
  | x :: _ => Lx.isL x && Lx.tokN l == l.length && !keywordsL.contains l

theorem contains_any (s : ByteArray) (w : World) (hk : Kw w) (b : Bool) (hb : Hid (keywordsL.contains s.data.toList = b)) : Calls Tryd.prog 39 #[.slice (some ⟨0, 0, none⟩) 27 27, .string s] w (Ret (.bool b) w) := by
  obtain ⟨t, fr, h⟩ := hk
  refine (Tryd.slices_Contains_string 0 0 27 27 (keywordsL.map fun x => ⟨x.toArray⟩) s w (by decide) (by omega) ?_).mono ?_
  · intro j hj
    have hj' : j < keywordsL.length := by simpa using hj
    rw [cell_of_row w 0 (0 + j) (strs keywordsL) t fr h]
    simp [strs, hj']
  · rintro e w' ⟨rfl, rfl⟩
    refine Ret.bool ?_
    rw [← hb.out, Bool.eq_iff_iff, Lib.containsS_iff, List.take_of_length_le (by decide), List.contains_iff_mem, List.mem_map]
    constructor
    · rintro ⟨x, hx, e⟩
      subst e
      exact hx
    · intro hx
      exact ⟨_, hx, rfl⟩

theorem word_head {s : ByteArray} (h : 0 < s.size) : wordB s.data.toList = (Lx.isL s[0] && Lx.tokN s.data.toList == s.size && !keywordsL.contains s.data.toList) := by
  have hl : s.data.toList.length = s.size := by simp
  obtain ⟨r, hr⟩ : ∃ r, s.data.toList = s[0] :: r := ⟨_, tok_cons h⟩
  rw [hr] at hl ⊢
  rw [wordB, hl]
theorem word_none {s : ByteArray} (h : s.size = 0) : wordB s.data.toList = false := by
  have : s.data.toList = [] := List.eq_nil_of_length_eq_zero (by simpa using h)
  rw [this]; rfl

set_option maxRecDepth 100000 in
theorem word_any (s : ByteArray) (w : World) (hs : s.size ≤ 9223372036854775807) (ht : Tabs w) (hk : Kw w) (b : Bool) (hb : Hid (wordB s.data.toList = b)) : Calls Tryd.prog 23 #[.string s] w (RetB (.bool b) w) := by
  by_cases h0 : s.size = 0
  · have e1 : s.toList = [] := by rw [Lib.toList_data]; exact List.eq_nil_of_length_eq_zero (by simpa using h0)
    have e2 : (!s.toList.isEmpty) = false := by rw [e1]; rfl
    have Hb := Lib.hid (hb.out.symm.trans (word_none h0))
    clear hb h0
    go_enter Tryd.func23, Tryd.ntmps23
    go_wp2_with fail
    all_goals go_ret
    all_goals exact RetB.bool (by rw [Hb.out]) (Below.refl _ _)
  · have h1 : 0 < s.size := by omega
    have hn : ¬ s.toList = [] := by rw [Lib.toList_data]; exact fun e => absurd (show s.size = 0 from by rw [← size_list, e]; rfl) h0
    have e2 : (!s.toList.isEmpty) = true := by cases hh : s.toList <;> simp_all
    have Hb := Lib.hid (hb.out.symm.trans (word_head h1))
    clear hb h0
    go_enter Tryd.func23, Tryd.ntmps23
    go_wp2_with fail
    refine (letter_any _ _).mono ?_
    rintro e w' ⟨rfl, rfl⟩
    rw [Lx.isLI_eq]
    cases hl : Lx.isL s[0]
    · have Hl := Lib.hid hl
      clear hl
      go_wp2_with fail
      go_ret
      exact RetB.bool (by rw [Hb.out, Hl.out]; rfl) (Below.refl _ _)
    · have Hl := Lib.hid hl
      clear hl
      go_wp2_with fail
      refine (token_any _ _ h1 hs ht).mono ?_
      rintro e w1 ⟨rfl, hb1⟩
      by_cases htk : Lx.tokN s.data.toList = s.size
      · have Htk := Lib.hid htk
        rw [htk]
        clear htk
        go_wp2_with fail
        refine (contains_any _ _ (below_kw hb1 (Nat.le_refl _) hk) _ (Lib.hid rfl)).mono ?_
        rintro e w2 ⟨rfl, rfl⟩
        cases hc : keywordsL.contains s.data.toList
        all_goals
          have Hc := Lib.hid hc
          clear hc
          go_wp2_with fail
          go_ret
          exact RetB.bool (by rw [Hb.out, Hl.out, Htk.out, Hc.out]; simp) hb1
      · have Htk := Lib.hid htk
        have hx : ((Lx.tokN s.data.toList : Int) == (s.size : Int)) = false := by simp; omega
        go_wp2_with fail
        all_goals go_ret
        all_goals exact RetB.bool (by rw [Hb.out, Hl.out, beq_eq_false_iff_ne.2 Htk.out]; rfl) hb1
end Go.Proofs.YtjjdfccbkohlcaaDoor
