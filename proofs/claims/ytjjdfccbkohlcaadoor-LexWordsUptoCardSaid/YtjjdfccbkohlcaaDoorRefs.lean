/- The reference's Keywords, Word, Text and Usual. -/
import Derived.Test.YtjjdfccbkohlcaaDoorText
import Derived.Test.YtjjdfccbkohlcaaDoorPieces
import Derived.Test.YtjjdfccbkohlcaaDoorLayout
namespace Go.Proofs.YtjjdfccbkohlcaaDoor
open Go.RowKit

def ListPost (n : Nat) (xs : List Value) (w : World) (e : Ending) (w' : World) : Prop :=
  ∃ A c, e = .returned (.slice A n c) ∧ Rd w' w'.heap.size 1 A n xs ∧ n ≤ c ∧ Below w.heap.size w w'

theorem keywords_any (w : World) : Calls Tryd.prog 22 #[] w (ListPost 27 (strCells keywordsL) w) := by
  go_enter Tryd.func22, Tryd.ntmps22
  go_wp2_with fail
  go_ret
  refine ⟨_, _, rfl, ?_, Nat.le_refl _, below_new w _⟩
  exact Rd.lit w 9 (strCells keywordsL)

set_option maxHeartbeats 2000000 in
set_option maxRecDepth 100000 in
theorem rword_any (s : ByteArray) (w : World) (hs : s.size ≤ 9223372036854775000) (b : Bool) (hb : Hid (wordB s.data.toList = b)) : Calls Tryd.prog 24 #[.string s] w (RetB (.bool b) w) := by
  by_cases h0 : s.size = 0
  · have e2 : ((s.size : Int) == 0) = true := by rw [h0]; rfl
    have Hb := Lib.hid (hb.out.symm.trans (word_none h0))
    clear hb h0
    go_enter Tryd.func24, Tryd.ntmps24
    go_wp2_with fail
    go_ret
    exact RetB.bool (by rw [Hb.out]) (Below.refl _ _)
  · have h1 : 0 < s.size := by omega
    have e2 : ((s.size : Int) == 0) = false := beq_eq_false_iff_ne.2 (by omega)
    have Hb := Lib.hid (hb.out.symm.trans (word_head h1))
    have i1 : (0 : Int) < (s.size : Int) := by omega
    have gi : s[0]? = some s[0] := by simp [h1]
    clear hb h0
    rcases kind3 s[0] with ⟨hk, hE, hD⟩ | ⟨hk, hE, hD⟩ | ⟨hk, hE, hD⟩
    · have hl : Lx.isL s[0] = true := by rw [Lx.isE, hD] at hE; simpa using hE
      have Hl := Lib.hid hl
      have Hk := Lib.hid hk
      clear hl hk hE hD
      go_enter Tryd.func24, Tryd.ntmps24
      go_wp2_with fail
      refine (kind_any _ _).mono ?_
      rintro e w' ⟨rfl, rfl⟩
      rw [Hk.out]
      go_wp2_with fail
      refine (keywords_any _).mono ?_
      rintro e w1 ⟨A1, c1, rfl, r1, -, b1⟩
      go_wp2_with fail
      go_loopw [4] (fun x wr => ∃ k : Nat, k ≤ 27 ∧ x = .int .i64 k ∧ (keywordsL.take k).contains s.data.toList = false ∧ Below w.heap.size w wr ∧ Rd wr wr.heap.size 1 A1 27 (strCells keywordsL)) (fun x _ => 27 - (intOf x).toNat)
      case atStart => exact ⟨0, by omega, rfl, by simp, b1, r1⟩
      case round =>
        obtain ⟨k, hk, rfl, hc, hbl, r2⟩ := hrel
        have Hc := Lib.hid hc
        clear hc r1
        by_cases hlt : k < 27
        · have l1 : k < keywordsL.length := hlt
          obtain ⟨g, o, rfl, hg, x1⟩ := r2.str rfl hlt
          obtain ⟨p, hp⟩ : ∃ p : ByteArray, p = ⟨(keywordsL[k]).toArray⟩ := ⟨_, rfl⟩
          have lp : p.toList = keywordsL[k] := by rw [hp, Lib.toList_data]
          rw [← hp] at x1
          clear hp
          have hts := take_snoc l1
          have i2 : (k : Int) < 27 := by omega
          cases hx : p.toList == s.toList
          · have Hts : Hid ((keywordsL.take (k + 1)).contains s.data.toList = false) := Lib.hid (by
              rw [hts, List.contains_eq_any_beq, List.any_append, ← List.contains_eq_any_beq, Hc.out]
              rw [lp, Lib.toList_data] at hx
              simp only [List.any_cons, List.any_nil, Bool.or_false, Bool.false_or]
              rw [Bool.eq_false_iff]
              intro e
              rw [beq_iff_eq] at e
              rw [← e] at hx
              simp at hx)
            clear hts lp
            go_wp2_with fail
            go_roundw
            case rel => exact ⟨k + 1, by omega, by go_num, Hts.out, hbl, r2⟩
            case measure => simp [intOf]; omega
          · have Hw : Hid (keywordsL.contains s.data.toList = true) := Lib.hid (by
              rw [lp, Lib.toList_data, beq_iff_eq] at hx
              rw [← hx]
              exact List.contains_iff_mem.2 (List.getElem_mem l1))
            clear hts lp
            go_wp2_with fail
            go_ret
            exact RetB.bool (by rw [Hb.out, Hw.out]; simp) hbl
        · obtain rfl : 27 = k := by omega
          have hc := Hc.out
          rw [List.take_of_length_le (show keywordsL.length ≤ 27 from Nat.le_refl _)] at hc
          have Hc := Lib.hid hc
          clear hc
          go_wp2_with fail
          refine (end_any s 0 _ h1 hs _ (Lib.hid rfl)).mono ?_
          rintro e w3 ⟨rfl, b3⟩
          rw [List.drop_zero]
          have ht := Lx.tokN_le s.data.toList
          by_cases hq : Lx.tokN s.data.toList = s.size
          · have eq : endI 0 (Lx.tokN s.data.toList) = (s.size : Int) := by rw [endI, if_neg (by omega), hq, Nat.zero_add]
            have Hq := Lib.hid hq
            rw [eq]
            clear eq hq ht
            go_wp2_with fail
            go_ret
            exact RetB.bool (by rw [Hb.out, Hc.out, Hl.out, Hq.out]; simp) (below_go hbl b3)
          · have Hq := Lib.hid hq
            have eq : (endI 0 (Lx.tokN s.data.toList) == (s.size : Int)) = false := by
              unfold endI
              split
              · exact beq_eq_false_iff_ne.2 (by omega)
              · exact beq_eq_false_iff_ne.2 (by omega)
            clear hq ht
            generalize endI 0 (Lx.tokN s.data.toList) = E at *
            go_wp2_with fail
            go_ret
            exact RetB.bool (by rw [Hb.out, Hl.out, beq_eq_false_iff_ne.2 Hq.out]; simp [*]) (below_go hbl b3)
    all_goals
      have hl : Lx.isL s[0] = false := by
        first
          | (rw [Lx.isE] at hE; simp only [Bool.or_eq_false_iff] at hE; exact hE.1)
          | (rw [← Lx.isLI_eq, Lx.isLI]; rw [← Lx.isDI_eq, Lx.isDI] at hD; simp at hD ⊢; omega)
      have Hl := Lib.hid hl
      have Hk := Lib.hid hk
      clear hl hk hE hD
      go_enter Tryd.func24, Tryd.ntmps24
      go_wp2_with fail
      refine (kind_any _ _).mono ?_
      rintro e w' ⟨rfl, rfl⟩
      rw [Hk.out]
      go_wp2_with fail
      go_ret
      exact RetB.bool (by rw [Hb.out, Hl.out]; rfl) (Below.refl _ _)
end Go.Proofs.YtjjdfccbkohlcaaDoor
