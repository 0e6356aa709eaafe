/- The reference's Spoilt. -/
import Derived.Test.YtflfachkoffiiaaOut
namespace Go.Proofs.Ytflfachkoffiiaa
open Go.RowKit Go.Lib

def longS : ByteArray := ⟨#[48, 49, 50, 51, 52, 53, 54, 55, 56, 57, 97, 98, 99, 100, 101, 102]⟩
def row9 : Array Value := #[.string ⟨#[]⟩, .string ⟨#[62]⟩, .string ⟨#[97, 62]⟩, .string ⟨#[62, 98]⟩, .string ⟨#[97, 62, 98, 62, 99]⟩, .string ⟨#[48, 49, 50, 51, 52, 53, 54, 55, 56, 57, 97, 98, 99, 100, 101, 102]⟩,
  .string (⟨#[48, 49, 50, 51, 52, 53, 54, 55, 56, 57, 97, 98, 99, 100, 101, 102]⟩ ++ ⟨#[120]⟩), .string (⟨#[48, 49, 50, 51, 52, 53, 54, 55, 56, 57, 97, 98, 99, 100, 101, 102]⟩ ++ ⟨#[62, 98]⟩), .string (⟨#[97, 62]⟩ ++ ⟨#[48, 49, 50, 51, 52, 53, 54, 55, 56, 57, 97, 98, 99, 100, 101, 102]⟩ ++ ⟨#[120]⟩)]
def row4 : Array Value := #[.string ⟨#[]⟩, .string ⟨#[97, 62, 98]⟩, .string ⟨#[48, 49, 50, 51, 52, 53, 54, 55, 56, 57, 97, 98, 99, 100, 101, 102]⟩, .string (⟨#[48, 49, 50, 51, 52, 53, 54, 55, 56, 57, 97, 98, 99, 100, 101, 102]⟩ ++ ⟨#[120]⟩)]
theorem row9_get : ∀ {j : Nat}, j < 9 → ∃ s : ByteArray, row9[j]? = some (.string s) ∧ s.size ≤ 100
  | 0, _ => ⟨_, rfl, by decide⟩
  | 1, _ => ⟨_, rfl, by decide⟩
  | 2, _ => ⟨_, rfl, by decide⟩
  | 3, _ => ⟨_, rfl, by decide⟩
  | 4, _ => ⟨_, rfl, by decide⟩
  | 5, _ => ⟨_, rfl, by decide⟩
  | 6, _ => ⟨_, rfl, by decide⟩
  | 7, _ => ⟨_, rfl, by decide⟩
  | 8, _ => ⟨_, rfl, by decide⟩
theorem row4_get : ∀ {j : Nat}, j < 4 → ∃ s : ByteArray, row4[j]? = some (.string s) ∧ s.size ≤ 100
  | 0, _ => ⟨_, rfl, by decide⟩
  | 1, _ => ⟨_, rfl, by decide⟩
  | 2, _ => ⟨_, rfl, by decide⟩
  | 3, _ => ⟨_, rfl, by decide⟩
theorem around_nat (z : Int) {m : Nat} (h : 0 < m) : ∃ r : Nat, aroundI z m = r ∧ r < m := by
  have := around_range z (most := (m : Int)) (by omega)
  exact ⟨(aroundI z m).toNat, by omega, by omega⟩
/-- all strings are of bearable length -/
def Lens (ss : List Bs) : Prop := ∀ b ∈ ss, b.length ≤ 9223372036854775807
theorem Lens.snoc {ss : List Bs} (h : Lens ss) {s : ByteArray} (hs : s.size ≤ 100) : Lens (ss ++ [s.data.toList]) := by
  intro b hb
  rcases List.mem_append.1 hb with hb | hb
  · exact h b hb
  · rw [List.mem_singleton.1 hb, list_size]; omega
theorem strCells_snoc' (ss : List Bs) (s : ByteArray) : strCells ss ++ [.string s] = strCells (ss ++ [s.data.toList]) := by
  rw [strCells_snoc, str_of (s := s) rfl]
theorem blk_row {w : World} (cs : Array Value) (t : TypeId) (j : Nat) {u : Value} (h : cs[j]? = some u) : (w.alloc (.cells cs t)).cell? ⟨w.heap.size, j, none⟩ = some u := by
  rw [World.cell?_alloc_at _ _ _ _ rfl, h]
/-- an append to a slice of the call's own, behind an allocation: what stays -/
theorem stays {a w w' : World} {v : Value} {xs : List Value} (hb : Below a.heap.size a w) (hq : QAt w a.heap.size v xs) (hg : w.grownBy w' v.ownBlock) : Below a.heap.size a w' := hb.grown hg hb.size (fun _ hk => (hq.lt hk).1)

def strs8 : List Bs := [[97], [98], [99], [100], [101], [102], [103], [104]]
theorem src_8 (w : World) : Src Try.prog 1 34 (.slice (some ⟨w.heap.size, 0, none⟩) 8 8) 8 (strCells strs8) (w.alloc (.cells #[.string ⟨#[97]⟩, .string ⟨#[98]⟩, .string ⟨#[99]⟩, .string ⟨#[100]⟩, .string ⟨#[101]⟩, .string ⟨#[102]⟩, .string ⟨#[103]⟩, .string ⟨#[104]⟩] 9)) :=
  Src.ofSlice _ Try.underlying34 _ 8 8 (strCells strs8) rfl (fun j u hu => by
    rw [Addr.add_lit, Nat.zero_add]
    exact blk_row _ 9 j (by rw [← List.getElem?_toArray] at hu; exact hu)) (fun u hu => by
    obtain ⟨s, _, rfl⟩ := List.mem_map.1 hu; rfl)
theorem Lens.more8 {ss : List Bs} (h : Lens ss) : Lens (ss ++ strs8) := by
  intro b hb
  rcases List.mem_append.1 hb with hb | hb
  · exact h b hb
  · have : ∀ b ∈ strs8, b.length ≤ 9223372036854775807 := by decide
    exact this b hb
/-- the clause without anything -/
def emptyCl : ClV := ⟨[], none, 0, 0, [], none, 0, 0, []⟩
theorem empty_at (w : World) (B : Nat) : ClAt w B emptyCl := ⟨by decide, by decide, by decide, Rd.nil, Rd.nil, (fun b hb => by cases hb), (fun b hb => by cases hb)⟩
theorem empty_snoc (l : List ClV) (j : Nat) : clsCells (l ++ List.replicate j emptyCl) ++ [.string ⟨#[]⟩, .slice none 0 0, .slice none 0 0] = clsCells (l ++ List.replicate (j + 1) emptyCl) := by
  rw [List.replicate_succ', ← List.append_assoc]
  simp only [clsCells, List.flatMap_append, List.flatMap_cons, List.flatMap_nil, List.append_nil, List.append_assoc]
  rfl

theorem spoilt_none (A : Option Addr) (c : Nat) (how by' : Int) (w : World) : Calls Try.prog 10 #[.slice A 0 c, .int .i64 how, .int .i64 by'] w (SpPost w) := by
  go_enter Try.func10, Try.ntmps10
  go_wp2_with fail
  go_ret
  exact ⟨A, 0, c, [], rfl, .inl (by omega), by omega, by omega, ⟨Rd.nil, rfl, fun c hc => by cases hc⟩, Below.refl _ _⟩

set_option maxHeartbeats 8000000 in
set_option maxRecDepth 100000 in
theorem spoilt_some (A : Option Addr) (n c : Nat) (l : List ClV) (how by' : Int) (w : World) (h : Cls w w.heap.size A n l) (hn0 : 0 < n) (hn : n ≤ 8) (hv : validB l = true) (h1 : -9223372036854775808 ≤ how ∧ how ≤ 9223372036854775807) (h2 : -9223372036854775808 ≤ by' ∧ by' ≤ 9223372036854775807) :
    Calls Try.prog 10 #[.slice A n c, .int .i64 how, .int .i64 by'] w (SpPost w) := by
  obtain ⟨b, off, hA, hbb, hcell⟩ := h.rd.2 hn0
  subst hA
  obtain ⟨i0, hi, hz0, hz1, hz2⟩ := info_parts info36
  have H := Lib.hid h
  have HV := Lib.hid hv
  have HL := Lib.hid h.len
  obtain ⟨k, hk⟩ : ∃ k : Nat, aroundI by' n = k := ⟨(aroundI by' n).toNat, by have := around_range by' (most := (n : Int)) (by omega); omega⟩
  have hkn : k < n := by have := around_range by' (most := (n : Int)) (by omega); omega
  obtain ⟨r, hr⟩ : ∃ r : Nat, aroundI how 8 = r := ⟨(aroundI how 8).toNat, by have := around_range how (most := (8 : Int)) (by omega); omega⟩
  have hr8 : r < 8 := by have := around_range how (most := (8 : Int)) (by omega); omega
  have HK := Lib.hid hk
  have HR := Lib.hid hr
  have hnews : ∀ j u, (clsCells l)[j]? = some u → (w.alloc (.cells #[] 36)).cell? ((⟨b, off, none⟩ : Addr).add j) = some u := fun j u hu => by
    rw [Addr.add_lit, (below_new w (.cells #[] 36)).cell (p := ⟨b, off + j, none⟩) hbb]
    exact hcell j u hu
  have HN := Lib.hid hnews
  have HO := Lib.hid (World.ownsRow_lit (base := w.heap.size) (e := 36) (size := 3) w #[] 0 (Nat.le_refl _) (by decide) rfl)
  have HCL := Lib.hid (show (clsCells l).length = n * 3 by rw [clsCells_length, h.len])
  have hone : ∀ u ∈ clsCells l, u.oneCell' = true := by
    intro v hv
    simp only [clsCells, List.mem_flatMap, clCells] at hv
    obtain ⟨x, _, hv⟩ := hv
    simp only [List.mem_cons, List.not_mem_nil, or_false] at hv
    rcases hv with rfl | rfl | rfl <;> rfl
  have HON := Lib.hid hone
  have K3 : 0 + n ≤ maxLen := by unfold maxLen; omega
  have K4 : (0 + n) * 64 ≤ 140737488355328 := by omega
  have K5 : w.heap.size ≤ (w.alloc (.cells #[] 36)).heap.size := by simp
  have K6 := Lib.hid K5
  have hne : ((n : Int) == 0) = false := beq_eq_false_iff_ne.2 (by omega)
  clear h hv hk hr hnews hone hcell K5
  go_enter Try.func10, Try.ntmps10
  go_wp2_with (at_builtin; refine wpList_append_lies _ rfl _ _ 23 rfl w.heap.size 36 i0 _ 3 64 Try.underlying23 hi hz0 hz1 hz2 rfl (by decide) (.slice (some ⟨w.heap.size, 0, none⟩) 0 0) 0 [] rfl HO.out ⟨b, off, none⟩ n c (clsCells l) rfl HCL.out HN.out HON.out (by omega) K3 K4 K6.out _ rfl ?_)
  intro g cap w1 hown hgrow hor hlt
  have hb1 : Below w.heap.size w w1 := (below_new w (.cells #[] 36)).grown hgrow (by simp) (fun q hq => Nat.le_of_eq (Option.some.inj (show some w.heap.size = some q from hq)))
  have hg : w.heap.size ≤ g := by rcases hor with h | h
                                  · exact Nat.le_of_eq (Option.some.inj (show some w.heap.size = some g from h))
                                  · rw [h]; simp
  have HOw := Lib.hid (Ow.start H.out hb1 hg hown)
  have HB1 := Lib.hid hb1
  have hcap : n ≤ cap := by
    obtain ⟨A', c', e, hc⟩ := own_slice hown
    injection e with _ _ e3; omega
  have HOwn := Lib.hid hown
  clear hown hgrow hor hlt hb1
  go_wp2_with fail
  refine (around_any by' n w1 h2.1 h2.2 (by omega) (by omega) k HK).mono ?_
  rintro e w' ⟨rfl, rfl⟩
  go_wp2_with fail
  refine (around_any how 8 w1 h1.1 h1.2 (by omega) (by omega) r HR).mono ?_
  rintro e w' ⟨rfl, rfl⟩
  clear HK HR
  have hkc : (k : Int) < (n : Int) := by omega
  have hk0 : (0 : Int) ≤ (k : Int) := by omega
  have hkl : k < l.length := by have := HL.out; omega
  match r, hr8 with
  | 0, _ =>
    have f0 := HOw.out.frozen (k * 3)
    have c0 := HOw.out.cell (j := 0) hkl (by decide)
    rw [Nat.add_zero] at c0
    go_wp2_with fail
    go_ret
    exact (HOw.out.set0 hkl _ (by decide)).done (by rw [List.length_set]; exact HL.out) hn hcap (HB1.out.setCell (p := ⟨g, k * 3, none⟩) hg _)
  | 1, _ =>
    obtain ⟨b', o', x, he, _, hx, hxa, x0, x1, x2⟩ := (H.out.go HB1.out).at_ hkn
    injection he with he
    injection he with he1 he2
    subst he1 he2
    have HE := Lib.hid (QAt.empty (w := w1.alloc (.cells #[] 9)) (base := w1.heap.size) (g := w1.heap.size) (Nat.le_refl _) (by simp))
    have HG1 := Lib.hid (show w1.heap.size ≤ (w1.alloc (.cells #[] 9)).heap.size from by simp)
    have HS := Lib.hid (src_rd (c := x.c1) (hxa.r1.below (below_new w1 (.cells #[] 9))))
    have hm8 : x.n1 ≤ 8 := by have := ((small_of_valid HV.out).2 x (List.mem_of_getElem? hx)).1; rwa [hxa.l1] at this
    have HML := Lib.hid (show (strCells x.must).length = x.n1 by rw [strCells, List.length_map, hxa.l1])
    have HLE := Lib.hid (show Lens x.must from hxa.f1)
    have f1 := HOw.out.frozen (k * 3 + 1)
    clear x0 x2 hx hxa
    go_wp2_with (at_builtin; refine wpList_append_q _ rfl _ _ rfl rfl w1.heap.size (.slice (some ⟨w1.heap.size, 0, none⟩) 0 0) [] rfl HE.out HG1.out _ x.n1 _ rfl HS.out (by simp; omega) ?_)
    intro v2 w2 hq2 hgr2 hloc2
    have HB2 := Lib.hid (stays (below_new w1 (.cells #[] 9)) HE.out hgr2)
    have HQ2 := Lib.hid hq2
    clear hq2 hgr2 hloc2
    obtain ⟨r9, hr9, hr9l⟩ := around_nat by' (m := 9) (by decide)
    have HR9 := Lib.hid hr9
    obtain ⟨s9, hs9, hz9⟩ := row9_get hr9l
    have y0 := blk_row (w := w2) row9 9 r9 hs9
    clear hr9 hs9
    go_wp2_with fail
    show Calls Try.prog 25 #[.int .i64 by', .int .i64 9] (w2.alloc (.cells row9 9)) _
    refine (around_any by' 9 _ h2.1 h2.2 (by omega) (by omega) r9 HR9).mono ?_
    obtain ⟨w3, hw3⟩ : ∃ w3, w3 = w2.alloc (.cells row9 9) := ⟨_, rfl⟩
    rw [← hw3] at y0 ⊢
    rintro e w' ⟨rfl, rfl⟩
    have HQ3 := Lib.hid (show QAt w3 w1.heap.size v2 (strCells x.must) by rw [hw3]; exact HQ2.out.alloc _)
    have HB3 := Lib.hid (show Below w1.heap.size w1 w3 by rw [hw3]; exact HB2.out.alloc HB2.out.size _)
    have HQ4 := Lib.hid (HQ3.out.alloc (.cells #[.string s9] 9))
    have HB4 := Lib.hid (HB3.out.alloc HB3.out.size (.cells #[.string s9] 9))
    have HS4 := Lib.hid (src_cellS (w := w3.alloc (.cells #[.string s9] 9)) (g := w3.heap.size) (s := s9) (blk_row _ 9 0 rfl))
    clear hw3
    go_wp2_with (at_builtin; refine wpList_append_q _ rfl _ _ rfl rfl w1.heap.size v2 (strCells x.must) rfl HQ4.out HB4.out.size _ 1 _ rfl HS4.out (by rw [HML.out]; omega) ?_)
    intro v4 w4 hq4 hgr4 hloc4
    have HB5 := Lib.hid (stays HB4.out HQ4.out hgr4)
    rw [strCells_snoc'] at hq4
    have HLE4 := Lib.hid (HLE.out.snoc hz9)
    have HSL := Lib.hid (show (strCells (x.must ++ [s9.data.toList])).length = x.n1 + 1 by rw [← strCells_snoc', List.length_append, HML.out]; rfl)
    obtain ⟨must4, hmust4⟩ : ∃ m4, m4 = x.must ++ [s9.data.toList] := ⟨_, rfl⟩
    rw [← hmust4] at hq4 HLE4 HSL
    clear hmust4
    obtain ⟨A4, c4, rfl, _, _⟩ := hq4.rd
    rw [HSL.out] at hq4 ⊢
    have HQ5 := Lib.hid hq4
    have HO4 := Lib.hid (HOw.out.below HB5.out)
    have g1 := HO4.out.frozen (k * 3 + 1)
    have c1 := HO4.out.cell (j := 1) hkl (by decide)
    clear hq4 hgr4 hloc4 y0 x1 f1
    go_wp2_with fail
    go_ret
    exact (HO4.out.set1 hkl (HQ5.out.base_le HOw.out.lt) (by omega) HLE4.out).done (by rw [List.length_set]; exact HL.out) hn hcap ((below_go HB1.out HB5.out).setCell (p := ⟨g, k * 3 + 1, none⟩) hg _)
  | 2, _ =>
    obtain ⟨b', o', x, he, _, hx, hxa, x0, x1, x2⟩ := (H.out.go HB1.out).at_ hkn
    injection he with he
    injection he with he1 he2
    subst he1 he2
    have HE := Lib.hid (QAt.empty (w := w1.alloc (.cells #[] 9)) (base := w1.heap.size) (g := w1.heap.size) (Nat.le_refl _) (by simp))
    have HG1 := Lib.hid (show w1.heap.size ≤ (w1.alloc (.cells #[] 9)).heap.size from by simp)
    have HS := Lib.hid (src_rd (c := x.c2) (hxa.r2.below (below_new w1 (.cells #[] 9))))
    have hm8 : x.n2 ≤ 8 := by have := ((small_of_valid HV.out).2 x (List.mem_of_getElem? hx)).2; rwa [hxa.l2] at this
    have HML := Lib.hid (show (strCells x.nots).length = x.n2 by rw [strCells, List.length_map, hxa.l2])
    have HLE := Lib.hid (show Lens x.nots from hxa.f2)
    have f1 := HOw.out.frozen (k * 3 + 2)
    clear x0 x1 hx hxa
    go_wp2_with (at_builtin; refine wpList_append_q _ rfl _ _ rfl rfl w1.heap.size (.slice (some ⟨w1.heap.size, 0, none⟩) 0 0) [] rfl HE.out HG1.out _ x.n2 _ rfl HS.out (by simp; omega) ?_)
    intro v2 w2 hq2 hgr2 hloc2
    have HB2 := Lib.hid (stays (below_new w1 (.cells #[] 9)) HE.out hgr2)
    have HQ2 := Lib.hid hq2
    clear hq2 hgr2 hloc2
    obtain ⟨r9, hr9, hr9l⟩ := around_nat by' (m := 4) (by decide)
    have HR9 := Lib.hid hr9
    obtain ⟨s9, hs9, hz9⟩ := row4_get hr9l
    have y0 := blk_row (w := w2) row4 9 r9 hs9
    clear hr9 hs9
    go_wp2_with fail
    show Calls Try.prog 25 #[.int .i64 by', .int .i64 4] (w2.alloc (.cells row4 9)) _
    refine (around_any by' 4 _ h2.1 h2.2 (by omega) (by omega) r9 HR9).mono ?_
    obtain ⟨w3, hw3⟩ : ∃ w3, w3 = w2.alloc (.cells row4 9) := ⟨_, rfl⟩
    rw [← hw3] at y0 ⊢
    rintro e w' ⟨rfl, rfl⟩
    have HQ3 := Lib.hid (show QAt w3 w1.heap.size v2 (strCells x.nots) by rw [hw3]; exact HQ2.out.alloc _)
    have HB3 := Lib.hid (show Below w1.heap.size w1 w3 by rw [hw3]; exact HB2.out.alloc HB2.out.size _)
    have HQ4 := Lib.hid (HQ3.out.alloc (.cells #[.string s9] 9))
    have HB4 := Lib.hid (HB3.out.alloc HB3.out.size (.cells #[.string s9] 9))
    have HS4 := Lib.hid (src_cellS (w := w3.alloc (.cells #[.string s9] 9)) (g := w3.heap.size) (s := s9) (blk_row _ 9 0 rfl))
    clear hw3
    go_wp2_with (at_builtin; refine wpList_append_q _ rfl _ _ rfl rfl w1.heap.size v2 (strCells x.nots) rfl HQ4.out HB4.out.size _ 1 _ rfl HS4.out (by rw [HML.out]; omega) ?_)
    intro v4 w4 hq4 hgr4 hloc4
    have HB5 := Lib.hid (stays HB4.out HQ4.out hgr4)
    rw [strCells_snoc'] at hq4
    have HLE4 := Lib.hid (HLE.out.snoc hz9)
    have HSL := Lib.hid (show (strCells (x.nots ++ [s9.data.toList])).length = x.n2 + 1 by rw [← strCells_snoc', List.length_append, HML.out]; rfl)
    obtain ⟨must4, hmust4⟩ : ∃ m4, m4 = x.nots ++ [s9.data.toList] := ⟨_, rfl⟩
    rw [← hmust4] at hq4 HLE4 HSL
    clear hmust4
    obtain ⟨A4, c4, rfl, _, _⟩ := hq4.rd
    rw [HSL.out] at hq4 ⊢
    have HQ5 := Lib.hid hq4
    have HO4 := Lib.hid (HOw.out.below HB5.out)
    have g1 := HO4.out.frozen (k * 3 + 2)
    have c1 := HO4.out.cell (j := 2) hkl (by decide)
    clear hq4 hgr4 hloc4 y0 x2 f1
    go_wp2_with fail
    go_ret
    exact (HO4.out.set2 hkl (HQ5.out.base_le HOw.out.lt) (by omega) HLE4.out).done (by rw [List.length_set]; exact HL.out) hn hcap ((below_go HB1.out HB5.out).setCell (p := ⟨g, k * 3 + 2, none⟩) hg _)
  | 3, _ =>
    go_wp2_with fail
    have HK8 := Lib.hid (show ∀ x, l[k]? = some x → x.must.length ≤ 8 from fun x hx => ((small_of_valid HV.out).2 x (List.mem_of_getElem? hx)).1)
    go_loopw [10] (fun y wr => ∃ (j : Nat) (cs : List ClV), j ≤ 9 ∧ y = .int .i64 j ∧ cs.length = l.length ∧ Hid (Ow wr g cs) ∧ Hid (∀ x, cs[k]? = some x → x.must.length ≤ 8 + j) ∧ Hid (Below w.heap.size w wr)) (fun y _ => 9 - (intOf y).toNat)
    case atStart => exact ⟨0, l, by omega, rfl, rfl, HOw, HK8, HB1⟩
    case round =>
      obtain ⟨j, cs, hj, rfl, hcl, O, M, B⟩ := hrel
      have hkcs : k < cs.length := by omega
      have HCL2 := Lib.hid hcl
      clear hcl
      by_cases hlt : j < 9
      · have j1 : (j : Int) < 9 := by omega
        obtain ⟨x, hx⟩ : ∃ x, x = cs[k] := ⟨_, rfl⟩
        have hmem : x ∈ cs := by rw [hx]; exact List.getElem_mem hkcs
        have HM8 := Lib.hid (M.out x (by rw [hx]; exact List.getElem?_eq_getElem hkcs))
        have x1 : wr.cell? ⟨g, k * 3 + 1, none⟩ = some (.slice x.A1 x.n1 x.c1) := by rw [O.out.cell hkcs (by decide), ← hx]; rfl
        have hxa := (O.out.all x hmem).ok
        have hgl := O.out.lt
        have HE := Lib.hid (QAt.empty (w := wr.alloc (.cells #[] 9)) (base := wr.heap.size) (g := wr.heap.size) (Nat.le_refl _) (by simp))
        have HG1 := Lib.hid (show wr.heap.size ≤ (wr.alloc (.cells #[] 9)).heap.size from by simp)
        have HS := Lib.hid (src_rd (c := x.c1) (hxa.r1.below (below_new wr (.cells #[] 9))))
        have hm8 : x.n1 ≤ 17 := by have := HM8.out; rw [hxa.l1] at this; omega
        have HML := Lib.hid (show (strCells x.must).length = x.n1 by rw [strCells, List.length_map, hxa.l1])
        have HLE := Lib.hid (show Lens x.must from hxa.f1)
        clear hxa hmem hx
        go_wp2_with (at_builtin; refine wpList_append_q _ rfl _ _ rfl rfl wr.heap.size (.slice (some ⟨wr.heap.size, 0, none⟩) 0 0) [] rfl HE.out HG1.out _ x.n1 _ rfl HS.out (by simp; omega) ?_)
        intro v2 w2 hq2 hgr2 hloc2
        have HB2 := Lib.hid (stays (below_new wr (.cells #[] 9)) HE.out hgr2)
        have HQ2 := Lib.hid hq2
        clear hq2 hgr2 hloc2
        have HQ4 := Lib.hid (HQ2.out.alloc (.cells #[.string ⟨#[97]⟩] 9))
        have HB4 := Lib.hid (HB2.out.alloc HB2.out.size (.cells #[.string ⟨#[97]⟩] 9))
        have HS4 := Lib.hid (src_cellS (w := w2.alloc (.cells #[.string ⟨#[97]⟩] 9)) (g := w2.heap.size) (s := ⟨#[97]⟩) (blk_row _ 9 0 rfl))
        go_wp2_with (at_builtin; refine wpList_append_q _ rfl _ _ rfl rfl wr.heap.size v2 (strCells x.must) rfl HQ4.out HB4.out.size _ 1 _ rfl HS4.out (by rw [HML.out]; omega) ?_)
        intro v4 w4 hq4 hgr4 hloc4
        have HB5 := Lib.hid (stays HB4.out HQ4.out hgr4)
        rw [strCells_snoc'] at hq4
        have HLE4 := Lib.hid (HLE.out.snoc (s := ⟨#[97]⟩) (by decide))
        have HSL := Lib.hid (show (strCells (x.must ++ [(⟨#[97]⟩ : ByteArray).data.toList])).length = x.n1 + 1 by rw [← strCells_snoc', List.length_append, HML.out]; rfl)
        have HML4 := Lib.hid (show (x.must ++ [(⟨#[97]⟩ : ByteArray).data.toList]).length ≤ 8 + (j + 1) by rw [List.length_append]; have := HM8.out; show x.must.length + 1 ≤ _; omega)
        obtain ⟨must4, hmust4⟩ : ∃ m4, m4 = x.must ++ [(⟨#[97]⟩ : ByteArray).data.toList] := ⟨_, rfl⟩
        rw [← hmust4] at hq4 HLE4 HSL HML4
        clear hmust4
        obtain ⟨A4, c4, rfl, _, _⟩ := hq4.rd
        rw [HSL.out] at hq4 ⊢
        have HQ5 := Lib.hid hq4
        have HO4 := Lib.hid (O.out.below HB5.out)
        have g1 := HO4.out.frozen (k * 3 + 1)
        have c1 := HO4.out.cell (j := 1) hkcs (by decide)
        have HO5 := Lib.hid (HO4.out.set1 hkcs (HQ5.out.base_le O.out.lt) (by omega) HLE4.out)
        have HBf := Lib.hid ((below_go B.out HB5.out).setCell (p := ⟨g, k * 3 + 1, none⟩) hg (.slice A4 (x.n1 + 1) c4))
        have HKf := Lib.hid (show ∀ y, (cs.set k (cs[k].musts A4 (x.n1 + 1) c4 must4))[k]? = some y → y.must.length ≤ 8 + (j + 1) from fun y hy => by
          rw [List.getElem?_set_self hkcs] at hy
          injection hy with hy
          rw [← hy]; exact HML4.out)
        clear hq4 hgr4 hloc4 x1
        go_wp2_with fail
        go_roundw
        case rel => exact ⟨j + 1, cs.set k (cs[k].musts A4 (x.n1 + 1) c4 must4), by omega, by go_num, by rw [List.length_set]; exact HCL2.out, HO5, HKf, HBf⟩
        case measure => simp [intOf]; omega
      · obtain rfl : j = 9 := by omega
        go_wp2_with fail
        go_ret
        exact O.out.done (by rw [HCL2.out]; exact HL.out) hn hcap B.out
  | 4, _ =>
    go_wp2_with fail
    have HOwn0 := Lib.hid (show w1.ownsRow w.heap.size 36 3 (.slice (some ⟨g, 0, none⟩) n cap) (n + 0) (clsCells (l ++ List.replicate 0 emptyCl)) by simpa using HOwn.out)
    go_loopw [7, 11] (fun v y wr => ∃ (j : Nat), j ≤ 33 ∧ y = .int .i64 j ∧ Hid (wr.ownsRow w.heap.size 36 3 v (n + j) (clsCells (l ++ List.replicate j emptyCl))) ∧ Hid (Below w.heap.size w wr)) (fun _ y _ => 33 - (intOf y).toNat)
    case atStart => exact ⟨0, by omega, rfl, HOwn0, HB1⟩
    case round =>
      obtain ⟨j, hj, rfl, O, B⟩ := hrel
      by_cases hlt : j < 33
      · have j1 : (j : Int) < 33 := by omega
        have HOa := Lib.hid (own_below O.out (below_new wr (.cells #[.string ⟨#[]⟩, .slice none 0 0, .slice none 0 0] 36)))
        have HGS := Lib.hid (show w.heap.size ≤ (wr.alloc (.cells #[.string ⟨#[]⟩, .slice none 0 0, .slice none 0 0] 36)).heap.size from Nat.le_trans B.out.size (by simp))
        go_wp2_with (at_builtin; refine wpList_append_own_at _ rfl _ _ 23 rfl w.heap.size 36 i0 _ 3 64 Try.underlying23 hi hz0 hz1 hz2 rfl (by decide) _ _ _ rfl HOa.out ⟨wr.heap.size, 0, none⟩ 1 1 [.string ⟨#[]⟩, .slice none 0 0, .slice none 0 0] rfl rfl ?c1 ?c2 ?c3 ?c4 HGS.out ?_)
        case c1 =>
          intro j u hu
          rw [Addr.add_lit, World.cell?_alloc_at _ _ _ _ rfl]
          simpa using hu
        case c2 => intro u hu; simp at hu; rcases hu with rfl | rfl | rfl <;> rfl
        case c3 => unfold maxLen; omega
        case c4 => omega
        intro v' w3 hown hgr hnil hloc
        rw [empty_snoc] at hown
        have HOb := Lib.hid hown
        have HBf := Lib.hid ((B.out.alloc B.out.size _).grown hgr (Nat.le_trans B.out.size (by simp)) (fun kk hkk => (O.out.lt kk hkk).1))
        clear hown hgr hnil hloc
        go_wp2_with fail
        go_roundw
        case rel => exact ⟨j + 1, by omega, by go_num, HOb, HBf⟩
        case measure => simp [intOf]; omega
      · obtain rfl : j = 33 := by omega
        go_wp2_with fail
        go_ret
        obtain ⟨A', c', rfl, hc'⟩ := own_slice O.out
        refine ⟨A', n + 33, c', l ++ List.replicate 33 emptyCl, rfl, .inr (by omega), by omega, hc', ⟨Rd.of_own O.out, by rw [List.length_append, List.length_replicate, HL.out], fun x hx => ?_⟩, B.out⟩
        rcases List.mem_append.1 hx with hx | hx
        · exact (H.out.go B.out).all x hx
        · rw [List.eq_of_mem_replicate hx]; exact empty_at _ _
  | 5, _ =>
    obtain ⟨b', o', x, he, _, hx, hxa, x0, x1, x2⟩ := (H.out.go HB1.out).at_ hkn
    injection he with he
    injection he with he1 he2
    subst he1 he2
    have HE := Lib.hid (QAt.empty (w := w1.alloc (.cells #[] 9)) (base := w1.heap.size) (g := w1.heap.size) (Nat.le_refl _) (by simp))
    have HG1 := Lib.hid (show w1.heap.size ≤ (w1.alloc (.cells #[] 9)).heap.size from by simp)
    have HS := Lib.hid (src_rd (c := x.c2) (hxa.r2.below (below_new w1 (.cells #[] 9))))
    have hm8 : x.n2 ≤ 8 := by have := ((small_of_valid HV.out).2 x (List.mem_of_getElem? hx)).2; rwa [hxa.l2] at this
    have HML := Lib.hid (show (strCells x.nots).length = x.n2 by rw [strCells, List.length_map, hxa.l2])
    have HLE := Lib.hid (show Lens x.nots from hxa.f2)
    have f1 := HOw.out.frozen (k * 3 + 2)
    clear x0 x1 hx hxa
    go_wp2_with (at_builtin; refine wpList_append_q _ rfl _ _ rfl rfl w1.heap.size (.slice (some ⟨w1.heap.size, 0, none⟩) 0 0) [] rfl HE.out HG1.out _ x.n2 _ rfl HS.out (by simp; omega) ?_)
    intro v2 w2 hq2 hgr2 hloc2
    have HB2 := Lib.hid (stays (below_new w1 (.cells #[] 9)) HE.out hgr2)
    have HQ2 := Lib.hid hq2
    clear hq2 hgr2 hloc2
    go_wp2_with (at_builtin; refine wpList_append_q _ rfl _ _ rfl rfl w1.heap.size v2 (strCells x.nots) rfl (HQ2.out.alloc _) (Nat.le_trans HB2.out.size (by simp)) _ 8 _ rfl (src_8 w2) (by rw [HML.out]; omega) ?_)
    intro v4 w4 hq4 hgr4 hloc4
    have HB5 := Lib.hid (stays (HB2.out.alloc HB2.out.size _) (HQ2.out.alloc _) hgr4)
    rw [show strCells x.nots ++ strCells strs8 = strCells (x.nots ++ strs8) by simp [strCells]] at hq4
    have HLE4 := Lib.hid HLE.out.more8
    have HSL := Lib.hid (show (strCells (x.nots ++ strs8)).length = x.n2 + 8 by rw [strCells, List.map_append, List.length_append]; have := HML.out; rw [strCells] at this; rw [this]; rfl)
    obtain ⟨must4, hmust4⟩ : ∃ m4, m4 = x.nots ++ strs8 := ⟨_, rfl⟩
    rw [← hmust4] at hq4 HLE4 HSL
    clear hmust4
    obtain ⟨A4, c4, rfl, _, _⟩ := hq4.rd
    rw [HSL.out] at hq4 ⊢
    have HQ5 := Lib.hid hq4
    have HO4 := Lib.hid (HOw.out.below HB5.out)
    have g1 := HO4.out.frozen (k * 3 + 2)
    have c1 := HO4.out.cell (j := 2) hkl (by decide)
    clear hq4 hgr4 hloc4 x2 f1
    go_wp2_with fail
    go_ret
    exact (HO4.out.set2 hkl (HQ5.out.base_le HOw.out.lt) (by omega) HLE4.out).done (by rw [List.length_set]; exact HL.out) hn hcap ((below_go HB1.out HB5.out).setCell (p := ⟨g, k * 3 + 2, none⟩) hg _)
  | 6, _ =>
    go_wp2_with fail
    go_ret
    exact HOw.out.done HL.out hn hcap HB1.out
  | 7, _ =>
    go_wp2_with fail
    go_ret
    exact HOw.out.done HL.out hn hcap HB1.out
theorem spoilt_any (A : Option Addr) (n c : Nat) (l : List ClV) (how by' : Int) (w : World) (h : Cls w w.heap.size A n l) (hn : n ≤ 8) (hv : validB l = true) (h1 : -9223372036854775808 ≤ how ∧ how ≤ 9223372036854775807) (h2 : -9223372036854775808 ≤ by' ∧ by' ≤ 9223372036854775807) :
    Calls Try.prog 10 #[.slice A n c, .int .i64 how, .int .i64 by'] w (SpPost w) := by
  rcases Nat.eq_zero_or_pos n with rfl | h0
  · exact spoilt_none A c how by' w
  · exact spoilt_some A n c l how by' w h h0 hn hv h1 h2
end Go.Proofs.Ytflfachkoffiiaa
