/- The walk of LicenceMore. -/
import Derived.Test.YtflfachkoffiiaaLawSmallest
import Derived.Deep.RegionLaw
namespace Go.Proofs.Ytflfachkoffiiaa
open Go.RowKit Go.Lib

theorem src_pair {w : World} {g : Nat} {a b : Int} (h0 : w.cell? ⟨g, 0, none⟩ = some (.int .i64 a)) (h1 : w.cell? ⟨g, 1, none⟩ = some (.int .i64 b)) : Src Try.prog 1 22 (.slice (some ⟨g, 0, none⟩) 2 2) 2 [.int .i64 a, .int .i64 b] w :=
  Src.ofSlice _ Try.underlying22 _ 2 2 [.int .i64 a, .int .i64 b] rfl (fun j u hu => by
    match j, hu with
    | 0, hu => simp at hu; subst hu; rw [Addr.add_lit]; exact h0
    | 1, hu => simp at hu; subst hu; rw [Addr.add_lit]; exact h1
    | j + 2, hu => simp at hu) (by intro u hu; simp at hu; rcases hu with rfl | rfl <;> rfl)
theorem wpList_append_none (w : World) {ops : Array Oper} {rest : List Oper} {o : Oper} {a : Act} {Q : Exit → Act → World → Prop} (hgd : o.guard = none) (s x : Operand)
    (ho : o.op = .call { callee := .builtin .append, args := #[s, x], argTypes := #[23, 23] }) (hty : o.type = 23) (A B : Option Addr) (c d : Nat) (hs : a.eval s = .slice A 0 c) (hx : a.eval x = .slice B 0 d)
    (h : wpList Try.prog ops Q rest (a.put o.dst (.slice A 0 c)) w) : wpList Try.prog ops Q (o :: rest) a w := by
  refine wpList_plain hgd fun K hK => ?_
  obtain ⟨i0, hi, hz0, hz1, hz2⟩ := info_parts info36
  have hsrc : Src Try.prog i0.size 23 (.slice B 0 d) 0 [] w := by
    cases B with
    | none => exact Src.ofNil _ Try.underlying23 d
    | some b => exact Src.ofSlice _ Try.underlying23 b 0 d [] (by simp) (fun j u hu => by simp at hu) (fun u hu => by cases hu)
  have hr := run_append_nothing (P := Try.prog) w 23 23 23 36 i0 Try.underlying23 hi A 0 c (Nat.zero_le _) (.slice B 0 d) hsrc
  unfold Oper.wp execOp
  simp only [ho, hty, resolve, invoke, builtin, Sem.run_bind, Sem.run_pure, Result.andThen_ok, List.map_toArray, List.map_cons, List.map_nil, hs, hx, hr]
  exact hK _ _ h
theorem IAt.empty' {w : World} {base g : Nat} (h1 : base ≤ g) (h2 : g < w.heap.size) : IAt w base (.slice (some ⟨g, 0, none⟩) 0 0) [] := IAt.empty h1 h2
/-- what the second half needs -/
theorem valid_of {fr : List ClV} {n : Nat} (hn : fr.length = n) (h8 : n ≤ 8) (h : ∀ c ∈ fr, badC c = false) : validB fr = true := by
  unfold validB
  rw [decide_eq_true (by omega), List.any_eq_false.2 (fun x hx => by rw [h x hx]; simp)]; rfl
theorem bad_of_valid {l : List ClV} (h : validB l = true) : ∀ c ∈ l, badC c = false := by
  unfold validB at h
  rw [Bool.and_eq_true, Bool.not_eq_true', List.any_eq_false] at h
  intro c hc
  have := h.2 c hc
  simpa using this
theorem bad_free {c : ClV} (h : badC c = false) : badC (c.notss none 0 0 []) = false := by
  unfold badC at h ⊢
  simp only [Bool.or_eq_false_iff] at h
  obtain ⟨⟨⟨⟨h1, h2⟩, _⟩, h4⟩, _⟩ := h
  show (decide (16 < c.name.length) || decide (8 < c.must.length) || decide (8 < ([] : List Bs).length) || c.must.any (fun s => !condB s) || ([] : List Bs).any (fun s => !atomB s)) = false
  rw [h1, h2, h4]; rfl

/-- 'append([]Clause{}, l...)' -/
theorem wpList_copy_cls (w : World) {ops : Array Oper} {rest : List Oper} {o : Oper} {a : Act} {Q : Exit → Act → World → Prop} (hgd : o.guard = none) (s x : Operand)
    (ho : o.op = .call { callee := .builtin .append, args := #[s, x], argTypes := #[23, 23] }) (hty : o.type = 23) (A : Option Addr) (n c : Nat) (l : List ClV) (hs : a.eval s = .slice (some ⟨w.heap.size, 0, none⟩) 0 0) (hx : a.eval x = .slice A n c)
    (h : Cls w w.heap.size A n l) (hn : n ≤ 1000)
    (hk : ∀ g cap w', Ow w' g l → n ≤ cap → w.heap.size ≤ g → Below w.heap.size w w' → wpList Try.prog ops Q rest (a.put o.dst (.slice (some ⟨g, 0, none⟩) n cap)) w') : wpList Try.prog ops Q (o :: rest) a (w.alloc (.cells #[] 36)) := by
  rcases Nat.eq_zero_or_pos n with rfl | hn0
  · refine wpList_append_none _ hgd s x ho hty _ A 0 c hs hx (hk w.heap.size 0 _ ⟨⟨#[], heap_alloc_new w _, ?_⟩, fun c hc => ?_⟩ (Nat.le_refl _) (Nat.le_refl _) (below_new w _))
    · obtain rfl : l = [] := List.eq_nil_of_length_eq_zero h.len
      rfl
    · obtain rfl : l = [] := List.eq_nil_of_length_eq_zero h.len
      cases hc
  · obtain ⟨b, off, hA, hbb, hcell⟩ := h.rd.2 hn0
    subst hA
    obtain ⟨i0, hi, hz0, hz1, hz2⟩ := info_parts info36
    have hnews : ∀ j u, (clsCells l)[j]? = some u → (w.alloc (.cells #[] 36)).cell? ((⟨b, off, none⟩ : Addr).add j) = some u := fun j u hu => by
      rw [Addr.add_lit, (below_new w (.cells #[] 36)).cell (p := ⟨b, off + j, none⟩) hbb]
      exact hcell j u hu
    have hone : ∀ u ∈ clsCells l, u.oneCell' = true := by
      intro v hv
      simp only [clsCells, List.mem_flatMap, clCells] at hv
      obtain ⟨x, _, hv⟩ := hv
      simp only [List.mem_cons, List.not_mem_nil, or_false] at hv
      rcases hv with rfl | rfl | rfl <;> rfl
    refine wpList_append_lies _ hgd s x 23 ho w.heap.size 36 i0 _ 3 64 (by rw [Try.underlying23]) hi hz0 hz1 hz2 rfl (by decide) (.slice (some ⟨w.heap.size, 0, none⟩) 0 0) 0 [] hs (World.ownsRow_lit (base := w.heap.size) (e := 36) (size := 3) w #[] 0 (Nat.le_refl _) (by decide) rfl)
      ⟨b, off, none⟩ n c (clsCells l) hx (by rw [clsCells_length, h.len]) hnews hone hn0 (by unfold maxLen; omega) (by omega) (by simp) _ rfl ?_
    intro g cap w1 hown hgrow hor hlt
    have hb1 : Below w.heap.size w w1 := (below_new w (.cells #[] 36)).grown hgrow (by simp) (fun q hq => Nat.le_of_eq (Option.some.inj (show some w.heap.size = some q from hq)))
    have hg : w.heap.size ≤ g := by
      rcases hor with h | h
      · exact Nat.le_of_eq (Option.some.inj (show some w.heap.size = some g from h))
      · rw [h]; simp
    rw [Nat.zero_add, List.nil_append] at hown
    rw [Nat.zero_add]
    have hcap : n ≤ cap := by
      obtain ⟨A', c', e, hc⟩ := own_slice hown
      injection e with _ _ e3; omega
    exact hk g cap w1 (Ow.start h hb1 hg hown) hcap hg hb1
set_option maxHeartbeats 8000000 in
set_option maxRecDepth 100000 in
theorem more_any (A : Option Addr) (n c : Nat) (zs : List Int) (A2 : Option Addr) (n2 c2 : Nat) (ms : List Int) (A3 : Option Addr) (n3 c3 : Nat) (ks : List Int) (w : World) (h1 : Rd w w.heap.size 1 A n (intCells zs)) (f1 : Fits zs) (hn : n ≤ 9223372036854775807)
    (h2 : Rd w w.heap.size 1 A2 n2 (intCells ms)) (f2 : Fits ms) (hn2 : n2 ≤ 9223372036854775807) (h3 : Rd w w.heap.size 1 A3 n3 (intCells ks)) (f3 : Fits ks) (hn3 : n3 ≤ 9223372036854775807) :
    Calls Try.prog 8 #[.slice A n c, .slice A2 n2 c2, .slice A3 n3 c3] w (RetB (.bool true) w) := by
  have H1 := Lib.hid h1
  have H2 := Lib.hid h2
  have H3 := Lib.hid h3
  have F1 := Lib.hid f1
  have F2 := Lib.hid f2
  have F3 := Lib.hid f3
  clear h1 h2 h3 f1 f2 f3
  go_enter Try.func8, Try.ntmps8
  go_wp2_with fail
  refine (clauses_any A n c zs w H1.out F1.out hn).mono ?_
  rintro e w1 ⟨Ac, nc, cc, cs, rfl, hnc, hcc, hcl, hv, b1⟩
  have HC := Lib.hid hcl
  have HV := Lib.hid hv
  have HB := Lib.hid b1
  have HL := Lib.hid hcl.len
  clear hcl hv b1
  go_wp2_with fail
  refine (picks_any A2 n2 c2 ms w1 (H2.out.go HB.out) F2.out hn2).mono ?_
  rintro e w2 hp
  obtain ⟨As, c4, rfl, hr, hc3, b2⟩ := hp.open_
  have hs10 := picks_len ms
  obtain ⟨s, hs⟩ : ∃ s, s = picksL ms := ⟨_, rfl⟩
  rw [← hs] at hr hc3 hs10 ⊢
  obtain ⟨ns, hns⟩ : ∃ ns, ns = s.length := ⟨_, rfl⟩
  rw [← hns] at hr hc3 hs10 ⊢
  have HNS := Lib.hid hns
  have HS := Lib.hid hr
  have HC2 := Lib.hid (HC.out.go b2)
  have HB2 := Lib.hid (below_go HB.out b2)
  clear hp hr b2 hs hns HC HB
  have HE := Lib.hid (IAt.empty (w := w2.alloc (.cells #[] 3)) (base := w2.heap.size) (g := w2.heap.size) (Nat.le_refl _) (by simp))
  have HSr := Lib.hid (src_rdI (c := c4) (HS.out.below (below_new w2 (.cells #[] 3))))
  have HLS := Lib.hid (show (intCells s).length = ns by rw [intCells, List.length_map, HNS.out])
  go_wp2_with (at_builtin; refine wpList_append_i _ rfl _ _ rfl rfl w2.heap.size (.slice (some ⟨w2.heap.size, 0, none⟩) 0 0) [] rfl HE.out (by simp) _ ns _ rfl HSr.out (by simp; omega) ?_)
  intro v3 w3 hq3 hgr hloc
  have HX3 := Lib.hid ((below_new w2 (.cells #[] 3)).grown hgr (by simp) (fun g hg => (HE.out.lt hg).1))
  have HQ3 := Lib.hid hq3
  clear hq3 hgr hloc HE HSr
  go_wp2_with fail
  refine (picks_any A3 n3 c3 ks w3 (H3.out.go (below_go HB2.out HX3.out)) F3.out hn3).mono ?_
  rintro e w4 hp
  obtain ⟨Ap, c5, rfl, hr, hc5, b4⟩ := hp.open_
  have hp10 := picks_len ks
  obtain ⟨p, hp'⟩ : ∃ p, p = picksL ks := ⟨_, rfl⟩
  rw [← hp'] at hr hc5 hp10 ⊢
  obtain ⟨np, hnp⟩ : ∃ np, np = p.length := ⟨_, rfl⟩
  rw [← hnp] at hr hc5 hp10 ⊢
  have HNP := Lib.hid hnp
  have HQ4 := Lib.hid (HQ3.out.below b4 (Nat.le_refl _))
  have HX4 := Lib.hid (below_go HX3.out b4)
  have HPr := Lib.hid (src_rdI (c := c5) hr)
  clear hp hr b4 hp' hnp HQ3 HX3
  go_wp2_with (at_builtin; refine wpList_append_i _ rfl _ _ rfl rfl w2.heap.size v3 (intCells s) rfl HQ4.out HX4.out.size _ np _ rfl HPr.out (by rw [HLS.out]; omega) ?_)
  intro v5 w5 hq5 hgr hloc
  have HX5 := Lib.hid (HX4.out.grown hgr HX4.out.size (fun g hg => (HQ4.out.lt hg).1))
  rw [show intCells s ++ intCells p = intCells (s ++ p) by simp [intCells]] at hq5
  obtain ⟨A5, c6, rfl, hc6, hr5⟩ := hq5.rd
  have HLM := Lib.hid (show (intCells (s ++ p)).length = ns + np by rw [intCells, List.length_map, List.length_append, HNS.out, HNP.out])
  obtain ⟨nm, hnm⟩ : ∃ nm, nm = (intCells (s ++ p)).length := ⟨_, rfl⟩
  rw [← hnm] at hr5 hc6 ⊢
  have hnm20 : nm ≤ 20 := by rw [hnm, HLM.out]; omega
  have HMo := Lib.hid hr5
  clear hq5 hgr hloc hr5 hnm HQ4 HX4 HPr HLM HLS
  go_wp2_with fail
  go_loopw [10, 11] (fun v x wr => ∃ (j : Nat) (z : Int) (Ao : Option Addr) (co no : Nat) (bk : List Int), j ≤ ns ∧ x = .int .i64 z ∧ z = (j : Int) - 1 ∧ v = .slice Ao no co ∧ no + 2 * j = 2 * ns ∧ Hid (bk.length = no) ∧ Hid (IAt wr w5.heap.size v (intCells bk)) ∧ Hid (∀ y, y ∈ bk ↔ y ∈ s.drop j) ∧ Hid (Below w5.heap.size w5 wr)) (fun _ x _ => (intOf x + 1).toNat)
  case atStart => exact ⟨ns, _, none, 0, 0, [], Nat.le_refl _, rfl, rfl, rfl, by omega, Lib.hid rfl, Lib.hid (IAt.nil _ _), Lib.hid (fun y => by rw [List.drop_of_length_le (by rw [HNS.out]; exact Nat.le_refl _)]), Lib.hid (Below.refl _ _)⟩
  case round =>
    obtain ⟨j, z, Ao, co, no, bk, hj, rfl, hz, rfl, hno, FL, Q, M, B⟩ := hrel
    have HX := Lib.hid (below_go HX5.out B.out)
    by_cases hj0 : 0 < j
    · obtain ⟨q, rfl⟩ : ∃ q, j = q + 1 := ⟨j - 1, by omega⟩
      obtain rfl : z = (q : Int) := by omega
      have j0 : (0 : Int) ≤ (q : Int) := by omega
      have j1 : (q : Int) < (ns : Int) := by omega
      have hls : q < s.length := by have := HNS.out; omega
      obtain ⟨b9, o9, rfl, hbb, x1⟩ := (HS.out.go HX.out).int (k := q) (by omega)
      obtain ⟨y, hy⟩ : ∃ y, y = s.getD q 0 := ⟨_, rfl⟩
      rw [← hy] at x1
      have hyl : y = s[q] := by rw [hy, List.getD_eq_getElem?_getD, List.getElem?_eq_getElem hls]; rfl
      have M2 := Lib.hid (show ∀ x, x ∈ bk ++ [y, y] ↔ x ∈ s.drop q from fun x => by
        rw [List.mem_append, M.out x, List.drop_eq_getElem_cons hls, List.mem_cons, ← hyl]
        simp only [List.mem_cons, List.not_mem_nil, or_false, or_self]
        exact Or.comm)
      have HN0 := Lib.hid (show (wr.alloc (.cells #[.int .i64 y, .int .i64 y] 3)).cell? ⟨wr.heap.size, 0, none⟩ = some (.int .i64 y) from blk_row _ 3 0 rfl)
      have HN1 := Lib.hid (show (wr.alloc (.cells #[.int .i64 y, .int .i64 y] 3)).cell? ⟨wr.heap.size, 1, none⟩ = some (.int .i64 y) from blk_row _ 3 1 rfl)
      have HLB := Lib.hid (show (intCells bk).length = no by rw [intCells, List.length_map, FL.out])
      clear hy hyl hz
      go_wp2_with fail
      go_region_law (refine step_append_i _ (by rfl) _ _ (by rfl) (by rfl) w5.heap.size (.slice Ao no co) (intCells bk) (by rfl) (by first | exact Q.out.alloc _ | exact (Q.out.alloc _).drew) (Nat.le_trans B.out.size (by simp)) (.slice (some ⟨wr.heap.size, 0, none⟩) 2 2) 2 [.int .i64 y, .int .i64 y] (by rfl) (src_pair HN0.out HN1.out) (by rw [HLB.out]; omega) ?_; intro v6 w6 hq6 hgr6 hloc6; have HQ6 := Lib.hid hq6; have HG6 := Lib.hid hgr6; clear hq6 hgr6 hloc6)
      all_goals
        have hq6 := HQ6.out
        rw [show intCells bk ++ [.int .i64 y, .int .i64 y] = intCells (bk ++ [y, y]) by simp [intCells]] at hq6
        have HLB6 := Lib.hid (show (intCells (bk ++ [y, y])).length = no + 2 by rw [intCells, List.length_map, List.length_append, FL.out]; rfl)
        have FL6 := Lib.hid (show (bk ++ [y, y]).length = no + 2 by rw [List.length_append, FL.out]; rfl)
        obtain ⟨A6, c7, rfl, _, _⟩ := hq6.rd
        rw [HLB6.out] at *
        have HB6 := Lib.hid ((B.out.alloc B.out.size (.cells #[.int .i64 y, .int .i64 y] 3)).drew.grown HG6.out (Nat.le_trans B.out.size (by simp)) (fun g hg => (Q.out.lt hg).1))
        have HQ7 := Lib.hid hq6
        clear hq6 HQ6 HG6
        go_wp2_with fail
        go_roundw
        case rel => exact ⟨q, _, A6, c7, no + 2, bk ++ [y, y], by omega, rfl, rfl, rfl, by omega, FL6, HQ7, M2, HB6⟩
        case measure => simp [intOf]
    · obtain rfl : j = 0 := by omega
      obtain rfl : z = -1 := by omega
      have HRb := Lib.hid (show Rd wr wr.heap.size 1 Ao no (intCells bk) by
        obtain ⟨A', c', e, _, hr⟩ := Q.out.rd
        rw [show (intCells bk).length = no by rw [intCells, List.length_map, FL.out]] at e hr
        injection e with e
        rw [e]; exact hr)
      have hme : ∀ y, y ∈ bk ↔ y ∈ s := fun y => by have := M.out y; rwa [List.drop_zero] at this
      have HFB := Lib.hid (show fineB cs bk = fineB cs s from fineB_same (fun i _ _ => hme i))
      have HCB := Lib.hid (show coreV cs bk = coreV cs s from core_same hme)
      have HM1 := Lib.hid (show fineB cs (s ++ p) = true → fineB cs s = true from fun h => fineB_iff.2 ((fineB_iff.1 h).mono (fun i hi _ _ => List.mem_append_left _ hi)))
      have HCr := Lib.hid (HC2.out.go HX.out)
      have HSr := Lib.hid (HS.out.go HX.out)
      have HMr := Lib.hid (HMo.out.go B.out)
      have HBr := Lib.hid (below_go HB2.out HX.out)
      have hnob : no ≤ 20 := by omega
      have hk8 := core_len cs s
      rw [HL.out] at hk8
      clear hme hno hj0 hz hj M Q HB2 HX HS HC2 HMo B
      go_wp2_with fail
      refine (pfine_any Ac nc cc cs A5 nm c6 (s ++ p) wr HCr.out (by omega) HMr.out (by omega)).mono ?_
      rw [fineV, HV.out, Bool.true_and]
      rintro e w7 ⟨rfl, b7⟩
      have HC := Lib.hid (HCr.out.go b7)
      have HS := Lib.hid (HSr.out.go b7)
      have HM := Lib.hid (HMr.out.go b7)
      have HR := Lib.hid (HRb.out.go b7)
      have HB := Lib.hid (below_go HBr.out b7)
      clear b7 HCr HSr HMr HRb HBr
      cases hf : fineB cs (s ++ p)
      · clear hf
        obtain ⟨g, hg⟩ : ∃ g, fineB cs s = g := ⟨_, rfl⟩
        have HG := Lib.hid hg
        clear hg
        cases g
        · go_wp2_with fail
          refine (pfine_any Ac nc cc cs Ao no co bk _ HC.out (by omega) HR.out (by omega)).mono ?_
          rw [fineV, HV.out, Bool.true_and, HFB.out, HG.out]
          rintro e w9 ⟨rfl, b9'⟩
          have HC := Lib.hid (HC.out.go b9')
          have HS := Lib.hid (HS.out.go b9')
          have HM := Lib.hid (HM.out.go b9')
          have HR := Lib.hid (HR.out.go b9')
          have HB := Lib.hid (below_go HB.out b9')
          clear b9'
          go_wp2_with fail
          refine (pfine_any Ac nc cc cs As ns c4 s _ HC.out (by omega) HS.out (by omega)).mono ?_
          rw [fineV, HV.out, Bool.true_and, HG.out]
          rintro e w10 ⟨rfl, b10⟩
          have HC := Lib.hid (HC.out.go b10)
          have HS := Lib.hid (HS.out.go b10)
          have HM := Lib.hid (HM.out.go b10)
          have HR := Lib.hid (HR.out.go b10)
          have HB := Lib.hid (below_go HB.out b10)
          clear b10
          go_wp2_with fail
          refine (core_any Ac nc cc cs Ao no co bk _ HC.out (by omega) HR.out (by omega) _ (Lib.hid HCB.out)).mono ?_
          rintro e w11 ⟨Ak, ck, rfl, hk, _, b11⟩
          have HK := Lib.hid hk
          clear hk
          have HC := Lib.hid (HC.out.go b11)
          have HS := Lib.hid (HS.out.go b11)
          have HM := Lib.hid (HM.out.go b11)
          have HR := Lib.hid (HR.out.go b11)
          have HB := Lib.hid (below_go HB.out b11)
          clear b11
          go_wp2_with fail
          refine (core_any Ac nc cc cs As ns c4 s _ HC.out (by omega) HS.out (by omega) _ (Lib.hid rfl)).mono ?_
          rintro e w12 ⟨Aq, cq, rfl, hk, _, b12⟩
          have HK := Lib.hid (HK.out.go b12)
          have HK2 := Lib.hid hk
          clear hk
          have HC := Lib.hid (HC.out.go b12)
          have HS := Lib.hid (HS.out.go b12)
          have HM := Lib.hid (HM.out.go b12)
          have HR := Lib.hid (HR.out.go b12)
          have HB := Lib.hid (below_go HB.out b12)
          clear b12
          go_wp2_with fail
          refine (sameInts_any Ak Aq _ _ ck cq (coreV cs s) (coreV cs s) _ HK.out HK2.out (by omega) true (Lib.hid (decide_eq_true rfl))).mono ?_
          rintro e w13 ⟨rfl, b13⟩
          have HC := Lib.hid (HC.out.go b13)
          have HS := Lib.hid (HS.out.go b13)
          have HM := Lib.hid (HM.out.go b13)
          have HR := Lib.hid (HR.out.go b13)
          have HB := Lib.hid (below_go HB.out b13)
          clear b13
          clear HK HK2
          go_wp2_with (at_builtin; refine wpList_copy_cls w13 rfl _ _ rfl rfl Ac nc cc cs rfl rfl HC.out (by omega) ?_)
          intro gg cap w14 how hcap hgg b14
          have HOw := Lib.hid how
          have H14 := Lib.hid b14
          clear how b14 HC HS HR HG
          go_wp2_with fail
          go_loopw [13] (fun x wr => ∃ (k : Nat) (fr : List ClV), k ≤ nc ∧ x = .int .i64 k ∧ Hid (fr.length = nc) ∧ Hid (Ow wr gg fr) ∧ Hid (∀ c ∈ fr, badC c = false) ∧ Hid (∀ j c, j < k → fr[j]? = some c → c.nots = []) ∧ Hid (Below gg w14 wr)) (fun x _ => nc - (intOf x).toNat)
          case atStart => exact ⟨0, cs, by omega, rfl, HL, HOw, Lib.hid (bad_of_valid HV.out), Lib.hid (fun j c hj _ => absurd hj (by omega)), Lib.hid (Below.refl _ _)⟩
          case round =>
            obtain ⟨k, fr, hk, rfl, FL, O, P1, P2, B⟩ := hrel
            by_cases hlt : k < nc
            · have j0 : (0 : Int) ≤ (k : Int) := by omega
              have j1 : (k : Int) < (nc : Int) := by omega
              have hkf : k < fr.length := by have := FL.out; omega
              have g1 := O.out.frozen (k * 3 + 2)
              have c1 := O.out.cell (j := 2) hkf (by decide)
              have HO5 := Lib.hid (O.out.set2 hkf (A := none) (m := 0) (cap := 0) (ss := []) (QAt.nil _ _) (by omega) (fun b hb => by cases hb))
              have HB5 := Lib.hid (B.out.setCell (p := ⟨gg, k * 3 + 2, none⟩) (Nat.le_refl _) (.slice none 0 0))
              have FL5 := Lib.hid (show (fr.set k (fr[k].notss none 0 0 [])).length = nc by rw [List.length_set]; exact FL.out)
              have P15 := Lib.hid (show ∀ c ∈ fr.set k (fr[k].notss none 0 0 []), badC c = false from fun c hc => by
                rcases List.mem_or_eq_of_mem_set hc with hc | rfl
                · exact P1.out c hc
                · exact bad_free (P1.out _ (List.getElem_mem hkf)))
              have P25 := Lib.hid (show ∀ j c, j < k + 1 → (fr.set k (fr[k].notss none 0 0 []))[j]? = some c → c.nots = [] from fun j c hj hc => by
                by_cases e : j = k
                · subst e
                  rw [List.getElem?_set_self hkf] at hc
                  injection hc with hc
                  rw [← hc]; rfl
                · rw [List.getElem?_set_ne (fun h => e h.symm)] at hc
                  exact P2.out j c (by omega) hc)
              go_wp2_with fail
              go_roundw
              case rel => exact ⟨k + 1, fr.set k (fr[k].notss none 0 0 []), by omega, by go_num, FL5, HO5, P15, P25, HB5⟩
              case measure => simp [intOf]; omega
            · obtain rfl : k = nc := by omega
              have HFC := Lib.hid (show Cls wr wr.heap.size (some ⟨gg, 0, none⟩) k fr by have := O.out.cls; rwa [FL.out] at this)
              have HFV := Lib.hid (valid_of FL.out hnc P1.out)
              have hfree : ∀ c ∈ fr, c.nots = [] := fun c hc => by
                obtain ⟨j, hj, rfl⟩ := List.getElem_of_mem hc
                exact P2.out j _ (by have := FL.out; omega) (List.getElem?_eq_getElem hj)
              have HFF := Lib.hid (show fineB fr (s ++ p) = true from free_fine hfree _)
              have HF0 := Lib.hid (show coreV fr (s ++ p) = [] from coreV_fine (free_fine hfree _))
              have HZ := Lib.hid (H14.out.trans (B.out.mono hgg))
              have HBf := Lib.hid (below_go HB.out HZ.out)
              have HMf := Lib.hid (HM.out.go HZ.out)
              clear hfree
              go_wp2_with fail
              refine (pfine_any (some ⟨gg, 0, none⟩) k _ fr A5 nm c6 (s ++ p) wr HFC.out (by omega) HMf.out (by omega)).mono ?_
              rw [fineV, HFV.out, Bool.true_and, HFF.out]
              rintro e w15 ⟨rfl, b15⟩
              have HBf := Lib.hid (below_go HBf.out b15)
              have HMf := Lib.hid (HMf.out.go b15)
              have HFC := Lib.hid (HFC.out.go b15)
              clear b15
              go_wp2_with fail
              refine (core_any (some ⟨gg, 0, none⟩) k _ fr A5 nm c6 (s ++ p) w15 HFC.out (by omega) HMf.out (by omega) [] HF0).mono ?_
              rintro e w16 ⟨Az, cz, rfl, _, _, b16⟩
              have HBf := Lib.hid (below_go HBf.out b16)
              clear b16
              go_wp2_with fail
              refine (lives_any w16).mono ?_
              rintro e w17 ⟨rfl, b17⟩
              go_wp2_with fail
              go_ret
              exact ⟨rfl, below_go HBf.out b17⟩
        · go_wp2_with fail
          refine (pfine_any Ac nc cc cs Ao no co bk _ HC.out (by omega) HR.out (by omega)).mono ?_
          rw [fineV, HV.out, Bool.true_and, HFB.out, HG.out]
          rintro e w9 ⟨rfl, b9'⟩
          have HC := Lib.hid (HC.out.go b9')
          have HS := Lib.hid (HS.out.go b9')
          have HM := Lib.hid (HM.out.go b9')
          have HR := Lib.hid (HR.out.go b9')
          have HB := Lib.hid (below_go HB.out b9')
          clear b9'
          go_wp2_with fail
          refine (pfine_any Ac nc cc cs As ns c4 s _ HC.out (by omega) HS.out (by omega)).mono ?_
          rw [fineV, HV.out, Bool.true_and, HG.out]
          rintro e w10 ⟨rfl, b10⟩
          have HC := Lib.hid (HC.out.go b10)
          have HS := Lib.hid (HS.out.go b10)
          have HM := Lib.hid (HM.out.go b10)
          have HR := Lib.hid (HR.out.go b10)
          have HB := Lib.hid (below_go HB.out b10)
          clear b10
          go_wp2_with fail
          refine (core_any Ac nc cc cs Ao no co bk _ HC.out (by omega) HR.out (by omega) _ (Lib.hid HCB.out)).mono ?_
          rintro e w11 ⟨Ak, ck, rfl, hk, _, b11⟩
          have HK := Lib.hid hk
          clear hk
          have HC := Lib.hid (HC.out.go b11)
          have HS := Lib.hid (HS.out.go b11)
          have HM := Lib.hid (HM.out.go b11)
          have HR := Lib.hid (HR.out.go b11)
          have HB := Lib.hid (below_go HB.out b11)
          clear b11
          go_wp2_with fail
          refine (core_any Ac nc cc cs As ns c4 s _ HC.out (by omega) HS.out (by omega) _ (Lib.hid rfl)).mono ?_
          rintro e w12 ⟨Aq, cq, rfl, hk, _, b12⟩
          have HK := Lib.hid (HK.out.go b12)
          have HK2 := Lib.hid hk
          clear hk
          have HC := Lib.hid (HC.out.go b12)
          have HS := Lib.hid (HS.out.go b12)
          have HM := Lib.hid (HM.out.go b12)
          have HR := Lib.hid (HR.out.go b12)
          have HB := Lib.hid (below_go HB.out b12)
          clear b12
          go_wp2_with fail
          refine (sameInts_any Ak Aq _ _ ck cq (coreV cs s) (coreV cs s) _ HK.out HK2.out (by omega) true (Lib.hid (decide_eq_true rfl))).mono ?_
          rintro e w13 ⟨rfl, b13⟩
          have HC := Lib.hid (HC.out.go b13)
          have HS := Lib.hid (HS.out.go b13)
          have HM := Lib.hid (HM.out.go b13)
          have HR := Lib.hid (HR.out.go b13)
          have HB := Lib.hid (below_go HB.out b13)
          clear b13
          clear HK HK2
          go_wp2_with (at_builtin; refine wpList_copy_cls w13 rfl _ _ rfl rfl Ac nc cc cs rfl rfl HC.out (by omega) ?_)
          intro gg cap w14 how hcap hgg b14
          have HOw := Lib.hid how
          have H14 := Lib.hid b14
          clear how b14 HC HS HR HG
          go_wp2_with fail
          go_loopw [13] (fun x wr => ∃ (k : Nat) (fr : List ClV), k ≤ nc ∧ x = .int .i64 k ∧ Hid (fr.length = nc) ∧ Hid (Ow wr gg fr) ∧ Hid (∀ c ∈ fr, badC c = false) ∧ Hid (∀ j c, j < k → fr[j]? = some c → c.nots = []) ∧ Hid (Below gg w14 wr)) (fun x _ => nc - (intOf x).toNat)
          case atStart => exact ⟨0, cs, by omega, rfl, HL, HOw, Lib.hid (bad_of_valid HV.out), Lib.hid (fun j c hj _ => absurd hj (by omega)), Lib.hid (Below.refl _ _)⟩
          case round =>
            obtain ⟨k, fr, hk, rfl, FL, O, P1, P2, B⟩ := hrel
            by_cases hlt : k < nc
            · have j0 : (0 : Int) ≤ (k : Int) := by omega
              have j1 : (k : Int) < (nc : Int) := by omega
              have hkf : k < fr.length := by have := FL.out; omega
              have g1 := O.out.frozen (k * 3 + 2)
              have c1 := O.out.cell (j := 2) hkf (by decide)
              have HO5 := Lib.hid (O.out.set2 hkf (A := none) (m := 0) (cap := 0) (ss := []) (QAt.nil _ _) (by omega) (fun b hb => by cases hb))
              have HB5 := Lib.hid (B.out.setCell (p := ⟨gg, k * 3 + 2, none⟩) (Nat.le_refl _) (.slice none 0 0))
              have FL5 := Lib.hid (show (fr.set k (fr[k].notss none 0 0 [])).length = nc by rw [List.length_set]; exact FL.out)
              have P15 := Lib.hid (show ∀ c ∈ fr.set k (fr[k].notss none 0 0 []), badC c = false from fun c hc => by
                rcases List.mem_or_eq_of_mem_set hc with hc | rfl
                · exact P1.out c hc
                · exact bad_free (P1.out _ (List.getElem_mem hkf)))
              have P25 := Lib.hid (show ∀ j c, j < k + 1 → (fr.set k (fr[k].notss none 0 0 []))[j]? = some c → c.nots = [] from fun j c hj hc => by
                by_cases e : j = k
                · subst e
                  rw [List.getElem?_set_self hkf] at hc
                  injection hc with hc
                  rw [← hc]; rfl
                · rw [List.getElem?_set_ne (fun h => e h.symm)] at hc
                  exact P2.out j c (by omega) hc)
              go_wp2_with fail
              go_roundw
              case rel => exact ⟨k + 1, fr.set k (fr[k].notss none 0 0 []), by omega, by go_num, FL5, HO5, P15, P25, HB5⟩
              case measure => simp [intOf]; omega
            · obtain rfl : k = nc := by omega
              have HFC := Lib.hid (show Cls wr wr.heap.size (some ⟨gg, 0, none⟩) k fr by have := O.out.cls; rwa [FL.out] at this)
              have HFV := Lib.hid (valid_of FL.out hnc P1.out)
              have hfree : ∀ c ∈ fr, c.nots = [] := fun c hc => by
                obtain ⟨j, hj, rfl⟩ := List.getElem_of_mem hc
                exact P2.out j _ (by have := FL.out; omega) (List.getElem?_eq_getElem hj)
              have HFF := Lib.hid (show fineB fr (s ++ p) = true from free_fine hfree _)
              have HF0 := Lib.hid (show coreV fr (s ++ p) = [] from coreV_fine (free_fine hfree _))
              have HZ := Lib.hid (H14.out.trans (B.out.mono hgg))
              have HBf := Lib.hid (below_go HB.out HZ.out)
              have HMf := Lib.hid (HM.out.go HZ.out)
              clear hfree
              go_wp2_with fail
              refine (pfine_any (some ⟨gg, 0, none⟩) k _ fr A5 nm c6 (s ++ p) wr HFC.out (by omega) HMf.out (by omega)).mono ?_
              rw [fineV, HFV.out, Bool.true_and, HFF.out]
              rintro e w15 ⟨rfl, b15⟩
              have HBf := Lib.hid (below_go HBf.out b15)
              have HMf := Lib.hid (HMf.out.go b15)
              have HFC := Lib.hid (HFC.out.go b15)
              clear b15
              go_wp2_with fail
              refine (core_any (some ⟨gg, 0, none⟩) k _ fr A5 nm c6 (s ++ p) w15 HFC.out (by omega) HMf.out (by omega) [] HF0).mono ?_
              rintro e w16 ⟨Az, cz, rfl, _, _, b16⟩
              have HBf := Lib.hid (below_go HBf.out b16)
              clear b16
              go_wp2_with fail
              refine (lives_any w16).mono ?_
              rintro e w17 ⟨rfl, b17⟩
              go_wp2_with fail
              go_ret
              exact ⟨rfl, below_go HBf.out b17⟩
      · have HG := Lib.hid (HM1.out hf)
        clear hf
        go_wp2_with fail
        refine (pfine_any Ac nc cc cs As ns c4 s _ HC.out (by omega) HS.out (by omega)).mono ?_
        rw [fineV, HV.out, Bool.true_and, HG.out]
        rintro e w8 ⟨rfl, b8⟩
        have HC := Lib.hid (HC.out.go b8)
        have HS := Lib.hid (HS.out.go b8)
        have HM := Lib.hid (HM.out.go b8)
        have HR := Lib.hid (HR.out.go b8)
        have HB := Lib.hid (below_go HB.out b8)
        clear b8
        go_wp2_with fail
        refine (pfine_any Ac nc cc cs Ao no co bk _ HC.out (by omega) HR.out (by omega)).mono ?_
        rw [fineV, HV.out, Bool.true_and, HFB.out, HG.out]
        rintro e w9 ⟨rfl, b9'⟩
        have HC := Lib.hid (HC.out.go b9')
        have HS := Lib.hid (HS.out.go b9')
        have HM := Lib.hid (HM.out.go b9')
        have HR := Lib.hid (HR.out.go b9')
        have HB := Lib.hid (below_go HB.out b9')
        clear b9'
        go_wp2_with fail
        refine (pfine_any Ac nc cc cs As ns c4 s _ HC.out (by omega) HS.out (by omega)).mono ?_
        rw [fineV, HV.out, Bool.true_and, HG.out]
        rintro e w10 ⟨rfl, b10⟩
        have HC := Lib.hid (HC.out.go b10)
        have HS := Lib.hid (HS.out.go b10)
        have HM := Lib.hid (HM.out.go b10)
        have HR := Lib.hid (HR.out.go b10)
        have HB := Lib.hid (below_go HB.out b10)
        clear b10
        go_wp2_with fail
        refine (core_any Ac nc cc cs Ao no co bk _ HC.out (by omega) HR.out (by omega) _ (Lib.hid HCB.out)).mono ?_
        rintro e w11 ⟨Ak, ck, rfl, hk, _, b11⟩
        have HK := Lib.hid hk
        clear hk
        have HC := Lib.hid (HC.out.go b11)
        have HS := Lib.hid (HS.out.go b11)
        have HM := Lib.hid (HM.out.go b11)
        have HR := Lib.hid (HR.out.go b11)
        have HB := Lib.hid (below_go HB.out b11)
        clear b11
        go_wp2_with fail
        refine (core_any Ac nc cc cs As ns c4 s _ HC.out (by omega) HS.out (by omega) _ (Lib.hid rfl)).mono ?_
        rintro e w12 ⟨Aq, cq, rfl, hk, _, b12⟩
        have HK := Lib.hid (HK.out.go b12)
        have HK2 := Lib.hid hk
        clear hk
        have HC := Lib.hid (HC.out.go b12)
        have HS := Lib.hid (HS.out.go b12)
        have HM := Lib.hid (HM.out.go b12)
        have HR := Lib.hid (HR.out.go b12)
        have HB := Lib.hid (below_go HB.out b12)
        clear b12
        go_wp2_with fail
        refine (sameInts_any Ak Aq _ _ ck cq (coreV cs s) (coreV cs s) _ HK.out HK2.out (by omega) true (Lib.hid (decide_eq_true rfl))).mono ?_
        rintro e w13 ⟨rfl, b13⟩
        have HC := Lib.hid (HC.out.go b13)
        have HS := Lib.hid (HS.out.go b13)
        have HM := Lib.hid (HM.out.go b13)
        have HR := Lib.hid (HR.out.go b13)
        have HB := Lib.hid (below_go HB.out b13)
        clear b13
        clear HK HK2
        go_wp2_with (at_builtin; refine wpList_copy_cls w13 rfl _ _ rfl rfl Ac nc cc cs rfl rfl HC.out (by omega) ?_)
        intro gg cap w14 how hcap hgg b14
        have HOw := Lib.hid how
        have H14 := Lib.hid b14
        clear how b14 HC HS HR HG
        go_wp2_with fail
        go_loopw [13] (fun x wr => ∃ (k : Nat) (fr : List ClV), k ≤ nc ∧ x = .int .i64 k ∧ Hid (fr.length = nc) ∧ Hid (Ow wr gg fr) ∧ Hid (∀ c ∈ fr, badC c = false) ∧ Hid (∀ j c, j < k → fr[j]? = some c → c.nots = []) ∧ Hid (Below gg w14 wr)) (fun x _ => nc - (intOf x).toNat)
        case atStart => exact ⟨0, cs, by omega, rfl, HL, HOw, Lib.hid (bad_of_valid HV.out), Lib.hid (fun j c hj _ => absurd hj (by omega)), Lib.hid (Below.refl _ _)⟩
        case round =>
          obtain ⟨k, fr, hk, rfl, FL, O, P1, P2, B⟩ := hrel
          by_cases hlt : k < nc
          · have j0 : (0 : Int) ≤ (k : Int) := by omega
            have j1 : (k : Int) < (nc : Int) := by omega
            have hkf : k < fr.length := by have := FL.out; omega
            have g1 := O.out.frozen (k * 3 + 2)
            have c1 := O.out.cell (j := 2) hkf (by decide)
            have HO5 := Lib.hid (O.out.set2 hkf (A := none) (m := 0) (cap := 0) (ss := []) (QAt.nil _ _) (by omega) (fun b hb => by cases hb))
            have HB5 := Lib.hid (B.out.setCell (p := ⟨gg, k * 3 + 2, none⟩) (Nat.le_refl _) (.slice none 0 0))
            have FL5 := Lib.hid (show (fr.set k (fr[k].notss none 0 0 [])).length = nc by rw [List.length_set]; exact FL.out)
            have P15 := Lib.hid (show ∀ c ∈ fr.set k (fr[k].notss none 0 0 []), badC c = false from fun c hc => by
              rcases List.mem_or_eq_of_mem_set hc with hc | rfl
              · exact P1.out c hc
              · exact bad_free (P1.out _ (List.getElem_mem hkf)))
            have P25 := Lib.hid (show ∀ j c, j < k + 1 → (fr.set k (fr[k].notss none 0 0 []))[j]? = some c → c.nots = [] from fun j c hj hc => by
              by_cases e : j = k
              · subst e
                rw [List.getElem?_set_self hkf] at hc
                injection hc with hc
                rw [← hc]; rfl
              · rw [List.getElem?_set_ne (fun h => e h.symm)] at hc
                exact P2.out j c (by omega) hc)
            go_wp2_with fail
            go_roundw
            case rel => exact ⟨k + 1, fr.set k (fr[k].notss none 0 0 []), by omega, by go_num, FL5, HO5, P15, P25, HB5⟩
            case measure => simp [intOf]; omega
          · obtain rfl : k = nc := by omega
            have HFC := Lib.hid (show Cls wr wr.heap.size (some ⟨gg, 0, none⟩) k fr by have := O.out.cls; rwa [FL.out] at this)
            have HFV := Lib.hid (valid_of FL.out hnc P1.out)
            have hfree : ∀ c ∈ fr, c.nots = [] := fun c hc => by
              obtain ⟨j, hj, rfl⟩ := List.getElem_of_mem hc
              exact P2.out j _ (by have := FL.out; omega) (List.getElem?_eq_getElem hj)
            have HFF := Lib.hid (show fineB fr (s ++ p) = true from free_fine hfree _)
            have HF0 := Lib.hid (show coreV fr (s ++ p) = [] from coreV_fine (free_fine hfree _))
            have HZ := Lib.hid (H14.out.trans (B.out.mono hgg))
            have HBf := Lib.hid (below_go HB.out HZ.out)
            have HMf := Lib.hid (HM.out.go HZ.out)
            clear hfree
            go_wp2_with fail
            refine (pfine_any (some ⟨gg, 0, none⟩) k _ fr A5 nm c6 (s ++ p) wr HFC.out (by omega) HMf.out (by omega)).mono ?_
            rw [fineV, HFV.out, Bool.true_and, HFF.out]
            rintro e w15 ⟨rfl, b15⟩
            have HBf := Lib.hid (below_go HBf.out b15)
            have HMf := Lib.hid (HMf.out.go b15)
            have HFC := Lib.hid (HFC.out.go b15)
            clear b15
            go_wp2_with fail
            refine (core_any (some ⟨gg, 0, none⟩) k _ fr A5 nm c6 (s ++ p) w15 HFC.out (by omega) HMf.out (by omega) [] HF0).mono ?_
            rintro e w16 ⟨Az, cz, rfl, _, _, b16⟩
            have HBf := Lib.hid (below_go HBf.out b16)
            clear b16
            go_wp2_with fail
            refine (lives_any w16).mono ?_
            rintro e w17 ⟨rfl, b17⟩
            go_wp2_with fail
            go_ret
            exact ⟨rfl, below_go HBf.out b17⟩
end Go.Proofs.Ytflfachkoffiiaa
