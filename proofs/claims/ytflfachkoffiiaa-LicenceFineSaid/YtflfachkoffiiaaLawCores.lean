/- The walk of LicenceCores. -/
import Derived.Test.YtflfachkoffiiaaLawSmallest
namespace Go.Proofs.Ytflfachkoffiiaa
open Go.RowKit Go.Lib

def many0 : Array Value := (clsCells (List.replicate 17 emptyCl)).toArray
theorem many_made : madeCells (Value.agg #[.string ⟨#[]⟩, .slice none 0 0, .slice none 0 0]).cells 51 = many0 := by kernel_rfl
theorem make_many (w : World) : (Instr.makeSlice 23 (.int .i64 17) (.int .i64 17)).run Try.prog w = .ok (.slice (some ⟨w.heap.size, 0, none⟩) 17 17) (w.alloc (.cells many0 36)) := by
  obtain ⟨i0, hi, hz0, hz1, hz2⟩ := info_parts info36
  have h := run_make_rowN (P := Try.prog) 23 36 i0 _ Try.underlying23 hi hz0 .i64 .i64 17 17 (Nat.le_refl _) (by rw [hz2]; omega) (by omega) w
  rw [hz1, show 17 * 3 = 51 from rfl, many_made] at h
  exact h
theorem many_ow (w : World) : Ow (w.alloc (.cells many0 36)) w.heap.size (List.replicate 17 emptyCl) := by
  refine ⟨⟨many0, heap_alloc_new w _, ?_⟩, fun c hc => ?_⟩
  · exact List.take_of_length_le (by decide)
  · rw [List.eq_of_mem_replicate hc]
    exact ⟨empty_at _ _, (fun b off e => by cases e), (fun b off e => by cases e)⟩
/-- the clause that contradicts itself -/
def aCl : ClV := ⟨[], none, 0, 0, [[97]], none, 0, 0, [[97]]⟩
def upto (k : Nat) : List Int := (List.range k).map (fun (j : Nat) => (j : Int))
theorem upto_succ (k : Nat) : upto (k + 1) = upto k ++ [(k : Int)] := by simp [upto, List.range_succ]
theorem upto_len (k : Nat) : (upto k).length = k := by simp [upto]
theorem QAt.one (w : World) {base : Nat} (s : Bs) (hb : base ≤ w.heap.size) : QAt (w.alloc (.cells #[str s] 9)) base (.slice (some ⟨w.heap.size, 0, none⟩) 1 1) (strCells [s]) :=
  .inr ⟨w.heap.size, 0, 1, rfl, hb, by simp, Nat.le_refl _, by decide, fun j hj => by
    obtain rfl : j = 0 := by omega
    refine ⟨?_, World.frozen?_alloc_new w _ _ 0⟩
    rw [World.cell?_alloc_at _ _ _ _ rfl]; rfl, fun j u hu => by
    rw [Nat.zero_add]
    exact blk_row _ 9 j (by rw [← hu]; exact List.getElem?_toArray)⟩
theorem Ow.some_ {w : World} {g k j : Nat} {cs : List ClV} (h : Ow w g cs) (hk : k < cs.length) (hj : j < 3) : ∃ u, w.cell? ⟨g, k * 3 + j, none⟩ = some u :=
  ⟨_, (h.cell hk hj).trans (List.getElem?_eq_getElem (by simpa [clCells] using hj))⟩
/-- the clauses lie apart from the block of v -/
def Ap (v : Value) (fr : List ClV) : Prop := ∀ c ∈ fr, ∀ q, v.ownBlock = some q → (∀ b off, c.A1 = some ⟨b, off, none⟩ → 0 < c.n1 → b ≠ q) ∧ (∀ b off, c.A2 = some ⟨b, off, none⟩ → 0 < c.n2 → b ≠ q)
theorem Rd.grown_ {w w' : World} {n : Nat} {A : Option Addr} {xs : List Value} {row : Option Nat} (h : Rd w w.heap.size 1 A n xs) (hg : w.grownBy w' row) (hr : ∀ q, row = some q → ∀ b off, A = some ⟨b, off, none⟩ → 0 < n → b ≠ q) : Rd w' w'.heap.size 1 A n xs :=
  ⟨h.1, fun hn => by
    obtain ⟨b, off, e, hb, hc⟩ := h.2 hn
    refine ⟨b, off, e, Nat.lt_of_lt_of_le hb hg.size, fun j u hu => ?_⟩
    rw [World.cell?_of_block (w := w) (a := ⟨b, off + j, none⟩) (hg.block b hb (fun e' => hr b e'.symm b off e hn rfl))]
    exact hc j u hu⟩
theorem Ow.grown_ {w w' : World} {g : Nat} {cs : List ClV} {v : Value} (h : Ow w g cs) (hg : w.grownBy w' v.ownBlock) (hr : ∀ q, v.ownBlock = some q → g + 1 ≤ q) (hap : Ap v cs) : Ow w' g cs := by
  obtain ⟨cur, hc, ht⟩ := h.row
  refine ⟨⟨cur, (hg.block g h.lt (fun e => by have := hr g e.symm; omega)).trans hc, ht⟩, fun c hc => ?_⟩
  have ha := h.all c hc
  exact ⟨⟨ha.ok.nm, ha.ok.m1, ha.ok.m2, ha.ok.r1.grown_ hg (fun q hq => (hap c hc q hq).1), ha.ok.r2.grown_ hg (fun q hq => (hap c hc q hq).2), ha.ok.f1, ha.ok.f2⟩, ha.a1, ha.a2⟩
theorem Ap.more {w : World} {g : Nat} {v v' : Value} {fr : List ClV} (h : Ap v fr) (ho : Ow w g fr) (hl : v'.ownBlock = v.ownBlock ∨ ∃ N, v'.ownBlock = some N ∧ w.heap.size ≤ N) : Ap v' fr := by
  intro c hc q hq
  rcases hl with hl | ⟨N, hl, hN⟩
  · exact h c hc q (by rw [← hl]; exact hq)
  · rw [hl] at hq
    obtain rfl : N = q := Option.some.inj hq
    have ha := h c hc
    refine ⟨fun b off e hn => ?_, fun b off e hn => ?_⟩
    · obtain ⟨b', off', e', hb, _⟩ := (ho.all c hc).ok.r1.2 hn
      rw [e] at e'; injection e' with e'; injection e' with e'
      omega
    · obtain ⟨b', off', e', hb, _⟩ := (ho.all c hc).ok.r2.2 hn
      rw [e] at e'; injection e' with e'; injection e' with e'
      omega
theorem Ap.put {v : Value} {fr : List ClV} (h : Ap v fr) {k N : Nat} (hv : ∀ q, v.ownBlock = some q → q < N) (ss ts : List Bs) : Ap v (fr.set k ⟨[], some ⟨N, 0, none⟩, 1, 1, ss, some ⟨N + 1, 0, none⟩, 1, 1, ts⟩) := by
  intro c hc q hq
  rcases List.mem_or_eq_of_mem_set hc with hc | rfl
  · exact h c hc q hq
  · have := hv q hq
    refine ⟨fun b off e _ => ?_, fun b off e _ => ?_⟩
    · injection e with e; injection e with e; omega
    · injection e with e; injection e with e; omega
theorem lens_a : Lens [[97]] := by unfold Lens; decide
theorem IAt.set {w : World} {base : Nat} {v : Value} {xs : List Value} (h : IAt w base v xs) {p : Addr} (hp : p.block < base) (u : Value) : IAt (w.setCell p u) base v xs :=
  h.kept (row := some p.block) ⟨rfl, rfl, rfl, by simp [World.setCell], fun k _ hne => Below.heap_setCell _ _ _ _ (fun e => hne (by rw [e]))⟩ (by
    cases hv : v.ownBlock with
    | none => exact .inl rfl
    | some g => refine .inr (fun e => ?_); have := (h.lt hv).1; injection e with e; omega)
theorem Ow.set3 {w : World} {g k : Nat} {fr : List ClV} (h : Ow w g fr) (hk : k < fr.length) {A1 A2 : Option Addr} {ss ts : List Bs} {m1 m2 c1 c2 : Nat} (q1 : QAt w (g + 1) (.slice A1 m1 c1) (strCells ss)) (q2 : QAt w (g + 1) (.slice A2 m2 c2) (strCells ts)) (h1 : m1 ≤ 1000) (h2 : m2 ≤ 1000) (f1 : Lens ss) (f2 : Lens ts) :
    Ow (((w.setCell ⟨g, k * 3, none⟩ (.string ⟨#[]⟩)).setCell ⟨g, k * 3 + 1, none⟩ (.slice A1 m1 c1)).setCell ⟨g, k * 3 + 2, none⟩ (.slice A2 m2 c2)) g (fr.set k ⟨[], A1, m1, c1, ss, A2, m2, c2, ts⟩) := by
  have hs0 := h.set0 hk ⟨#[]⟩ (by decide)
  have hl0 : k < (fr.set k (fr[k].named [])).length := by rw [List.length_set]; exact hk
  have hs1 := hs0.set1 hl0 (q1.set (p := ⟨g, k * 3, none⟩) (Nat.lt_succ_self g) (.string ⟨#[]⟩)) h1 f1
  rw [List.set_set] at hs1
  have hl1 := hl0
  rw [List.length_set] at hl1
  have hs2 := hs1.set2 (k := k) (by rw [List.length_set]; exact hk) ((q2.set (p := ⟨g, k * 3, none⟩) (Nat.lt_succ_self g) (.string ⟨#[]⟩)).set (p := ⟨g, k * 3 + 1, none⟩) (Nat.lt_succ_self g) (.slice A1 m1 c1)) h2 f2
  rw [List.set_set] at hs2
  simpa [ClV.notss, ClV.musts, ClV.named] using hs2
section
variable {l : List ClV}
theorem many_fine (h : l.map ClV.bare = List.replicate 17 aCl) (x : List Int) : fineB l x = fineD (List.replicate 17 aCl) x := by rw [fineD_eq, ← h, fineD_bare]
theorem many_len (h : l.map ClV.bare = List.replicate 17 aCl) : l.length = 17 := by have := congrArg List.length h; simpa using this
theorem many_valid (h : l.map ClV.bare = List.replicate 17 aCl) : validB l = true := by rw [← valid_bare, h]; decide
set_option maxRecDepth 100000 in
theorem many_long (h : l.map ClV.bare = List.replicate 17 aCl) : coreV l (upto 17) = [] := coreV_long (by rw [many_len h]; decide)
set_option maxRecDepth 100000 in
theorem many_one (h : l.map ClV.bare = List.replicate 17 aCl) : coreV l (upto 16) = [0] := by
  refine coreV_of (many_valid h) (by rw [many_len h]; decide) ⟨by rw [many_len h]; decide, by rw [many_fine h]; decide, fun x hx hf => ?_⟩
  match x, hx, hf with
  | [], _, hf => rw [fine_nil] at hf; cases hf
  | [k], hx, _ =>
    have hk : k ∈ sortedTo (upto 16) l.length := hx.subset List.mem_cons_self
    rw [sortedTo_mem] at hk
    unfold lessB
    rw [if_pos (show [k].length = [(0 : Int)].length from rfl)]
    show (if k = 0 then lexB [] [] else decide (k < 0)) = false
    split
    · rfl
    · rw [decide_eq_false_iff_not]; omega
  | a :: b :: x, _, _ =>
    unfold lessB
    rw [if_neg (by simp), decide_eq_false_iff_not]
    simp
end
theorem sp_core {xs : List ClV} {nx : Nat} (hl : xs.length = nx) (h : nx ≤ 8 ∨ 32 < nx) (s : List Int) : validB xs = true → (sortedTo s xs.length).length ≤ 8 := by
  intro hv
  have h1 := sortedTo_len s xs.length
  have h2 := (small_of_valid hv).1
  omega

set_option maxHeartbeats 8000000 in
set_option maxRecDepth 100000 in
theorem cores_any (A : Option Addr) (n c : Nat) (zs : List Int) (A2 : Option Addr) (n2 c2 : Nat) (ms : List Int) (how by' : Int) (w : World) (h1 : Rd w w.heap.size 1 A n (intCells zs)) (f1 : Fits zs) (hn : n ≤ 9223372036854775807)
    (h2 : Rd w w.heap.size 1 A2 n2 (intCells ms)) (f2 : Fits ms) (hn2 : n2 ≤ 9223372036854775807) (hb1 : -9223372036854775808 ≤ how ∧ how ≤ 9223372036854775807) (hb2 : -9223372036854775808 ≤ by' ∧ by' ≤ 9223372036854775807) :
    Calls Try.prog 4 #[.slice A n c, .slice A2 n2 c2, .int .i64 how, .int .i64 by'] w (RetB (.bool true) w) := by
  have H1 := Lib.hid h1
  have H2 := Lib.hid h2
  have F1 := Lib.hid f1
  have F2 := Lib.hid f2
  clear h1 h2 f1 f2
  go_enter Try.func4, Try.ntmps4
  go_wp2_with fail
  refine (clauses_any A n c zs w H1.out F1.out hn).mono ?_
  rintro e w1 ⟨Ac, nc, cc, cs, rfl, hnc, hcc, hcl, hv, b1⟩
  have HC := Lib.hid hcl
  have HV := Lib.hid hv
  have HB := Lib.hid b1
  have HL := Lib.hid hcl.len
  clear hcl hv b1
  go_wp2_with fail
  refine (picks_any A2 n2 c2 ms w1 (H2.out.go HB.out) F2.out hn2).mono ?_
  rintro e w2 hp
  obtain ⟨As, c4, rfl, hr, hc3, b2⟩ := hp.open_
  have hs10 := picks_len ms
  obtain ⟨s, hs⟩ : ∃ s, s = picksL ms := ⟨_, rfl⟩
  rw [← hs] at hr hc3 hs10 ⊢
  obtain ⟨ns, hns⟩ : ∃ ns, ns = s.length := ⟨_, rfl⟩
  rw [← hns] at hr hc3 hs10 ⊢
  have HNS := Lib.hid hns
  have HS := Lib.hid hr
  have HC := Lib.hid (HC.out.go b2)
  have HB := Lib.hid (below_go HB.out b2)
  clear hp hr b2 hs hns
  have hk8 := core_len cs s
  rw [HL.out] at hk8
  go_wp2_with fail
  refine (core_any Ac nc cc cs As ns c4 s w2 HC.out (by omega) HS.out (by omega) _ (Lib.hid rfl)).mono ?_
  rintro e w3 ⟨Ak, ck, rfl, hk, _, b3⟩
  have HK := Lib.hid hk
  have HC := Lib.hid (HC.out.go b3)
  have HS := Lib.hid (HS.out.go b3)
  have HB := Lib.hid (below_go HB.out b3)
  clear hk b3
  go_wp2_with fail
  refine (rcore_any Ac nc cc cs As ns c4 s w3 HC.out (by omega) HS.out (by omega) (sp_core HL.out (.inl hnc) s) _ (Lib.hid rfl)).mono ?_
  rintro e w4 ⟨Aq, cq, rfl, hk, _, b4⟩
  have HK := Lib.hid (HK.out.go b4)
  have HQ := Lib.hid hk
  have HC := Lib.hid (HC.out.go b4)
  have HS := Lib.hid (HS.out.go b4)
  have HB := Lib.hid (below_go HB.out b4)
  clear hk b4
  go_wp2_with fail
  refine (sameInts_any Ak Aq _ _ ck cq (coreV cs s) (coreV cs s) w4 HK.out HQ.out (by omega) true (Lib.hid (decide_eq_true rfl))).mono ?_
  rintro e w5 ⟨rfl, b5⟩
  have HC := Lib.hid (HC.out.go b5)
  have HS := Lib.hid (HS.out.go b5)
  have HB := Lib.hid (below_go HB.out b5)
  clear b5 HK HQ hk8
  go_wp2_with fail
  refine (spoilt_any Ac nc cc cs how by' w5 HC.out hnc HV.out hb1 hb2).mono ?_
  rintro e w6 ⟨Ax, nx, cx, xs, rfl, hx8, hx9, hxc, hxl, b6⟩
  have HX := Lib.hid hxl
  have HS := Lib.hid (HS.out.go b6)
  have HB := Lib.hid (below_go HB.out b6)
  have HXL := Lib.hid hxl.len
  clear hxl b6 HC
  have hmk := make_many w6
  go_wp2_with fail
  have HOw := Lib.hid (many_ow w6)
  obtain ⟨w7, hw7⟩ : ∃ w7, w7 = w6.alloc (.cells many0 36) := ⟨_, rfl⟩
  have HB7 := Lib.hid (show Below w6.heap.size w6 w7 by rw [hw7]; exact below_new _ _)
  rw [← hw7] at HOw ⊢
  obtain ⟨g, hg⟩ : ∃ g, g = w6.heap.size := ⟨_, rfl⟩
  rw [← hg] at HOw HB7 ⊢
  have HGE := Lib.hid hg
  clear hw7 hmk hg
  go_loopw [13, 14] (fun v x wr => ∃ (k : Nat) (Ao : Option Addr) (co : Nat) (fr : List ClV), k ≤ 17 ∧ x = .int .i64 k ∧ v = .slice Ao k co ∧ Hid (fr.length = 17) ∧ Hid (Ow wr g fr) ∧ Hid (∀ j c, j < k → fr[j]? = some c → c.bare = aCl) ∧ Hid (IAt wr (g + 1) v (intCells (upto k))) ∧ Hid (Ap v fr) ∧ Hid (Below g w6 wr)) (fun _ x _ => 17 - (intOf x).toNat)
  case atStart => exact ⟨0, none, 0, _, by omega, rfl, rfl, Lib.hid rfl, HOw, Lib.hid (fun j c hj _ => absurd hj (by omega)), Lib.hid (IAt.nil _ _), Lib.hid (fun c _ q hq => by cases hq), HB7⟩
  case round =>
    obtain ⟨k, Ao, co, fr, hk, rfl, rfl, FL, O, P, Q, AP, B⟩ := hrel
    by_cases hlt : k < 17
    · have j0 : (0 : Int) ≤ (k : Int) := by omega
      have j1 : (k : Int) < 17 := by omega
      have hkf : k < fr.length := by have := FL.out; omega
      have hgl := O.out.lt
      have OA := Lib.hid ((O.out.below (below_new wr (.cells #[.string ⟨#[97]⟩] 9))).below (below_new _ (.cells #[.string ⟨#[97]⟩] 9)))
      have Q1 := Lib.hid ((QAt.one wr (base := g + 1) [97] hgl).below (below_new _ (.cells #[.string ⟨#[97]⟩] 9)) (Nat.le_refl _))
      have Q2 := Lib.hid (QAt.one (wr.alloc (.cells #[.string ⟨#[97]⟩] 9)) (base := g + 1) [97] (Nat.le_trans hgl (by simp)))
      have QI := Lib.hid ((Q.out.alloc (.cells #[.string ⟨#[97]⟩] 9)).alloc (.cells #[.string ⟨#[97]⟩] 9))
      have BA := Lib.hid ((B.out.alloc (Nat.le_of_lt hgl) (.cells #[.string ⟨#[97]⟩] 9)).alloc (Nat.le_trans (Nat.le_of_lt hgl) (by simp)) (.cells #[.string ⟨#[97]⟩] 9))
      have hsz : (wr.alloc (.cells #[.string ⟨#[97]⟩] 9)).heap.size = wr.heap.size + 1 := by simp
      rw [hsz] at Q2
      clear hsz
      have f0 := OA.out.frozen (k * 3)
      have f1 := OA.out.frozen (k * 3 + 1)
      have f2 := OA.out.frozen (k * 3 + 2)
      obtain ⟨uc0, c0⟩ := OA.out.some_ (j := 0) hkf (by decide)
      obtain ⟨uc1, c1⟩ := OA.out.some_ (j := 1) hkf (by decide)
      obtain ⟨uc2, c2⟩ := OA.out.some_ (j := 2) hkf (by decide)
      rw [Nat.add_zero] at c0
      have OB := Lib.hid (OA.out.set0 hkf ⟨#[]⟩ (by decide))
      have hkb : k < (fr.set k (fr[k].named [])).length := by rw [List.length_set]; exact hkf
      have f3 := OB.out.frozen (k * 3 + 1)
      have f4 := OB.out.frozen (k * 3 + 2)
      obtain ⟨uc3, c3⟩ := OB.out.some_ (j := 1) hkb (by decide)
      obtain ⟨uc4, c4'⟩ := OB.out.some_ (j := 2) hkb (by decide)
      have OC := Lib.hid (OB.out.set1 hkb (Q1.out.set (p := ⟨g, k * 3, none⟩) (Nat.lt_succ_self g) (.string ⟨#[]⟩)) (by omega) (by decide))
      have hkc : k < ((fr.set k (fr[k].named [])).set k ((fr.set k (fr[k].named []))[k].musts (some ⟨wr.heap.size, 0, none⟩) 1 1 [[97]])).length := by rw [List.length_set]; exact hkb
      have f5 := OC.out.frozen (k * 3 + 2)
      obtain ⟨uc5, c5⟩ := OC.out.some_ (j := 2) hkc (by decide)
      have OD := Lib.hid (OA.out.set3 hkf Q1.out Q2.out (by omega) (by omega) lens_a lens_a)
      have QD := Lib.hid (((QI.out.set (p := ⟨g, k * 3, none⟩) (Nat.lt_succ_self g) (.string ⟨#[]⟩)).set (p := ⟨g, k * 3 + 1, none⟩) (Nat.lt_succ_self g) (.slice (some ⟨wr.heap.size, 0, none⟩) 1 1)).set (p := ⟨g, k * 3 + 2, none⟩) (Nat.lt_succ_self g) (.slice (some ⟨wr.heap.size + 1, 0, none⟩) 1 1))
      have BD := Lib.hid (((BA.out.setCell (p := ⟨g, k * 3, none⟩) (Nat.le_refl g) (.string ⟨#[]⟩)).setCell (p := ⟨g, k * 3 + 1, none⟩) (Nat.le_refl g) (.slice (some ⟨wr.heap.size, 0, none⟩) 1 1)).setCell (p := ⟨g, k * 3 + 2, none⟩) (Nat.le_refl g) (.slice (some ⟨wr.heap.size + 1, 0, none⟩) 1 1))
      clear hgl hkb hkc OB OC
      have HSC := Lib.hid (show (((((wr.alloc (.cells #[.string ⟨#[97]⟩] 9)).alloc (.cells #[.string ⟨#[97]⟩] 9)).setCell ⟨g, k * 3, none⟩ (.string ⟨#[]⟩)).setCell ⟨g, k * 3 + 1, none⟩ (.slice (some ⟨wr.heap.size, 0, none⟩) 1 1)).setCell ⟨g, k * 3 + 2, none⟩ (.slice (some ⟨wr.heap.size + 1, 0, none⟩) 1 1)).heap.size = wr.heap.size + 1 + 1 by rw [setCell_size, setCell_size, setCell_size]; simp)
      have HFD := Lib.hid (show ∀ j c, j < k + 1 → (fr.set k ⟨[], some ⟨wr.heap.size, 0, none⟩, 1, 1, [[97]], some ⟨wr.heap.size + 1, 0, none⟩, 1, 1, [[97]]⟩)[j]? = some c → c.bare = aCl from fun j c hj hc => by
        by_cases e : j = k
        · subst e
          rw [List.getElem?_set_self hkf] at hc
          injection hc with hc
          rw [← hc]; rfl
        · rw [List.getElem?_set_ne (fun h => e h.symm)] at hc
          exact P.out j c (by omega) hc)
      have FL5 := Lib.hid (show (fr.set k ⟨[], some ⟨wr.heap.size, 0, none⟩, 1, 1, [[97]], some ⟨wr.heap.size + 1, 0, none⟩, 1, 1, [[97]]⟩).length = 17 by rw [List.length_set]; exact FL.out)
      go_wp2_with (at_builtin; refine wpList_append_i _ rfl _ _ rfl rfl (g + 1) _ _ rfl (QD.out.alloc _) (Nat.le_trans OD.out.lt (by simp)) _ 1 [.int .i64 (k : Int)] rfl (src_cell (by rw [World.cell?_alloc_at _ _ _ _ HSC.out.symm]; rfl)) (by rw [intCells, List.length_map, upto_len]; omega) ?_)
      intro v3 w3 hq3 hgr hloc
      have hown : ∀ q, (Value.slice Ao k co).ownBlock = some q → g + 1 ≤ q := fun q hq => (Q.out.lt hq).1
      have HB3 := Lib.hid ((BD.out.alloc (Nat.le_of_lt OD.out.lt) _).grown hgr (Nat.le_trans (Nat.le_of_lt OD.out.lt) (by simp)) (fun q hq => Nat.le_of_succ_le (hown q hq)))
      have hap := AP.out.put (k := k) (N := wr.heap.size) (fun q hq => (Q.out.lt hq).2) [[97]] [[97]]
      have HO3 := Lib.hid ((OD.out.below (below_new _ (.cells #[.int .i64 (k : Int)] 3))).grown_ hgr hown hap)
      have HAP := Lib.hid (hap.more OD.out (hloc.imp id (fun e => ⟨_, e, by simp⟩)))
      rw [← intCells_snoc, ← upto_succ] at hq3
      obtain ⟨A3, k3, rfl, _, _⟩ := hq3.rd
      rw [show (intCells (upto (k + 1))).length = k + 1 by rw [intCells, List.length_map, upto_len]] at *
      have HQ3 := Lib.hid hq3
      clear hgr hloc hq3 hown hap c0 c1 c2 c3 c4' c5 f0 f1 f2 f3 f4 f5
      go_wp2_with fail
      go_roundw
      case rel => exact ⟨k + 1, A3, k3, _, by omega, by go_num, rfl, FL5, HO3, HFD, HQ3, HAP, HB3⟩
      case measure => simp [intOf]; omega
    · obtain rfl : k = 17 := by omega
      have HBA := Lib.hid (show fr.map ClV.bare = List.replicate 17 aCl from by
        refine List.ext_getElem (by rw [List.length_map, FL.out, List.length_replicate]) (fun j h1 h2 => ?_)
        rw [List.getElem_map, List.getElem_replicate]
        have hj : j < fr.length := by simpa using h1
        exact P.out j _ (by have := FL.out; omega) (List.getElem?_eq_getElem hj))
      have HM := Lib.hid (show Cls wr wr.heap.size (some ⟨g, 0, none⟩) 17 fr by have := O.out.cls; rwa [FL.out] at this)
      have HAl := Lib.hid (show Rd wr wr.heap.size 1 Ao 17 (intCells (upto 17)) by
        obtain ⟨A', c', e, _, hr⟩ := Q.out.rd
        rw [show (intCells (upto 17)).length = 17 from rfl] at e hr
        injection e with e
        rw [e]; exact hr)
      have HZ := Lib.hid (show Below w6.heap.size w6 wr by rw [← HGE.out]; exact B.out)
      have HX := Lib.hid (HX.out.go HZ.out)
      have HS := Lib.hid (HS.out.go HZ.out)
      have HB := Lib.hid (below_go HB.out HZ.out)
      have hco : 17 ≤ co := by
        obtain ⟨A', c', e, h, _⟩ := Q.out.rd
        rw [show (intCells (upto 17)).length = 17 from rfl] at e h
        injection e with _ _ e
        omega
      have hkx := core_len xs s
      rw [HXL.out] at hkx
      go_wp2_with fail
      refine (core_any Ax nx cx xs As ns c4 s wr HX.out (by omega) HS.out (by omega) _ (Lib.hid rfl)).mono ?_
      rintro e w8 ⟨Ak, ck', rfl, hk, _, b8⟩
      have HK := Lib.hid hk
      have HX := Lib.hid (HX.out.go b8)
      have HS := Lib.hid (HS.out.go b8)
      have HM := Lib.hid (HM.out.go b8)
      have HAl := Lib.hid (HAl.out.go b8)
      have HB := Lib.hid (below_go HB.out b8)
      clear hk b8
      go_wp2_with fail
      refine (rcore_any Ax nx cx xs As ns c4 s w8 HX.out (by omega) HS.out (by omega) (sp_core HXL.out hx8 s) _ (Lib.hid rfl)).mono ?_
      rintro e w9 ⟨Aq, cq', rfl, hk, _, b9⟩
      have HK := Lib.hid (HK.out.go b9)
      have HQ := Lib.hid hk
      have HM := Lib.hid (HM.out.go b9)
      have HAl := Lib.hid (HAl.out.go b9)
      have HB := Lib.hid (below_go HB.out b9)
      clear hk b9
      go_wp2_with fail
      refine (sameInts_any Ak Aq _ _ ck' cq' (coreV xs s) (coreV xs s) w9 HK.out HQ.out (by omega) true (Lib.hid (decide_eq_true rfl))).mono ?_
      rintro e w10 ⟨rfl, b10⟩
      have HM := Lib.hid (HM.out.go b10)
      have HAl := Lib.hid (HAl.out.go b10)
      have HB := Lib.hid (below_go HB.out b10)
      clear b10 HK HQ hkx
      go_wp2_with fail
      refine (core_any (some ⟨g, 0, none⟩) 17 17 fr Ao 17 co (upto 17) w10 HM.out (by omega) HAl.out (by omega) [] (Lib.hid (many_long HBA.out))).mono ?_
      rintro e w11 ⟨Ay, cy, rfl, _, _, b11⟩
      have HM := Lib.hid (HM.out.go b11)
      have HAl := Lib.hid (HAl.out.go b11)
      have HB := Lib.hid (below_go HB.out b11)
      clear b11
      have HA16 := Lib.hid (show Rd w11 w11.heap.size 1 Ao 16 (intCells (upto 16)) from HAl.out.takeI (m := 16) (by omega))
      go_wp2_with fail
      refine (core_any (some ⟨g, 0, none⟩) 17 17 fr Ao 16 _ (upto 16) w11 HM.out (by omega) HA16.out (by omega) [0] (Lib.hid (many_one HBA.out))).mono ?_
      rintro e w12 ⟨Az, cz, rfl, _, _, b12⟩
      have HB := Lib.hid (below_go HB.out b12)
      clear b12
      go_wp2_with fail
      refine (lives_any w12).mono ?_
      rintro e w13 ⟨rfl, b13⟩
      go_wp2_with fail
      go_ret
      exact ⟨rfl, below_go HB.out b13⟩
end Go.Proofs.Ytflfachkoffiiaa
