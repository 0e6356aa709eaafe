/- The walk of LexJoins. -/
import Derived.Test.YtjjdfccbkohlcaaDoorLawErrors
namespace Go.Proofs.YtjjdfccbkohlcaaDoor
open Go.RowKit

/-- the line end between two texts -/
theorem line_list (s t : ByteArray) : (s ++ ⟨#[10]⟩ ++ t).data.toList = s.data.toList ++ 10 :: t.data.toList := by
  simp [ByteArray.data_append]
theorem line_size (s t : ByteArray) : (s ++ ⟨#[10]⟩ ++ t).size = s.size + 1 + t.size := by
  rw [ByteArray.size_append, ByteArray.size_append]; rfl

/-- the three ends, told by the third result -/
theorem scanT_ends (l : Lx.Bs) : (∃ N : Int, (N == -1) = false ∧ ∃ ts e, Lx.scanT l = (ts, e, N)) ∨ (¬ 8192 < l.length ∧ ∃ ts e, Lx.scan l = .ok (ts, e) ∧ Lx.scanT l = (ts, e, -1)) := by
  rcases scanT_three l with ⟨_, h⟩ | ⟨h, ts, e, h1, h2⟩ | ⟨_, k, _, h⟩
  · exact .inl ⟨8192, by decide, _, _, h⟩
  · exact .inr ⟨h, ts, e, h1, h2⟩
  · exact .inl ⟨(k : Int), by simp, _, _, h⟩

/-- the joining law, over the tables of three -/
def joined' (a : List Lx.Tok) (e : Lx.Bs) (b : List Lx.Tok) (r : Lx.Bs) : List Lx.Tok × Lx.Bs := Lx.joined a e (b, r)
theorem scanT_read {l : Lx.Bs} {ts : List Lx.Tok} {e : Lx.Bs} (h : Lx.scanT l = (ts, e, -1)) : Lx.scan l = .ok (ts, e) := by
  rcases scanT_ends l with ⟨N, hN, ts', e', h'⟩ | ⟨_, ts', e', h1, h2⟩
  · rw [h] at h'
    simp only [Prod.mk.injEq] at h'
    rw [← h'.2.2] at hN
    simp at hN
  · rw [h] at h2
    simp only [Prod.mk.injEq, and_true] at h2
    rw [h1, h2.1, h2.2]
theorem join_scanT {s t J : ByteArray} (hJ : J = s ++ ⟨#[10]⟩ ++ t) (hl : ¬ 8192 < J.data.toList.length) {ts us vs : List Lx.Tok} {E F G : Lx.Bs} {K : Int}
    (h1 : Lx.scanT s.data.toList = (ts, E, -1)) (h2 : Lx.scanT t.data.toList = (us, F, -1)) (h3 : Lx.scanT J.data.toList = (vs, G, K)) : K = -1 ∧ joined' ts E us F = (vs, G) := by
  have h := Lx.scan_join (scanT_read h1) (scanT_read h2)
  rw [← line_list, ← hJ] at h
  have h4 := scanT_ok hl (ts := (Lx.joined ts E (us, F)).1) (e := (Lx.joined ts E (us, F)).2) h
  rw [h3] at h4
  simp only [Prod.mk.injEq] at h4
  exact ⟨h4.2.2, by rw [joined', h4.1, h4.2.1]⟩

theorem joined_len {ts us vs : List Lx.Tok} {E F G : Lx.Bs} (h : joined' ts E us F = (vs, G)) : vs.length = ts.length + us.length := by
  cases us with
  | nil => simp only [joined', Lx.joined, Prod.mk.injEq] at h; rw [← h.1]; rfl
  | cons b r => simp only [joined', Lx.joined, Prod.mk.injEq] at h; rw [← h.1]; simp
theorem joined_take {ts us vs : List Lx.Tok} {E F G : Lx.Bs} (h : joined' ts E us F = (vs, G)) : vs.take ts.length = ts := by
  cases us with
  | nil => simp only [joined', Lx.joined, Prod.mk.injEq] at h; rw [← h.1]; simp
  | cons b r => simp only [joined', Lx.joined, Prod.mk.injEq] at h; rw [← h.1]; simp

theorem tokCells_append (a b : List Lx.Tok) : tokCells (a ++ b) = tokCells a ++ tokCells b := by simp [tokCells]
theorem tokCells_length (a : List Lx.Tok) : (tokCells a).length = a.length * 2 := by
  induction a with
  | nil => rfl
  | cons x r ih => rw [show x :: r = [x] ++ r from rfl, tokCells_append, List.length_append, ih, List.length_append, Nat.add_mul]; rfl
theorem tokCells_drop (a b : List Lx.Tok) : (tokCells (a ++ b)).drop (a.length * 2) = tokCells b := by rw [tokCells_append, ← tokCells_length, List.drop_left]
/-- the front of a list -/
theorem Rd.pre {w : World} {B n : Nat} {A : Option Addr} {a r : List Lx.Tok} (h : Rd w B 2 A n (tokCells (a ++ r))) : Rd w B 2 A a.length (tokCells a) := by
  have hl := h.1
  rw [tokCells_append, List.length_append, tokCells_length, tokCells_length] at hl
  refine ⟨tokCells_length a, fun hn => ?_⟩
  obtain ⟨b, off, e, hb, hc⟩ := h.2 (by omega)
  refine ⟨b, off, e, hb, fun j u hu => hc j u ?_⟩
  rw [tokCells_append, List.getElem?_append_left (List.getElem?_eq_some_iff.1 hu).1]
  exact hu
/-- the end of a list -/
theorem Rd.post {w : World} {B n cap : Nat} {A : Option Addr} {a r : List Lx.Tok} (h : Rd w B 2 A n (tokCells (a ++ r))) (hn : n = a.length + r.length) (hc : n ≤ cap) :
    Rd w B 2 (if cap = a.length then A else A.map (·.add (a.length * 2))) r.length (tokCells r) := by
  have := h.cut (k := a.length) (m := n) (cap := cap) (by omega) (Nat.le_refl _) hc
  rw [tokCells_drop, show n - a.length = r.length from by omega, List.take_of_length_le (by rw [tokCells_length]; exact Nat.le_refl _)] at this
  exact this
theorem scan_small : ∀ (f : Nat) (l : Lx.Bs) (ts : List Lx.Tok) (e : Lx.Bs), Lx.scanF f l = .ok (ts, e) → e.length ≤ l.length ∧ ∀ t ∈ ts, t.before.length ≤ l.length
  | 0, l, ts, e, h => by simp [Lx.scanF] at h
  | f + 1, l, ts, e, h => by
    rw [Lx.scanF] at h
    split at h
    · simp only [Except.ok.injEq, Prod.mk.injEq] at h
      rw [← h.1, ← h.2]; simp
    · split at h
      · cases h
      · rename_i h0
        generalize hr : Lx.scanF f (l.drop (Lx.skipN false l + Lx.tokN (l.drop (Lx.skipN false l)))) = r at h
        cases r with
        | error m => simp [Lx.after] at h
        | ok p =>
          obtain ⟨ts', e'⟩ := p
          simp only [Lx.after, Except.ok.injEq, Prod.mk.injEq] at h
          obtain ⟨i1, i2⟩ := scan_small f _ ts' e' hr
          rw [List.length_drop] at i1
          rw [← h.1, ← h.2]
          refine ⟨by omega, fun t ht => ?_⟩
          simp only [List.cons_append, List.nil_append, List.mem_cons] at ht
          rcases ht with rfl | ht
          · simp; omega
          · have := i2 t ht
            rw [List.length_drop] at this
            omega
theorem scanT_small {l : Lx.Bs} {ts : List Lx.Tok} {e : Lx.Bs} (h : Lx.scanT l = (ts, e, -1)) : e.length ≤ l.length ∧ ∀ t ∈ ts, t.before.length ≤ l.length := scan_small _ _ _ _ (scanT_read h)
/-- a line end between two, as strings -/
theorem str_line {a b : Lx.Bs} {x y : ByteArray} (hx : x = ⟨a.toArray⟩) (hy : y = ⟨b.toArray⟩) : str (a ++ 10 :: b) = .string (x ++ ⟨#[10]⟩ ++ y) := by
  have : (⟨(a ++ 10 :: b).toArray⟩ : ByteArray) = x ++ ⟨#[10]⟩ ++ y := Go.WideShapes.bytes_inj (by rw [hx, hy, line_list])
  rw [str, this]
theorem mk_size (a : Lx.Bs) : (⟨a.toArray⟩ : ByteArray).size = a.length := by simp [ByteArray.size]

set_option maxHeartbeats 16000000 in
set_option maxRecDepth 100000 in
theorem lexJoins_walk (A A' : Option Addr) (n c n' c' : Nat) (zs ys : List Int) (raw : ByteArray) (w : World) (h1 : Rd w w.heap.size 1 A n (intCells zs)) (hf : Fits zs)
    (h1' : Rd w w.heap.size 1 A' n' (intCells ys)) (hf' : Fits ys) (hr : raw.size ≤ 140737488355328) (ht : Tabs w) (hkw : Kw w) :
    Calls Tryd.prog 4 #[.slice A n c, .slice A' n' c', .string raw] w (RetB (.bool true) w) := by
  go_enter Tryd.func4, Tryd.ntmps4
  go_wp2_with fail
  refine (sample_any _ _ _ _ _ h1 hf).mono ?_
  rintro e w1 ⟨s, rfl, hs1, b1⟩
  go_wp2_with fail
  refine (sample_any _ _ _ _ _ (h1'.go b1) hf').mono ?_
  rintro e w2 ⟨s2, rfl, hs2, b2⟩
  have b1 := below_go b1 b2
  clear b2
  go_wp2_with fail
  have hL : ∀ p ∈ [s2, raw], p.size ≤ 140737488355328 := by
    intro p hp
    simp only [List.mem_cons, List.not_mem_nil, or_false] at hp
    rcases hp with rfl | rfl
    · omega
    · omega
  have q1 := rd_strs w2 [s2, raw] 2 rfl
  have hs3 : w2.heap.size + 1 ≤ (w2.alloc (.cells ([s2, raw].map Value.string).toArray 9)).heap.size := by rw [World.size_alloc]; omega
  have b3 := below_go b1 (below_new w2 (.cells ([s2, raw].map Value.string).toArray 9))
  obtain ⟨L, hLd⟩ : ∃ L : List ByteArray, L = [s2, raw] := ⟨_, rfl⟩
  have hLl : L.length = 2 := by rw [hLd]; rfl
  have Q1 := Lib.hid q1
  have HL := Lib.hid hL
  rw [← hLd] at Q1 HL hs3 b3
  have HLl := Lib.hid hLl
  have hg := b1.size
  have hWd : w2.alloc (.cells #[.string s2, .string raw] 9) = w2.alloc (.cells (L.map Value.string).toArray 9) := by rw [hLd]; rfl
  rw [hWd]
  clear hLd hLl q1 hL hWd hs2
  generalize w2.alloc (.cells (L.map Value.string).toArray 9) = w3 at *
  go_loopw [9] (fun x wr => ∃ k : Nat, k ≤ 2 ∧ x = .int .i64 k ∧ Rd wr (w2.heap.size + 1) 1 (some ⟨w2.heap.size, 0, none⟩) 2 (L.map Value.string) ∧ Below w.heap.size w wr ∧ w2.heap.size + 1 ≤ wr.heap.size) (fun x _ => 2 - (intOf x).toNat)
  case atStart => exact ⟨0, by omega, rfl, Q1.out, b3, hs3⟩
  case round =>
    obtain ⟨k, hk3, rfl, hrd, hb, hsz⟩ := hrel
    by_cases hlt : k < 2
    · have hkl : k < L.length := by rw [HLl.out]; exact hlt
      have x1 := hrd.ba hlt hkl
      have hp := HL.out _ (List.getElem_mem hkl)
      generalize L[k] = p at *
      have x2 : ¬ 9223372036854775807 < s.size + 1 := by omega
      have x3 : ¬ 9223372036854775807 < s.size + 1 + p.size := by omega
      have hsz1 := line_size s p
      obtain ⟨J, hJ⟩ : ∃ J, J = s ++ ⟨#[10]⟩ ++ p := ⟨_, rfl⟩
      rw [← hJ] at hsz1
      obtain ⟨ts, E, N, hT⟩ : ∃ ts E N, Lx.scanT s.data.toList = (ts, E, N) := ⟨_, _, _, rfl⟩
      obtain ⟨us, F, M, hU⟩ : ∃ us F M, Lx.scanT p.data.toList = (us, F, M) := ⟨_, _, _, rfl⟩
      obtain ⟨vs, G, K, hV⟩ : ∃ vs G K, Lx.scanT J.data.toList = (vs, G, K) := ⟨_, _, _, rfl⟩
      have HT := Lib.hid hT
      have HU := Lib.hid hU
      have HV := Lib.hid hV
      have HJ := Lib.hid hJ
      have cT := scanT_count hT
      have cU := scanT_count hU
      have cV := scanT_count hV
      clear hT hU hV hJ
      go_wp2_with fail
      refine (scan_any s _ (by omega) (tabs_go ht hb)).mono ?_
      rintro e w5 h5
      obtain ⟨A5, c5, rfl, r5, d5, b5⟩ := h5.open_ HT.out
      clear h5
      have x1 := (b5.cell (p := ⟨w2.heap.size, k, none⟩) (by show w2.heap.size < _; omega)).trans x1
      have hrd2 := hrd.below (b5.mono hsz)
      have hsz2 : w2.heap.size + 1 ≤ w5.heap.size := Nat.le_trans hsz b5.size
      have hb := below_go hb b5
      clear b5 hrd hsz
      go_wp2_with fail
      refine (scan_any p _ (by omega) (tabs_go ht hb)).mono ?_
      rintro e w6 h6
      obtain ⟨A6, c6, rfl, r6, d6, b6⟩ := h6.open_ HU.out
      clear h6
      have hrd3 := hrd2.below (b6.mono hsz2)
      have hsz3 : w2.heap.size + 1 ≤ w6.heap.size := Nat.le_trans hsz2 b6.size
      have hb := below_go hb b6
      have r5 := r5.go b6
      clear b6 hrd2 hsz2 x1
      go_wp2_with fail
      rw [← HJ.out]
      refine (scan_any J _ (by omega) (tabs_go ht hb)).mono ?_
      rintro e w7 h7
      obtain ⟨A7, c7, rfl, r7, d7, b7⟩ := h7.open_ HV.out
      clear h7
      have hrd4 := hrd3.below (b7.mono hsz3)
      have hsz4 : w2.heap.size + 1 ≤ w7.heap.size := Nat.le_trans hsz3 b7.size
      have hb := below_go hb b7
      have r5 := r5.go b7
      have r6 := r6.go b7
      clear b7 hrd3 hsz3
      by_cases hc : (N == -1) = true ∧ (M == -1) = true ∧ s.size + 1 + p.size ≤ 8192
      · obtain ⟨hcN, hcM, hcl⟩ := hc
        have HM : Hid (N = -1 ∧ M = -1 ∧ K = -1 ∧ joined' ts E us F = (vs, G)) := Lib.hid (by
          have hN := beq_iff_eq.1 hcN
          have hM := beq_iff_eq.1 hcM
          subst hN hM
          exact ⟨rfl, rfl, join_scanT (by rw [HJ.out]) (by rw [list_size]; omega) HT.out HU.out HV.out⟩)
        obtain ⟨rfl, rfl, rfl, hjn⟩ := HM.out
        have sT := scanT_small HT.out
        have sU := scanT_small HU.out
        rw [list_size] at sT sU
        have ST := Lib.hid sT
        have SU := Lib.hid sU
        clear HM hcN hcM HT HU HV sT sU
        have hlen : vs.length = ts.length + us.length := joined_len hjn
        have htake : vs.take ts.length = ts := joined_take hjn
        have x5 : ((vs.length : Int) == (ts.length : Int) + (us.length : Int)) = true := by rw [hlen]; simp
        have x6 : ts.length ≤ c7 := by omega
        have x7 : decide ((8192 : Int) < (s.size : Int) + 1 + (p.size : Int)) = false := by simp; omega
        have HJN := Lib.hid hjn
        clear hjn
        go_wp2_with fail
        have hvs : vs = ts ++ vs.drop ts.length := by conv => lhs; rw [← List.take_append_drop ts.length vs, htake]
        have qA : Rd w7 w7.heap.size 2 A7 ts.length (tokCells ts) := Rd.pre (r := vs.drop ts.length) (n := vs.length) (by rw [← hvs]; exact r7)
        clear hvs htake
        refine (plain_any A7 ts.length c7 ts _ qA rfl (by omega)).mono ?_
        rintro e w8 h8
        obtain ⟨A8, c8, rfl, r8, -, b8⟩ := h8.open_
        have hrd5 := hrd4.below (b8.mono hsz4)
        have hsz5 : w2.heap.size + 1 ≤ w8.heap.size := Nat.le_trans hsz4 b8.size
        have hb := below_go hb b8
        have r5 := r5.go b8
        have r6 := r6.go b8
        have r7 := r7.go b8
        clear b8 hrd4 hsz4 h8
        go_wp2_with fail
        refine (plain_any A5 ts.length c5 ts _ r5 rfl (by omega)).mono ?_
        rintro e w9 h9
        obtain ⟨A9, c9, rfl, r9, -, b9⟩ := h9.open_
        have hrd6 := hrd5.below (b9.mono hsz5)
        have hsz6 : w2.heap.size + 1 ≤ w9.heap.size := Nat.le_trans hsz5 b9.size
        have hb := below_go hb b9
        have r6 := r6.go b9
        have r7 := r7.go b9
        have r8 := r8.go b9
        clear b9 hrd5 hsz5 h9
        go_wp2_with fail
        refine (same_any A8 A9 _ _ c8 c9 ts ts _ r8 r9 rfl rfl (by omega) true (Lib.hid (by simp))).mono ?_
        rintro e w10 ⟨rfl, b10⟩
        have hrd7 := hrd6.below (b10.mono hsz6)
        have hsz7 : w2.heap.size + 1 ≤ w10.heap.size := Nat.le_trans hsz6 b10.size
        have hb := below_go hb b10
        have r6 := r6.go b10
        have r7 := r7.go b10
        clear b10 hrd6 hsz6 r8 r9
        cases us with
        | nil =>
          have hG : G = E ++ 10 :: F := by have := HJN.out; simp only [joined', Lx.joined, Prod.mk.injEq] at this; exact this.2.symm
          obtain ⟨x, hx⟩ : ∃ x : ByteArray, x = ⟨E.toArray⟩ := ⟨_, rfl⟩
          obtain ⟨y, hy⟩ : ∃ y : ByteArray, y = ⟨F.toArray⟩ := ⟨_, rfl⟩
          have gx : x.size ≤ s.size := by rw [hx, mk_size]; exact ST.out.1
          have gy : y.size ≤ p.size := by rw [hy, mk_size]; exact SU.out.1
          have g1 : ¬ 9223372036854775807 < x.size + 1 := by omega
          have g2 : ¬ 9223372036854775807 < x.size + 1 + y.size := by omega
          have eE : str E = .string x := by rw [hx]
          have eF : str F = .string y := by rw [hy]
          rw [hG, str_line hx hy, eE, eF]
          clear hG hx hy eE eF HJN ST SU
          go_wp2_with fail
          go_roundw
          case rel => exact ⟨k + 1, by omega, by go_num, hrd7, hb, hsz7⟩
          case measure => simp [intOf]; omega
        | cons b bs =>
          obtain ⟨hV', hG⟩ : vs = ts ++ ⟨b.text, E ++ 10 :: b.before⟩ :: bs ∧ G = F := by have := HJN.out; simp only [joined', Lx.joined, Prod.mk.injEq] at this; exact ⟨this.1.symm, this.2.symm⟩
          obtain ⟨x, hx⟩ : ∃ x : ByteArray, x = ⟨E.toArray⟩ := ⟨_, rfl⟩
          obtain ⟨y, hy⟩ : ∃ y : ByteArray, y = ⟨b.before.toArray⟩ := ⟨_, rfl⟩
          have gx : x.size ≤ s.size := by rw [hx, mk_size]; exact ST.out.1
          have gy : y.size ≤ p.size := by rw [hy, mk_size]; exact SU.out.2 b (List.mem_cons_self ..)
          have g1 : ¬ 9223372036854775807 < x.size + 1 := by omega
          have g2 : ¬ 9223372036854775807 < x.size + 1 + y.size := by omega
          have eE : str E = .string x := by rw [hx]
          have eB : str b.before = .string y := by rw [hy]
          rw [List.length_cons] at hlen cU d6 r6
          have q7 : Rd w10 w10.heap.size 2 A7 vs.length (tokCells ((ts ++ [⟨b.text, E ++ 10 :: b.before⟩]) ++ bs)) := by rw [List.append_assoc]; simpa [hV'] using r7
          have q6 : Rd w10 w10.heap.size 2 A6 (bs.length + 1) (tokCells ([b] ++ bs)) := r6
          have l7 : ((ts ++ [⟨b.text, E ++ 10 :: b.before⟩] : List Lx.Tok) ++ bs).length = vs.length := by simp [hV']
          have l6 : ([b] ++ bs).length = bs.length + 1 := rfl
          obtain ⟨g7, o7, hA7, l8, y1, y2⟩ := q7.tok l7 (k := ts.length) (by omega)
          obtain ⟨g6, o6, hA6, l9, y3, y4⟩ := q6.tok l6 (k := 0) (by omega)
          have q7 := Rd.post q7 (cap := c7) (by rw [List.length_append]; simp; omega) d7
          have q6 := Rd.post q6 (cap := c6) (by rw [List.length_singleton]; omega) d6
          subst hA7 hA6
          have z1 : ((ts ++ [⟨b.text, E ++ 10 :: b.before⟩] : List Lx.Tok) ++ bs)[ts.length]'(by rw [l7]; omega) = ⟨b.text, E ++ 10 :: b.before⟩ := by simp
          have z2 : ([b] ++ bs)[0]'(by simp) = b := rfl
          rw [z1] at y1 y2
          rw [z2] at y3 y4
          rw [str_line hx hy] at y2
          rw [eB] at y4
          rw [hG, eE]
          obtain ⟨tx, htx⟩ : ∃ tx : ByteArray, tx = ⟨b.text.toArray⟩ := ⟨_, rfl⟩
          have eT : str b.text = .string tx := by rw [htx]
          rw [eT] at y1 y3
          obtain ⟨fx, hfx⟩ : ∃ fx : ByteArray, fx = ⟨F.toArray⟩ := ⟨_, rfl⟩
          have eF : str F = .string fx := by rw [hfx]
          rw [eF]
          rw [List.length_append, List.length_singleton] at q7
          rw [List.length_singleton] at q6
          obtain ⟨n7, hn7⟩ : ∃ n7, n7 = vs.length := ⟨_, rfl⟩
          obtain ⟨n6, hn6⟩ : ∃ n6, n6 = bs.length + 1 := ⟨_, rfl⟩
          have lb : bs.length = n6 - 1 := by omega
          rw [← hn7] at d7 hlen cV x5
          rw [show ts.length + (b :: bs).length = n7 from by rw [List.length_cons]; exact hlen.symm]
          rw [← hn6] at hlen cU d6
          rw [List.length_cons, ← hn6] at x5 ⊢
          clear r7 r6 hV' hx hy hG z1 z2 htx hfx eE eB eT eF hn7 HJN ST SU l7 l6 qA x5
          have v1 : IntKind.i64.wrap ((ts.length : Int) + 1) = (ts.length : Int) + 1 := IntWalk.i64_in _ (by omega)
          have v2 : (ts.length : Int) < (n7 : Int) := by omega
          have v3 : (0 : Int) < (n6 : Int) := by omega
          have v4 : n6 ≠ 0 := by omega
          have v5 : (ts.length : Int) + 1 ≤ (n7 : Int) := by omega
          have v6 : (1 : Int) ≤ (n6 : Int) := by omega
          have v7 : (0 : Int) ≤ (ts.length : Int) := by omega
          have v8 : (0 : Int) ≤ (ts.length : Int) + 1 := by omega
          have v9 : ((ts.length : Int) + 1).toNat = ts.length + 1 := by omega
          rw [Nat.zero_mul, Nat.add_zero] at y3 y4
          have lb7 : bs.length = n7 - (ts.length + 1) := by omega
          have p7 : Rd w10.drew w10.drew.heap.size 2 (if c7 = ts.length + 1 then some ⟨g7, o7, none⟩ else some ⟨g7, o7 + (ts.length + 1) * 2, none⟩) (n7 - (ts.length + 1)) (tokCells bs) := by rw [← lb7]; exact q7
          have p6 : Rd w10.drew w10.drew.heap.size 2 (if c6 = 1 then some ⟨g6, o6, none⟩ else some ⟨g6, o6 + 2, none⟩) (n6 - 1) (tokCells bs) := by rw [← lb]; exact q6
          obtain ⟨D7, i7⟩ : ∃ D : Option Addr, (if c7 = ts.length + 1 then some ⟨g7, o7, none⟩ else some ⟨g7, o7 + (ts.length + 1) * 2, none⟩) = D := ⟨_, rfl⟩
          obtain ⟨D6, i6⟩ : ∃ D : Option Addr, (if c6 = 1 then some ⟨g6, o6, none⟩ else some ⟨g6, o6 + 2, none⟩) = D := ⟨_, rfl⟩
          rw [i7] at p7
          rw [i6] at p6
          have LB := Lib.hid lb
          have LB7 := Lib.hid lb7
          have P7 := Lib.hid p7
          have P6 := Lib.hid p6
          have u1 : 0 < n6 := by omega
          have u2 : 1 ≤ n6 := by omega
          have u3 : ts.length < n7 := by omega
          have u4 : ts.length + 1 ≤ n7 := by omega
          clear lb lb7 hlen hn6 q7 q6 p7 p6
          generalize ts.length = N1 at *
          go_wp2_with fail
          go_region_held3 (fun W => W.cell? ⟨g7, o7 + N1 * 2, none⟩ = some (.string tx) ∧ W.cell? ⟨g7, o7 + N1 * 2 + 1, none⟩ = some (.string (x ++ ⟨#[10]⟩ ++ y)) ∧ W.cell? ⟨g6, o6, none⟩ = some (.string tx) ∧ W.cell? ⟨g6, o6 + 1, none⟩ = some (.string y))
            (first | exact ⟨j1, j2, j3, j4⟩ | exact ⟨m1, m2, m3, m4⟩ | exact ⟨k1, k2, k3, k4⟩ | exact ⟨y1, y2, y3, y4⟩)
            (first | (go_at_call 13; refine (same_any _ _ _ _ _ _ bs bs _ rA rB LB7.out LB.out (by omega) true (Lib.hid (by simp))).mono ?_; rintro e wC ⟨rfl, bC⟩; have j1 := (bC.cell (p := ⟨g7, o7 + N1 * 2, none⟩) l8B).trans m1; have j2 := (bC.cell (p := ⟨g7, o7 + N1 * 2 + 1, none⟩) l8B).trans m2; have j3 := (bC.cell (p := ⟨g6, o6, none⟩) l9B).trans m3; have j4 := (bC.cell (p := ⟨g6, o6 + 1, none⟩) l9B).trans m4) | (go_at_call 14; have hbA := bA; refine (plain_any _ (n6 - 1) _ bs _ (P6.out.go bA) LB.out (by omega)).mono ?_; rintro e wB hB; obtain ⟨AB, cB, rfl, rB, -, bB⟩ := hB.open_; clear hB; have rA := rA.go bB; have m1 := (bB.cell (p := ⟨g7, o7 + N1 * 2, none⟩) l8A).trans k1; have m2 := (bB.cell (p := ⟨g7, o7 + N1 * 2 + 1, none⟩) l8A).trans k2; have m3 := (bB.cell (p := ⟨g6, o6, none⟩) l9A).trans k3; have m4 := (bB.cell (p := ⟨g6, o6 + 1, none⟩) l9A).trans k4; have l8B : g7 < wB.heap.size := Nat.lt_of_lt_of_le l8A bB.size; have l9B : g6 < wB.heap.size := Nat.lt_of_lt_of_le l9A bB.size) | (go_at_call 14; refine (plain_any _ (n7 - (N1 + 1)) _ bs _ P7.out LB7.out (by omega)).mono ?_; rintro e wA hA; obtain ⟨AA, cA, rfl, rA, -, bA⟩ := hA.open_; clear hA; have k1 := (bA.cell (p := ⟨g7, o7 + N1 * 2, none⟩) l8).trans y1; have k2 := (bA.cell (p := ⟨g7, o7 + N1 * 2 + 1, none⟩) l8).trans y2; have k3 := (bA.cell (p := ⟨g6, o6, none⟩) l9).trans y3; have k4 := (bA.cell (p := ⟨g6, o6 + 1, none⟩) l9).trans y4; have l8A : g7 < wA.heap.size := Nat.lt_of_lt_of_le l8 bA.size; have l9A : g6 < wA.heap.size := Nat.lt_of_lt_of_le l9 bA.size))
          have hszA : w2.heap.size + 1 ≤ wA.heap.size := Nat.le_trans hsz7 bA.size
          have hszB : w2.heap.size + 1 ≤ wB.heap.size := Nat.le_trans hszA bB.size
          have hszC : w2.heap.size + 1 ≤ wC.heap.size := Nat.le_trans hszB bC.size
          have hrdC := ((Rd.below (w := w10.drew) hrd7 (bA.mono hsz7)).below (bB.mono hszA)).below (bC.mono hszB)
          have hbC := below_go (below_go (below_go hb.drew bA) bB) bC
          go_wp2_with fail
          go_roundw
          case rel => exact ⟨k + 1, by omega, by go_num, hrdC, hbC, hszC⟩
          case measure => simp [intOf]; omega
      · have hcc : ¬ N = -1 ∨ (N = -1 ∧ ¬ M = -1) ∨ (N = -1 ∧ M = -1 ∧ 8192 < s.size + 1 + p.size) := by
          by_cases hx : N = -1
          · by_cases hy : M = -1
            · refine .inr (.inr ⟨hx, hy, ?_⟩)
              simp only [hx, hy, beq_self_eq_true, true_and] at hc
              omega
            · exact .inr (.inl ⟨hx, hy⟩)
          · exact .inl hx
        clear hc
        rcases hcc with e1 | ⟨rfl, e2⟩ | ⟨rfl, rfl, e3⟩
        · go_wp2_with fail
          go_roundw
          case rel => exact ⟨k + 1, by omega, by go_num, hrd4, hb, hsz4⟩
          case measure => simp [intOf]; omega
        · go_wp2_with fail
          go_roundw
          case rel => exact ⟨k + 1, by omega, by go_num, hrd4, hb, hsz4⟩
          case measure => simp [intOf]; omega
        · have x4 : decide ((8192 : Int) < (s.size : Int) + 1 + (p.size : Int)) = true := by simp; omega
          go_wp2_with fail
          go_roundw
          case rel => exact ⟨k + 1, by omega, by go_num, hrd4, hb, hsz4⟩
          case measure => simp [intOf]; omega
    · go_wp2_with fail
      refine (lives_any _ (tabs_go ht hb) (kw_go hkw hb)).mono ?_
      rintro e w5 ⟨rfl, b5⟩
      go_wp2_with fail
      go_ret
      exact ⟨rfl, below_go hb b5⟩
end Go.Proofs.YtjjdfccbkohlcaaDoor
