/- The reference's Clauses. -/
import Derived.Test.YtflfachkoffiiaaTable
import Derived.Deep.RegionLaw
namespace Go.Proofs.Ytflfachkoffiiaa
open Go.RowKit Go.Lib

/-- the atoms a .. f -/
def atomN (j : Nat) : Bs := [UInt8.ofNat (97 + j)]
/-- a natural number out of a list -/
def atN (zs : List Int) (i : Nat) (most : Nat) : Nat := (atI zs i most).toNat
theorem atN_eq (zs : List Int) (i most : Nat) (h : 0 < most) : atI zs i most = (atN zs i most : Int) ∧ atN zs i most < most := by
  have : 0 ≤ atI zs i most ∧ atI zs i most < most := by
    unfold atI
    split
    · exact ⟨Int.le_refl _, by omega⟩
    · exact around_range _ (by omega)
  unfold atN
  omega
def condN (x : Nat) : Bs := if x % 5 > 0 then atomN (x % 6) ++ [62] ++ atomN (x / 6 % 6) else atomN (x % 6)
def mustN (zs : List Int) (i : Nat) : List Bs := (List.range (atN zs (1 + i) 4)).map (fun k => condN (atN zs (9 + 3 * i + k) 180))
def notsN (zs : List Int) (i : Nat) : List Bs := if atN zs (40 + i) 24 % 2 = 0 then [atomN (atN zs (40 + i) 24 / 2 % 6)] else []
theorem atomN_atom {j : Nat} (h : j < 6) : atomB (atomN j) = true := by
  match j, h with
  | 0, _ => decide
  | 1, _ => decide
  | 2, _ => decide
  | 3, _ => decide
  | 4, _ => decide
  | 5, _ => decide
theorem rule_cond : ∀ a b : Fin 6, condB (atomN a ++ [62] ++ atomN b) = true := by decide
theorem condN_cond (x : Nat) : condB (condN x) = true := by
  unfold condN
  split
  · exact rule_cond ⟨x % 6, Nat.mod_lt _ (by decide)⟩ ⟨x / 6 % 6, Nat.mod_lt _ (by decide)⟩
  · have := atomN_atom (Nat.mod_lt x (by decide : 0 < 6))
    unfold condB
    rw [this]; rfl
/-- what a made clause says -/
structure Made (zs : List Int) (i : Nat) (c : ClV) : Prop where
  name : c.name = atomN (i % 6)
  must : c.must = mustN zs i
  nots : c.nots = notsN zs i
theorem made_ok {zs : List Int} {i : Nat} {c : ClV} (h : Made zs i c) : badC c = false := by
  unfold badC
  rw [h.name, h.must, h.nots]
  have h1 : (mustN zs i).length ≤ 8 := by
    have := (atN_eq zs (1 + i) 4 (by decide)).2
    simp [mustN]; omega
  have h2 : (notsN zs i).length ≤ 8 := by unfold notsN; split <;> simp
  have h3 : (mustN zs i).any (fun s => !condB s) = false := by
    rw [List.any_eq_false]
    intro s hs
    obtain ⟨k, _, rfl⟩ := List.mem_map.1 hs
    rw [condN_cond]; simp
  have h4 : (notsN zs i).any (fun s => !atomB s) = false := by
    rw [List.any_eq_false]
    intro s hs
    unfold notsN at hs
    split at hs
    · rw [List.mem_singleton.1 hs, atomN_atom (Nat.mod_lt _ (by decide))]; simp
    · cases hs
  rw [h3, h4, decide_eq_false (by simp [atomN]), decide_eq_false (by omega), decide_eq_false (by omega)]; rfl

/-- the row of the atoms -/
def atomRow : Array Value := #[.string ⟨#[97]⟩, .string ⟨#[98]⟩, .string ⟨#[99]⟩, .string ⟨#[100]⟩, .string ⟨#[101]⟩, .string ⟨#[102]⟩]
theorem atomRow_get {j : Nat} (h : j < 6) : atomRow[j]? = some (str (atomN j)) := by
  match j, h with
  | 0, _ => rfl
  | 1, _ => rfl
  | 2, _ => rfl
  | 3, _ => rfl
  | 4, _ => rfl
  | 5, _ => rfl
/-- the clauses so far: their own rows, apart from the list's row v -/
structure Grown (w : World) (base : Nat) (zs : List Int) (v : Value) (n : Nat) (cs : List ClV) : Prop where
  row : w.ownsRow base 36 3 v n (clsCells cs)
  len : cs.length = n
  made : ∀ i c, cs[i]? = some c → Made zs i c
  musts : ∀ c ∈ cs, QAt w base (.slice c.A1 c.n1 c.c1) (strCells c.must) ∧ QAt w base (.slice c.A2 c.n2 c.c2) (strCells c.nots)
  apart : ∀ c ∈ cs, ((Value.slice c.A1 c.n1 c.c1).ownBlock = none ∨ (Value.slice c.A1 c.n1 c.c1).ownBlock ≠ v.ownBlock) ∧ ((Value.slice c.A2 c.n2 c.c2).ownBlock = none ∨ (Value.slice c.A2 c.n2 c.c2).ownBlock ≠ v.ownBlock)
theorem Grown.nil (w : World) (base : Nat) (zs : List Int) : Grown w base zs (.slice none 0 0) 0 [] := by
  refine ⟨World.ownsRow_nil _ _ _ _, rfl, fun i c h => ?_, fun c hc => ?_, fun c hc => ?_⟩
  · simp at h
  · cases hc
  · cases hc
theorem Grown.below {w w' : World} {base n : Nat} {zs : List Int} {v : Value} {cs : List ClV} (h : Grown w base zs v n cs) (hb : Below w.heap.size w w') : Grown w' base zs v n cs :=
  ⟨own_below h.row hb, h.len, h.made, fun c hc => ⟨(h.musts c hc).1.below hb (Nat.le_refl _), (h.musts c hc).2.below hb (Nat.le_refl _)⟩, h.apart⟩
theorem q_lens {w : World} {base n c : Nat} {A : Option Addr} {ss : List Bs} (h : QAt w base (.slice A n c) (strCells ss)) : ss.length = n ∧ Rd w w.heap.size 1 A n (strCells ss) := by
  obtain ⟨A', c', e, _, hr⟩ := h.rd
  injection e with e1 e2 e3
  subst e1
  have hl : (strCells ss).length = ss.length := by rw [strCells, List.length_map]
  rw [hl] at e2 hr
  subst e2
  exact ⟨rfl, hr⟩
/-- clauses that come back: valid, at most eight -/
def GenPost (w : World) : Ending → World → Prop := fun e w' => ∃ A n c cs, e = .returned (.slice A n c) ∧ n ≤ 8 ∧ n ≤ c ∧ Cls w' w'.heap.size A n cs ∧ validB cs = true ∧ Below w.heap.size w w'
theorem atom_len (j : Nat) : (atomN j).length = 1 := rfl
theorem cond_len (x : Nat) : (condN x).length ≤ 3 := by unfold condN; split <;> simp [atomN]
theorem Grown.done {w w' : World} {base n : Nat} {zs : List Int} {v : Value} {cs : List ClV} (h : Grown w' base zs v n cs) (hn : n ≤ 8) (hb : Below w.heap.size w w') : GenPost w (.returned v) w' := by
  obtain ⟨A, c, rfl, hc⟩ := own_slice h.row
  have hmade : ∀ x ∈ cs, ∃ i, Made zs i x := fun x hx => by
    obtain ⟨i, hi, rfl⟩ := List.getElem_of_mem hx
    exact ⟨i, h.made i _ (List.getElem?_eq_getElem hi)⟩
  refine ⟨A, n, c, cs, rfl, hn, hc, ⟨Rd.of_own h.row, h.len, fun x hx => ?_⟩, ?_, hb⟩
  · obtain ⟨i, hm⟩ := hmade x hx
    obtain ⟨q1, q2⟩ := h.musts x hx
    obtain ⟨l1, r1⟩ := q_lens q1
    obtain ⟨l2, r2⟩ := q_lens q2
    have m1 : x.must.length ≤ 8 := by rw [hm.must]; have := (atN_eq zs (1 + i) 4 (by decide)).2; simp [mustN]; omega
    have m2 : x.nots.length ≤ 8 := by rw [hm.nots]; unfold notsN; split <;> simp
    refine ⟨by rw [hm.name, atom_len]; omega, by omega, by omega, r1, r2, fun b hb' => ?_, fun b hb' => ?_⟩
    · rw [hm.must] at hb'
      obtain ⟨k, _, rfl⟩ := List.mem_map.1 hb'
      have := cond_len (atN zs (9 + 3 * i + k) 180); omega
    · rw [hm.nots] at hb'
      unfold notsN at hb'
      split at hb'
      · rw [List.mem_singleton.1 hb', atom_len]; omega
      · cases hb'
  · unfold validB
    rw [decide_eq_true (by rw [h.len]; omega), List.any_eq_false.2 (fun x hx => by obtain ⟨i, hm⟩ := hmade x hx; rw [made_ok hm]; simp)]; rfl

theorem tmod_nat (a b : Nat) : ((a : Int).tmod (b : Int)) = ((a % b : Nat) : Int) := by rw [Int.tmod_eq_emod_of_nonneg (Int.natCast_nonneg _), ← Int.natCast_emod]
theorem tdiv_nat (a b : Nat) : ((a : Int).tdiv (b : Int)) = ((a / b : Nat) : Int) := by rw [Int.tdiv_eq_ediv_of_nonneg (Int.natCast_nonneg _), ← Int.natCast_ediv]
theorem mustN_step {zs : List Int} {i k : Nat} (h : k < atN zs (1 + i) 4) : (mustN zs i).take (k + 1) = (mustN zs i).take k ++ [condN (atN zs (9 + 3 * i + k) 180)] := by
  rw [List.take_succ_eq_append_getElem (by simpa [mustN] using h)]
  congr 2
  simp [mustN]

theorem Blk.grown_ {w w' : World} {g : Nat} {t : TypeId} {cs : Array Value} {row : Option Nat} (h : Blk w g t cs) (hg : w.grownBy w' row) (hr : some g ≠ row) : Blk w' g t cs := (hg.block g h.lt hr).trans h

theorem QAt.set {w : World} {base : Nat} {v : Value} {xs : List Value} (h : QAt w base v xs) {p : Addr} (hp : p.block < base) (u : Value) : QAt (w.setCell p u) base v xs :=
  h.kept (row := some p.block) ⟨rfl, rfl, rfl, by simp [World.setCell], fun k _ hne => Below.heap_setCell _ _ _ _ (fun e => hne (by rw [e]))⟩ (by
    cases hv : v.ownBlock with
    | none => exact .inl rfl
    | some g => refine .inr (fun e => ?_); have := (h.lt hv).1; injection e with e; omega)

theorem info36 : (Try.prog.info? 36).map (fun i => (i.zero, i.size, i.bytes)) = some (some (.agg #[.string ⟨#[]⟩, .slice none 0 0, .slice none 0 0]), 3, 64) := by kernel_rfl
theorem Grown.more {w w2 : World} {base n gc : Nat} {zs : List Int} {v v' : Value} {cs : List ClV} {c : ClV} (h : Grown w base zs v n cs) (hbase : base ≤ gc + 1) (hv : ∀ k, v.ownBlock = some k → k < gc) (hm : Made zs n c)
    (q1 : QAt w (gc + 1) (.slice c.A1 c.n1 c.c1) (strCells c.must)) (q2 : QAt w (gc + 1) (.slice c.A2 c.n2 c.c2) (strCells c.nots)) (hrow : w2.ownsRow base 36 3 v' (n + 1) (clsCells cs ++ clCells c)) (hg : w.grownBy w2 v.ownBlock)
    (hl : v'.ownBlock = v.ownBlock ∨ v'.ownBlock = some w.heap.size) : Grown w2 base zs v' (n + 1) (cs ++ [c]) := by
  have hq : ∀ x ∈ cs ++ [c], (QAt w base (.slice x.A1 x.n1 x.c1) (strCells x.must) ∧ QAt w base (.slice x.A2 x.n2 x.c2) (strCells x.nots)) ∧
      ((Value.slice x.A1 x.n1 x.c1).ownBlock = none ∨ (Value.slice x.A1 x.n1 x.c1).ownBlock ≠ v.ownBlock) ∧ ((Value.slice x.A2 x.n2 x.c2).ownBlock = none ∨ (Value.slice x.A2 x.n2 x.c2).ownBlock ≠ v.ownBlock) := by
    intro x hx
    rcases List.mem_append.1 hx with hx | hx
    · exact ⟨h.musts x hx, h.apart x hx⟩
    · rw [List.mem_singleton.1 hx]
      have ap : ∀ {u : Value} {xs : List Value}, QAt w (gc + 1) u xs → u.ownBlock = none ∨ u.ownBlock ≠ v.ownBlock := fun {u xs} hu => by
        cases ho : u.ownBlock with
        | none => exact .inl rfl
        | some k => refine .inr (fun e => ?_); have := (hu.lt ho).1; have := hv k e.symm; omega
      exact ⟨⟨q1.base_le hbase, q2.base_le hbase⟩, ap q1, ap q2⟩
  have ap2 : ∀ {u : Value} {xs : List Value}, QAt w base u xs → (u.ownBlock = none ∨ u.ownBlock ≠ v.ownBlock) → u.ownBlock = none ∨ u.ownBlock ≠ v'.ownBlock := fun {u xs} hu ha => by
    rcases hl with hl | hl
    · rw [hl]; exact ha
    · cases ho : u.ownBlock with
      | none => exact .inl rfl
      | some k => refine .inr (fun e => ?_); have := (hu.lt ho).2; rw [hl] at e; injection e with e; omega
  refine ⟨by rw [show clsCells (cs ++ [c]) = clsCells cs ++ clCells c by simp [clsCells]]; exact hrow, by rw [List.length_append, h.len]; rfl, fun i x hx => ?_, fun x hx => ?_, fun x hx => ?_⟩
  · by_cases hi : i < cs.length
    · rw [List.getElem?_append_left hi] at hx; exact h.made i x hx
    · rw [List.getElem?_append_right (by omega)] at hx
      have e0 : i - cs.length = 0 := by have := (List.getElem?_eq_some_iff.1 hx).1; simp at this; omega
      rw [e0] at hx
      obtain rfl : c = x := by simpa using hx
      rw [show i = n by have := h.len; omega]; exact hm
  · exact ⟨(hq x hx).1.1.kept hg (hq x hx).2.1, (hq x hx).1.2.kept hg (hq x hx).2.2⟩
  · exact ⟨ap2 (hq x hx).1.1 (hq x hx).2.1, ap2 (hq x hx).1.2 (hq x hx).2.2⟩

theorem step_append_q (w : World) {ops : Array Oper} {o : Oper} {a : Act} {K : Act → World → Prop} {Q : Exit → Act → World → Prop} {E : Prop} (hgd : o.guard = none) (s x : Operand)
    (ho : o.op = .call { callee := .builtin .append, args := #[s, x], argTypes := #[34, 34] }) (hty : o.type = 34)
    (base : Nat) (v : Value) (xs : List Value) (hs : a.eval s = v) (hq : QAt w base v xs) (hbase : base ≤ w.heap.size)
    (xv : Value) (n : Nat) (news : List Value) (hx : a.eval x = xv) (hsrc : Src Try.prog 1 34 xv n news w) (hn : xs.length + n ≤ 1000000)
    (h : ∀ v' w', QAt w' base v' (xs ++ news) → w.grownBy w' v.ownBlock → (v'.ownBlock = v.ownBlock ∨ v'.ownBlock = some w.heap.size) → K (a.put o.dst v') w') :
    if Region.wanted o (yielded ops a.tmps) = true then Oper.wp Try.prog o a w K Q else E := by
  have hw : Region.wanted o (yielded ops a.tmps) = true := by simp [Region.wanted, hgd]
  rw [if_pos hw]
  obtain ⟨v', w', hr, h2, h3, h4⟩ := run_append_q w base v xs hq hbase xv n news hsrc hn
  unfold Oper.wp execOp
  simp only [ho, hty, resolve, invoke, builtin, Sem.run_bind, Sem.run_pure, Result.andThen_ok, List.map_toArray, List.map_cons, List.map_nil, hs, hx, hr]
  exact h v' w' h2 h3 h4

theorem i64_small {n : Nat} (h : n < 24) : IntKind.i64.wrap (n : Int) = (n : Int) := IntWalk.i64_in _ (by omega)
theorem src_cellS {w : World} {g : Nat} {s : ByteArray} (h : w.cell? ⟨g, 0, none⟩ = some (.string s)) : Src Try.prog 1 34 (.slice (some ⟨g, 0, none⟩) 1 1) 1 [.string s] w :=
  Src.ofSlice _ Try.underlying34 _ 1 1 [.string s] rfl (fun j u hu => by
    match j, hu with
    | 0, hu => simp at hu; subst hu; rw [Addr.add_lit]; exact h
    | j + 1, hu => simp at hu) (by intro u hu; simp at hu; subst hu; rfl)

set_option maxHeartbeats 8000000 in
set_option maxRecDepth 100000 in
theorem clauses_any (A : Option Addr) (n c : Nat) (zs : List Int) (w : World) (h : Rd w w.heap.size 1 A n (intCells zs)) (hf : Fits zs) (hn : n ≤ 9223372036854775807) : Calls Try.prog 9 #[.slice A n c] w (GenPost w) := by
  have H := Lib.hid h
  have HF := Lib.hid hf
  clear h hf
  obtain ⟨m, hm⟩ : ∃ m, m = atN zs 0 9 := ⟨_, rfl⟩
  have HM := Lib.hid (show atI zs 0 9 = (m : Int) from by rw [hm]; exact (atN_eq zs 0 9 (by decide)).1)
  have hm9 : m < 9 := by rw [hm]; exact (atN_eq zs 0 9 (by decide)).2
  clear hm
  go_enter Try.func9, Try.ntmps9
  go_wp2_with fail
  have hb0 := below_new w (.cells atomRow 9)
  have HA := Lib.hid (Blk.new w 9 atomRow)
  have HB := Lib.hid hb0
  obtain ⟨wa, hwa⟩ : ∃ wa, wa = w.alloc (.cells atomRow 9) := ⟨_, rfl⟩
  have hsa : wa.heap.size = w.heap.size + 1 := by rw [hwa]; simp
  rw [← hwa] at HA HB
  have HSa := Lib.hid hsa
  refine (at_any A n c zs 0 9 _ (H.out.go hb0) HF.out hn (by decide) (by decide) m HM).mono ?_
  rw [← hwa]
  rintro e w' ⟨rfl, rfl⟩
  clear hb0 hwa hsa HM
  go_wp2_with fail
  go_loopw [4, 6] (fun v x wr => ∃ (i : Nat) (cs : List ClV), i ≤ m ∧ x = .int .i64 i ∧ Hid (Grown wr (w.heap.size + 1) zs v i cs) ∧ Hid (Blk wr w.heap.size 9 atomRow) ∧ Hid (Below w.heap.size w wr)) (fun _ x _ => m - (intOf x).toNat)
  case atStart => exact ⟨0, [], Nat.zero_le _, rfl, Lib.hid (Grown.nil _ _ _), HA, HB⟩
  case round =>
    obtain ⟨i, cs, hi, rfl, G, HAr, B⟩ := hrel
    by_cases hlt : i < m
    · have j1 : (i : Int) < (m : Int) := by omega
      have j0 : (0 : Int) ≤ (i : Int) := by omega
      have hmod : (i : Int).tmod 6 = ((i % 6 : Nat) : Int) := by rw [Int.tmod_eq_emod_of_nonneg (by omega)]; omega
      have y0 := (HAr.out.cell (i % 6)).trans (atomRow_get (Nat.mod_lt i (by decide)))
      obtain ⟨nm, hnm⟩ : ∃ nm : ByteArray, nm = ⟨(atomN (i % 6)).toArray⟩ := ⟨_, rfl⟩
      rw [show str (atomN (i % 6)) = .string nm by rw [hnm]] at y0
      have h6 : i % 6 < 6 := Nat.mod_lt i (by decide)
      obtain ⟨i6, hi6⟩ : ∃ i6, i6 = i % 6 := ⟨_, rfl⟩
      have HI6 := Lib.hid (congrArg atomN hi6)
      have HNm := Lib.hid hnm
      clear hnm
      rw [← hi6] at hmod y0 h6 HNm
      clear hi6
      go_wp2_with fail
      have HBc := Lib.hid (Blk.new wr 36 #[.string nm, .slice none 0 0, .slice none 0 0])
      have HBel := Lib.hid (below_new wr (.cells #[.string nm, .slice none 0 0, .slice none 0 0] 36))
      obtain ⟨nk, hnk⟩ : ∃ nk, nk = atN zs (1 + i) 4 := ⟨_, rfl⟩
      have HK := Lib.hid (show atI zs (1 + (i : Int)) 4 = (nk : Int) from by rw [hnk]; have := (atN_eq zs (1 + i) 4 (by decide)).1; simpa using this)
      have hnk4 : nk < 4 := by rw [hnk]; exact (atN_eq zs (1 + i) 4 (by decide)).2
      have HKN := Lib.hid hnk
      have hgs := B.out.size
      clear hnk y0
      obtain ⟨wo, rfl⟩ : ∃ wo, wo = wr := ⟨_, rfl⟩
      obtain ⟨gc, hgc⟩ : ∃ gc, gc = wo.heap.size := ⟨_, rfl⟩
      have HGC := Lib.hid hgc
      rw [← hgc] at HBc HBel hgs ⊢
      clear hgc
      go_loopw [8] (fun x wq => ∃ (k : Nat) (A1 : Option Addr) (m1 k1 : Nat), k ≤ nk ∧ x = .int .i64 k ∧ Hid (Blk wq gc 36 #[.string nm, .slice A1 m1 k1, .slice none 0 0]) ∧ Hid (QAt wq (gc + 1) (.slice A1 m1 k1) (strCells ((mustN zs i).take k))) ∧ Hid (Below gc wo wq)) (fun x _ => nk - (intOf x).toNat)
      case atStart => exact ⟨0, none, 0, 0, Nat.zero_le _, rfl, HBc, Lib.hid (QAt.nil _ _), HBel⟩
      case round =>
        obtain ⟨k, A1, m1, k1, hk, rfl, HBk, Q, B1⟩ := hrel
        have HW := Lib.hid (B.out.trans (B1.out.mono hgs))
        by_cases hkl : k < nk
        · have i1 : (k : Int) < (nk : Int) := by omega
          obtain ⟨X, hX⟩ : ∃ X, X = atN zs (9 + 3 * i + k) 180 := ⟨_, rfl⟩
          have HX := Lib.hid (show atI zs (9 + 3 * (i : Int) + (k : Int)) 180 = (X : Int) from by rw [hX]; have := (atN_eq zs (9 + 3 * i + k) 180 (by decide)).1; simpa using this)
          have hX9 : X < 180 := by rw [hX]; exact (atN_eq zs (9 + 3 * i + k) 180 (by decide)).2
          have HST := Lib.hid (mustN_step (zs := zs) (i := i) (k := k) (by rw [← HKN.out]; exact hkl))
          rw [← hX] at HST
          clear hX
          go_wp2_with fail
          refine (at_any A n c zs (1 + (i : Int)) 4 wr (H.out.go HW.out) HF.out hn (by decide) (by decide) nk HK).mono ?_
          rintro e w1 ⟨rfl, rfl⟩
          go_wp2_with fail
          refine (at_any A n c zs (9 + 3 * (i : Int) + (k : Int)) 180 wr (H.out.go HW.out) HF.out hn (by decide) (by decide) X HX).mono ?_
          rintro e w1 ⟨rfl, rfl⟩
          have hgl := HBk.out.lt
          have hd9 : X / 6 < 180 := by omega
          have cm : wr.cell? ⟨gc, 1, none⟩ = some (.slice A1 m1 k1) := HBk.out.cell 1
          have hm6 : (X : Int).tmod 6 = ((X % 6 : Nat) : Int) := tmod_nat X 6
          have hm5 : (X : Int).tmod 5 = ((X % 5 : Nat) : Int) := tmod_nat X 5
          have hd6 : (X : Int).tdiv 6 = ((X / 6 : Nat) : Int) := tdiv_nat X 6
          have hm66 : ((X / 6 : Nat) : Int).tmod 6 = ((X / 6 % 6 : Nat) : Int) := tmod_nat (X / 6) 6
          have hAr2 := HAr.out.below B1.out (by rw [HGC.out]; exact HAr.out.lt)
          have y0 := (hAr2.cell (X % 6)).trans (atomRow_get (Nat.mod_lt X (by decide)))
          have y1 := (hAr2.cell (X / 6 % 6)).trans (atomRow_get (Nat.mod_lt (X / 6) (by decide)))
          have HAr2 := Lib.hid hAr2
          obtain ⟨s1, hs1⟩ : ∃ s : ByteArray, s = ⟨(atomN (X % 6)).toArray⟩ := ⟨_, rfl⟩
          obtain ⟨s2, hs2⟩ : ∃ s : ByteArray, s = ⟨(atomN (X / 6 % 6)).toArray⟩ := ⟨_, rfl⟩
          rw [show str (atomN (X % 6)) = .string s1 by rw [hs1]] at y0
          rw [show str (atomN (X / 6 % 6)) = .string s2 by rw [hs2]] at y1
          have p6 : X % 6 < 6 := Nat.mod_lt X (by decide)
          have q6 : X / 6 % 6 < 6 := Nat.mod_lt (X / 6) (by decide)
          have hol : (strCells ((mustN zs i).take k)).length + 1 ≤ 1000000 := by
            rw [strCells, List.length_map, List.length_take]; omega
          have z1 : s1.size = 1 := by rw [hs1, mk_size]; rfl
          have z2 : s2.size = 1 := by rw [hs2, mk_size]; rfl
          by_cases h5 : X % 5 > 0
          · have HSrc := Lib.hid (show ∀ W : World, Src Try.prog 1 34 (.slice (some ⟨W.heap.size, 0, none⟩) 1 1) 1 [str (condN X)] (W.alloc (.cells #[.string (s1 ++ ⟨#[62]⟩ ++ s2)] 9)) from fun W => by
              have e : Value.string (s1 ++ ⟨#[62]⟩ ++ s2) = str (condN X) := str_of (by rw [condN, if_pos h5, hs1, hs2]; simp)
              rw [e]; exact src_one W (condN X) 9)
            generalize X % 6 = a6 at *
            generalize hx5 : X % 5 = a5 at *
            generalize X / 6 % 6 = b6 at *
            generalize X / 6 = d6 at *
            have h5' : (0 : Int) < (a5 : Int) := by omega
            clear hs1 hs2 hAr2 hx5
            go_wp2_with (at_builtin; refine wpList_append_q _ rfl _ _ rfl rfl (gc + 1) _ _ rfl (Q.out.alloc _) (Nat.le_trans hgl (by simp)) _ 1 _ rfl (HSrc.out wr) hol ?_)
            intro v' w3 hq hgr hloc
            have hbk3 := (HBk.out.below (below_new wr _) HBk.out.lt).grown_ hgr (fun e => by have := (Q.out.lt e.symm).1; omega)
            have HB3 := Lib.hid ((B1.out.alloc (Nat.le_of_lt hgl) _).grown hgr (Nat.le_trans (Nat.le_of_lt hgl) (by simp)) (fun g hg => Nat.le_of_succ_le (Q.out.lt hg).1))
            rw [← strCells_snoc] at hq
            obtain ⟨A', k', rfl, _, _⟩ := hq.rd
            obtain ⟨ml, hml⟩ : ∃ ml, ml = (strCells ((mustN zs i).take k ++ [condN X])).length := ⟨_, rfl⟩
            rw [← hml] at hq ⊢
            have c1 := hbk3.cell 1
            have f1 := hbk3.frozen 1
            have HN := Lib.hid (hbk3.set_ 1 (.slice A' ml k'))
            have HQ := Lib.hid (hq.set (p := ⟨gc, 1, none⟩) (Nat.lt_succ_self gc) (.slice A' ml k'))
            have HB4 := Lib.hid (HB3.out.setCell (p := ⟨gc, 1, none⟩) (Nat.le_refl gc) (.slice A' ml k'))
            clear hgr hloc hml hq hbk3
            go_wp2_with fail
            go_roundw
            case rel => exact ⟨k + 1, A', ml, k', by omega, by go_num, HN, Lib.hid (by rw [HST.out]; exact HQ.out), HB4⟩
            case measure => simp [intOf]; omega
          · have HSrc := Lib.hid (show ∀ W : World, Src Try.prog 1 34 (.slice (some ⟨W.heap.size, 0, none⟩) 1 1) 1 [str (condN X)] (W.alloc (.cells #[.string s1] 9)) from fun W => by
              have e : Value.string s1 = str (condN X) := str_of (by rw [condN, if_neg h5, hs1])
              rw [e]; exact src_one W (condN X) 9)
            generalize X % 6 = a6 at *
            generalize hx5 : X % 5 = a5 at *
            generalize X / 6 % 6 = b6 at *
            generalize X / 6 = d6 at *
            have h5' : ¬ (0 : Int) < (a5 : Int) := by omega
            clear hs1 hs2 hAr2 hx5
            go_wp2_with (at_builtin; refine wpList_append_q _ rfl _ _ rfl rfl (gc + 1) _ _ rfl (Q.out.alloc _) (Nat.le_trans hgl (by simp)) _ 1 _ rfl (HSrc.out wr) hol ?_)
            intro v' w3 hq hgr hloc
            have hbk3 := (HBk.out.below (below_new wr _) HBk.out.lt).grown_ hgr (fun e => by have := (Q.out.lt e.symm).1; omega)
            have HB3 := Lib.hid ((B1.out.alloc (Nat.le_of_lt hgl) _).grown hgr (Nat.le_trans (Nat.le_of_lt hgl) (by simp)) (fun g hg => Nat.le_of_succ_le (Q.out.lt hg).1))
            rw [← strCells_snoc] at hq
            obtain ⟨A', k', rfl, _, _⟩ := hq.rd
            obtain ⟨ml, hml⟩ : ∃ ml, ml = (strCells ((mustN zs i).take k ++ [condN X])).length := ⟨_, rfl⟩
            rw [← hml] at hq ⊢
            have c1 := hbk3.cell 1
            have f1 := hbk3.frozen 1
            have HN := Lib.hid (hbk3.set_ 1 (.slice A' ml k'))
            have HQ := Lib.hid (hq.set (p := ⟨gc, 1, none⟩) (Nat.lt_succ_self gc) (.slice A' ml k'))
            have HB4 := Lib.hid (HB3.out.setCell (p := ⟨gc, 1, none⟩) (Nat.le_refl gc) (.slice A' ml k'))
            clear hgr hloc hml hq hbk3
            go_wp2_with fail
            go_roundw
            case rel => exact ⟨k + 1, A', ml, k', by omega, by go_num, HN, Lib.hid (by rw [HST.out]; exact HQ.out), HB4⟩
            case measure => simp [intOf]; omega
        · obtain rfl : k = nk := by omega
          obtain ⟨Y, hY⟩ : ∃ Y, Y = atN zs (40 + i) 24 := ⟨_, rfl⟩
          have HY := Lib.hid (show atI zs (40 + (i : Int)) 24 = (Y : Int) from by rw [hY]; have := (atN_eq zs (40 + i) 24 (by decide)).1; simpa using this)
          have hY9 : Y < 24 := by rw [hY]; exact (atN_eq zs (40 + i) 24 (by decide)).2
          have HYN := Lib.hid hY
          have HW2 := Lib.hid (show Below wo.heap.size wo wr by rw [← HGC.out]; exact B1.out)
          have Q2 := Lib.hid (show QAt wr (gc + 1) (.slice A1 m1 k1) (strCells (mustN zs i)) by have := Q.out; rwa [List.take_of_length_le (by simp [mustN]; have := HKN.out; omega)] at this)
          clear hY Q
          have hgl := HBk.out.lt
          have hm2 : (Y : Int).tmod 2 = ((Y % 2 : Nat) : Int) := tmod_nat Y 2
          have hd2 : (Y : Int).tdiv 2 = ((Y / 2 : Nat) : Int) := tdiv_nat Y 2
          have hd9 : Y / 2 < 24 := by omega
          have hm66 : ((Y / 2 : Nat) : Int).tmod 6 = ((Y / 2 % 6 : Nat) : Int) := tmod_nat (Y / 2) 6
          have hAr2 := HAr.out.below B1.out (by rw [HGC.out]; exact HAr.out.lt)
          have y0 := (hAr2.cell (Y / 2 % 6)).trans (atomRow_get (Nat.mod_lt (Y / 2) (by decide)))
          have q6 : Y / 2 % 6 < 6 := Nat.mod_lt (Y / 2) (by decide)
          have HAr2 := Lib.hid hAr2
          clear hAr2
          go_wp2_with fail
          refine (at_any A n c zs (1 + (i : Int)) 4 wr (H.out.go HW.out) HF.out hn (by decide) (by decide) k HK).mono ?_
          rintro e w1 ⟨rfl, rfl⟩
          go_wp2_with fail
          refine (at_any A n c zs (40 + (i : Int)) 24 wr (H.out.go HW.out) HF.out hn (by decide) (by decide) Y HY).mono ?_
          rintro e w1 ⟨rfl, rfl⟩
          by_cases h2 : Y % 2 = 0
          · have HNo := Lib.hid (show notsN zs i = [atomN (Y / 2 % 6)] by rw [notsN, ← HYN.out, if_pos h2])
            have hb2 : (((Y % 2 : Nat) : Int) == 0) = true := beq_iff_eq.2 (by omega)
            obtain ⟨b6, hb6⟩ : ∃ b6, b6 = Y / 2 % 6 := ⟨_, rfl⟩
            have hb60 : (0 : Int) ≤ (b6 : Int) := Int.natCast_nonneg _
            have hb66 : (b6 : Int) < 6 := Int.ofNat_lt.2 (by rw [hb6]; exact q6)
            rw [← hb6] at y0 q6 hm66 HNo
            clear hb6
            obtain ⟨yd, hyd⟩ : ∃ yd, yd = Y / 2 := ⟨_, rfl⟩
            have hwr : wrap64 (yd : Int) = (yd : Int) := IntWalk.wrap64_in _ ⟨Int.le_trans (by decide) (Int.natCast_nonneg _), Int.le_trans (Int.ofNat_le.2 (show yd ≤ 24 from by rw [hyd]; exact Nat.le_of_lt hd9)) (by decide)⟩
            have hwr2 : IntKind.i64.wrap (yd : Int) = (yd : Int) := i64_small (by rw [hyd]; exact hd9)
            rw [← hyd] at hm66 hd2 hd9
            clear hyd
            obtain ⟨s1, hs1⟩ : ∃ s : ByteArray, s = ⟨(atomN b6).toArray⟩ := ⟨_, rfl⟩
            rw [show str (atomN b6) = .string s1 by rw [hs1]] at y0
            have HS1 := Lib.hid hs1
            clear hs1
            have c0 := HBk.out.cell 0
            have c1 := HBk.out.cell 1
            have c2 := HBk.out.cell 2
            have HBkA := Lib.hid (HBk.out.below (below_new wr (.cells #[.string s1] 9)) hgl)
            have HCS : (wr.alloc (.cells #[.string s1] 9)).cell? ⟨wr.heap.size, 0, none⟩ = some (.string s1) := by rw [World.cell?_alloc_at _ _ _ _ rfl]; rfl
            have HCS2 := Lib.hid HCS
            clear HCS
            have hgl2 : gc + 1 ≤ (wr.alloc (.cells #[.string s1] 9)).heap.size := Nat.le_trans hgl (by simp)
            have HGL := Lib.hid hgl2
            clear hgl2
            go_wp2_with fail
            go_region_law (first
              | (refine step_append_q _ (by rfl) _ _ (by rfl) (by rfl) (gc + 1) (.slice none 0 0) [] (by rfl) (QAt.nil _ _) HGL.out (.slice (some ⟨wr.heap.size, 0, none⟩) 1 1) 1 [.string s1] (by rfl) (src_cellS HCS2.out) (by simp) ?_; intro v2 w2 hq2 hgr2 hloc2; rw [List.nil_append] at hq2; obtain ⟨A2', k2', rfl, _, _⟩ := hq2.rd; have HK2 := Lib.hid (Blk.grown_ (w := (wr.alloc (.cells #[.string s1] 9)).drew) HBkA.out hgr2 (fun h => by cases (show some gc = none from h))); have f2 := HK2.out.frozen 2; have c2 := HK2.out.cell 2; have HQ2 := Lib.hid hq2; have HG2 := Lib.hid hgr2; clear hq2 hgr2 hloc2))
            all_goals
              have hbA : Below wr.heap.size wr w2 := (below_new wr (.cells #[.string s1] 9)).drew.grown HG2.out (by simp) (fun g hg => by cases hg)
              have HBg := Lib.hid ((B1.out.trans (hbA.mono (Nat.le_of_lt hgl))).setCell (p := ⟨gc, 2, none⟩) (Nat.le_refl gc) (.slice A2' 1 k2'))
              have hqA := (Q2.out.below hbA (Nat.le_refl _)).set (p := ⟨gc, 2, none⟩) (Nat.lt_succ_self gc) (.slice A2' 1 k2')
              have hqB := HQ2.out.set (p := ⟨gc, 2, none⟩) (Nat.lt_succ_self gc) (.slice A2' 1 k2')
              have hkB := HK2.out.set_ 2 (.slice A2' 1 k2')
              obtain ⟨ws, hws⟩ : ∃ ws, ws = w2.setCell ⟨gc, 2, none⟩ (.slice A2' 1 k2') := ⟨_, rfl⟩
              rw [← hws] at HBg hqA hqB hkB ⊢
              have hgs2 : w.heap.size ≤ ws.heap.size := Nat.le_trans B.out.size HBg.out.size
              have HW2s := Lib.hid (show Below wo.heap.size wo ws by rw [← HGC.out]; exact HBg.out)
              have HWs := Lib.hid (B.out.trans (HBg.out.mono hgs))
              have HArs := Lib.hid (HAr.out.below HBg.out (by rw [HGC.out]; exact HAr.out.lt))
              have c0 := hkB.cell 0
              have c1 := hkB.cell 1
              have c2 := hkB.cell 2
              have HQA := Lib.hid hqA
              have HQB := Lib.hid hqB
              clear hbA hqA hqB hkB hws f2 HG2 HK2 HQ2
              obtain ⟨cl, hcl⟩ : ∃ cl : ClV, cl = ⟨atomN i6, A1, m1, k1, mustN zs i, A2', 1, k2', [atomN b6]⟩ := ⟨_, rfl⟩
              obtain ⟨i0, hi, hz0, hz1, hz2⟩ := info_parts info36
              have HG := Lib.hid (G.out.below HW2s.out)
              have HGa := Lib.hid (HG.out.below (below_new ws (.cells #[.string nm, .slice A1 m1 k1, .slice A2' 1 k2'] 36)))
              have hnews : clCells cl = [.string nm, .slice A1 m1 k1, .slice A2' 1 k2'] := by rw [hcl, HNm.out]; rfl
              have HGS := Lib.hid (show w.heap.size + 1 ≤ (ws.alloc (.cells #[.string nm, .slice A1 m1 k1, .slice A2' 1 k2'] 36)).heap.size by simp; exact hgs2)
              go_wp2_with (at_builtin; refine wpList_append_own_at _ rfl _ _ 23 rfl (w.heap.size + 1) 36 i0 _ 3 64 Try.underlying23 hi hz0 hz1 hz2 rfl (by decide) _ _ _ rfl HGa.out.row ⟨ws.heap.size, 0, none⟩ 1 1 [.string nm, .slice A1 m1 k1, .slice A2' 1 k2'] rfl rfl ?c1 ?c2 ?c3 ?c4 HGS.out ?_)
              case c1 =>
                intro j u hu
                rw [Addr.add_lit, World.cell?_alloc_at _ _ _ _ rfl]
                simpa using hu
              case c2 => intro u hu; simp at hu; rcases hu with rfl | rfl | rfl <;> rfl
              case c3 => unfold maxLen; omega
              case c4 => omega
              intro v' w3 hown hgr hnil hloc
              have HGm := Lib.hid (HGa.out.more (gc := gc) (c := cl) (Nat.succ_le_succ hgs) (fun kk hkk => by have := (G.out.row.lt kk hkk).2; rw [HGC.out]; exact this) (by rw [hcl]; exact ⟨HI6.out, rfl, HNo.out.symm⟩)
                (by rw [hcl]; exact HQA.out.below (below_new ws _) (Nat.le_refl _)) (by rw [hcl]; rw [show strCells [atomN b6] = [.string s1] by rw [HS1.out]; rfl]; exact HQB.out.below (below_new ws _) (Nat.le_refl _)) (by rw [hnews]; exact hown) hgr (hloc.imp id (fun e => e.trans (by simp))))
              have HBf := Lib.hid ((HWs.out.alloc HWs.out.size _).grown hgr (Nat.le_trans HWs.out.size (by simp)) (fun kk hkk => Nat.le_of_succ_le (G.out.row.lt kk hkk).1))
              have HAf := Lib.hid ((HArs.out.below (below_new ws _) HArs.out.lt).grown_ hgr (fun e => by have := (G.out.row.lt _ e.symm).1; omega))
              clear hown hgr hnil hloc
              go_wp2_with fail
              go_roundw
              case rel => exact ⟨i + 1, cs ++ [cl], by omega, by go_num, HGm, HAf, HBf⟩
              case measure => simp [intOf]; omega
          · have HNo := Lib.hid (show notsN zs i = [] by rw [notsN, ← HYN.out, if_neg h2])
            have hb2 : (((Y % 2 : Nat) : Int) == 0) = false := beq_eq_false_iff_ne.2 (by omega)
            clear y0
            generalize Y % 2 = y2 at *
            generalize Y / 2 = yd at *
            have c0 := HBk.out.cell 0
            have c1 := HBk.out.cell 1
            have c2 := HBk.out.cell 2
            obtain ⟨cl, hcl⟩ : ∃ cl : ClV, cl = ⟨atomN i6, A1, m1, k1, mustN zs i, none, 0, 0, []⟩ := ⟨_, rfl⟩
            obtain ⟨i0, hi, hz0, hz1, hz2⟩ := info_parts info36
            have HG := Lib.hid (G.out.below HW2.out)
            have HGa := Lib.hid (HG.out.below (below_new wr (.cells #[.string nm, .slice A1 m1 k1, .slice none 0 0] 36)))
            have hnews : clCells cl = [.string nm, .slice A1 m1 k1, .slice none 0 0] := by rw [hcl, HNm.out]; rfl
            go_wp2_with (at_builtin; refine wpList_append_own_at _ rfl _ _ 23 rfl (w.heap.size + 1) 36 i0 _ 3 64 Try.underlying23 hi hz0 hz1 hz2 rfl (by decide) _ _ _ rfl HGa.out.row ⟨wr.heap.size, 0, none⟩ 1 1 [.string nm, .slice A1 m1 k1, .slice none 0 0] rfl rfl ?c1 ?c2 ?c3 ?c4 ?c5 ?_)
            case c1 =>
              intro j u hu
              rw [Addr.add_lit, World.cell?_alloc_at _ _ _ _ rfl]
              simpa using hu
            case c2 => intro u hu; simp at hu; rcases hu with rfl | rfl | rfl <;> rfl
            case c3 => unfold maxLen; omega
            case c4 => omega
            case c5 => have := HGC.out; simp; omega
            intro v' w3 hown hgr hnil hloc
            have HGm := Lib.hid (HGa.out.more (gc := gc) (c := cl) (by omega) (fun kk hkk => by have := (G.out.row.lt kk hkk).2; rw [HGC.out]; exact this) (by rw [hcl]; exact ⟨HI6.out, rfl, HNo.out.symm⟩)
              (by rw [hcl]; exact Q2.out.below (below_new wr _) (Nat.le_refl _)) (by rw [hcl]; exact QAt.nil _ _) (by rw [hnews]; exact hown) hgr (hloc.imp id (fun e => e.trans (by simp))))
            have HBf := Lib.hid ((HW.out.alloc HW.out.size _).grown hgr (Nat.le_trans HW.out.size (by simp)) (fun kk hkk => Nat.le_of_succ_le (G.out.row.lt kk hkk).1))
            have HAf := Lib.hid ((HAr2.out.below (below_new wr _) HAr2.out.lt).grown_ hgr (fun e => by have := (G.out.row.lt _ e.symm).1; omega))
            clear hown hgr hnil hloc
            go_wp2_with fail
            go_roundw
            case rel => exact ⟨i + 1, cs ++ [cl], by omega, by go_num, HGm, HAf, HBf⟩
            case measure => simp [intOf]; omega
    · obtain rfl : i = m := by omega
      go_wp2_with fail
      go_ret
      exact G.out.done (by omega) B.out
end Go.Proofs.Ytflfachkoffiiaa
