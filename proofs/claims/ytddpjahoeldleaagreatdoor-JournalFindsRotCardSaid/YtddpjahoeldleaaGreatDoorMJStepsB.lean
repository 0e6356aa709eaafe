/- The law's arguments opened; the text of a step. -/
import Derived.Below
import Derived.ChangeSame
import Derived.ProofKit
import Derived.Carry
import Derived.SizedLaws
import Derived.OpenShut
import Derived.Test.YtddpjahoeldleaaGreatDoorMSmall
import Derived.Test.YtddpjahoeldleaaGreatDoorRows
import Derived.Test.YtddpjahoeldleaaGreatDoorMAppend
import Derived.LaidMore
import Derived.Lib.LaidTab
import Derived.SliceStrings

/-! What every law's proof ends in: the law answers true, old memory is as it was, so each argument reads as it read. -/
namespace Go.Proofs.YtddpjahoeldleaaGreatDoor
open Go.RowKit Go.WideShapes Go.ChangeShapes Go.ChangeAt

section
variable {H : Type} {enc : TypeId × Value → H} {P : Program}
theorem trodAll_stays (hl : laidOutB P = true) {W W' : World} (hb : Below W.heap.size W W') {sp : Nat → Bool} : ∀ {ts : List TypeId} {vs : List Value} {ds : List (DataW H)} {ps : List MemPlace},
    ts.all (fun t => P.readableRec t && decide (t < P.types.size)) = true → DataW.TrodAll enc P W 0 (fun _ => true) true ts vs ds ps → (∀ x ∈ ps, x.block < W.heap.size) → (∀ x ∈ ps, sp x.block = true) → DataW.TrodAll enc P W' 0 sp true ts vs ds ps
  | [], [], [], _, _, h, _, _ => h
  | t :: ts, v :: vs, d :: ds, ps, hr, ⟨p, q, h1, h2, e⟩, hlt, hsp => by
    simp only [List.all_cons, Bool.and_eq_true, decide_eq_true_eq] at hr
    subst e
    exact ⟨p, q, WideElems.Trod_stays hl hr.1.1 hr.1.2 h1 (fun x hx => hb.same (hlt x (List.mem_append_left _ hx))) (fun x hx => hsp x (List.mem_append_left _ hx)),
      trodAll_stays hl hb (by simpa using hr.2) h2 (fun x hx => hlt x (List.mem_append_right _ hx)) (fun x hx => hsp x (List.mem_append_right _ hx)), rfl⟩
  | [], [], _ :: _, _, _, h, _, _ => h.elim
  | [], _ :: _, _, _, _, h, _, _ => by cases h
  | _ :: _, [], _, _, _, h, _, _ => by cases h
  | _ :: _, _ :: _, [], _, _, h, _, _ => h.elim

theorem post_of_below {f : Func} {s : ChangeSpec} {apart fresh handsOn again : Bool} {W W' : World} {args : Array Value} {v : Value} {ds gs : List (DataW H)} {before pa pv : List MemPlace}
    (hW : DataW.Whole enc P f.params.toList s.vars apart W args.toList ds gs before)
    (hres : ∀ (b : Nat) (sp : Nat → Bool) (hd : Bool), DataW.TrodAll enc P W' b sp hd f.resultTypes.toList (v.resultList f.resultTypes.size) (s.fn H (ds ++ gs)).results [])
    (hargs : ∀ sp : Nat → Bool, (∀ p ∈ before, sp p.block = true) → DataW.TrodAll enc P W' 0 sp true f.params.toList args.toList (s.fn H (ds ++ gs)).args pa)
    (hvars : ∀ sp : Nat → Bool, (∀ p ∈ before, sp p.block = true) → DataW.TrodVars enc P W' sp s.vars (s.fn H (ds ++ gs)).vars pv)
    (hps : before = pa ++ pv) (hb : Below W.heap.size W W')
    (hok : ∀ (j : Nat) (t : TypeId) (r : Value), f.resultTypes[j]? = some t → (v.resultList f.resultTypes.size)[j]? = some r → Value.okWide P W' .any 0 t r) :
    s.post enc P f apart fresh handsOn again W args v W' := by
  have hlt : ∀ p ∈ before, p.block < W.heap.size := fun p hp => hW.lt p hp
  have hold : ∀ p ∈ before, (fun b => decide (b < W.heap.size)) p.block = true := fun p hp => by simpa using hlt p hp
  refine ⟨ds, gs, before, [], pa, pv, hW, hres _ _ _, hargs _ hold, hvars _ hold, World.keptBut_mono (fun p hp => ⟨hp, ?_⟩) (hb.frame (· ∈ before)), fun _ => ?_⟩
  · rw [hps, List.mem_append] at hp
    exact Or.inr hp
  · obtain ⟨_, _, _, _, _, hz, hn⟩ := hW
    refine ⟨hok, _, _, ([] ++ pa) ++ pv, ⟨[] ++ pa, pv, trodAll_append (hargs _ (fun _ _ => rfl)) (hres _ _ _), hvars _ (fun _ _ => rfl), rfl, ?_, ?_⟩, ?_⟩
    · intro b off hp
      have hin : MemPlace.cell b off ∈ before := by rw [hps]; simpa using hp
      rw [hb.frozen (hlt _ hin)]
      exact hz b off hin
    · intro ha
      have := hn ha
      rw [hps] at this
      simpa using this
    · intro p hp _
      rw [hps]
      simpa using hp

/-- a law: it answers true, no variable is named -/
theorem law_post {f : Func} {s : ChangeSpec} {again : Bool} {bt : TypeId} {W W' : World} {args : Array Value} {ds gs : List (DataW H)} {before : List MemPlace} (hl : laidOutB P = true) (hbt : P.underlying bt = some .bool) (hrt : f.resultTypes = #[bt])
    (hr : f.params.toList.all (fun t => P.readableRec t && decide (t < P.types.size)) = true) (hv : s.vars = [])
    (hW : DataW.Whole enc P f.params.toList s.vars false W args.toList ds gs before) (hb : Below W.heap.size W W')
    (e1 : (s.fn H (ds ++ gs)).results = [.lit (.bool true)]) (e2 : (s.fn H (ds ++ gs)).args = ds) (e3 : (s.fn H (ds ++ gs)).vars = []) :
    s.post enc P f false true false again W args (.bool true) W' := by
  have hW' := hW
  obtain ⟨p, q, hA, hV, rfl, _, _⟩ := hW
  rw [hv] at hV
  obtain ⟨rfl, rfl⟩ := trodVars_none hV
  have hlt : ∀ x ∈ p ++ [], x.block < W.heap.size := fun x hx => hW'.lt x hx
  refine post_of_below (pa := p) (pv := []) hW' (fun b sp hd => ?_) (fun sp hsp => ?_) (fun sp _ => ?_) rfl hb (fun j t r ht hr' => ?_)
  · rw [e1, hrt]
    exact trodAll_cons_mk (shut_bool hbt true) trodAll_mk0
  · rw [e2]
    exact trodAll_stays hl hb hr hA (fun x hx => hlt x (by simpa using hx)) (fun x hx => hsp x (by simpa using hx))
  · rw [e3, hv]
    exact rfl
  · rw [hrt] at ht hr'
    match j, ht, hr' with
    | 0, ht, hr' =>
      obtain rfl : bt = t := by simpa using ht
      obtain rfl : Value.bool true = r := by simpa [Value.resultList] using hr'
      exact okWide_bool_mk hbt true
    | j + 1, ht, _ => simp at ht
end
end Go.Proofs.YtddpjahoeldleaaGreatDoor

/-! The reference's Text: the text of a step. -/
namespace Go.Proofs.YtddpjahoeldleaaGreatDoor
open Go.RowKit

/-- how long a step's text is -/
def stepN (size : Int) : Nat := (min (max size 0) 8100).toNat
def stepP (fill : UInt8) (n : Nat) : Bs := (List.range n).map fun k => fill + UInt8.ofNat k
def stepT (size : Int) (fill : UInt8) : Bs := stepP fill (stepN size)
theorem step_len (size : Int) (fill : UInt8) : (stepT size fill).length ≤ 8100 := by
  rw [stepT, stepP, List.length_map, List.length_range]
  unfold stepN
  omega
theorem stepP_succ (fill : UInt8) (n : Nat) : stepP fill (n + 1) = stepP fill n ++ [fill + UInt8.ofNat n] := by
  rw [stepP, List.range_succ, List.map_append]; rfl
theorem add_byte (f : UInt8) (k : Nat) : (((f.toNat : Int) + (k : Int) % 256) % 256) = ((f + UInt8.ofNat k).toNat : Int) := by
  rw [UInt8.toNat_add, UInt8.toNat_ofNat']
  omega
set_option maxHeartbeats 1000000 in
set_option maxRecDepth 100000 in
theorem rtext_any (kd i bit size : Int) (fill : UInt8) (A : Option Addr) (m c : Nat) (w : World) :
    Calls Tryz.prog 15 #[.agg #[.int .i64 kd, .int .i64 i, .int .i64 bit, .int .i64 size, .int .u8 (fill.toNat : Int), .slice A m c]] w (RetB (str (stepT size fill)) w) := by
  obtain ⟨n, hn⟩ : ∃ n, n = stepN size := ⟨_, rfl⟩
  have hn2 : n ≤ 8100 := by rw [hn]; unfold stepN; omega
  have hmm : min (max size 0) 8100 = (n : Int) := by rw [hn]; unfold stepN; omega
  have HN := Lib.hid hn
  clear hn
  go_enter Tryz.func15, Tryz.ntmps15
  go_wp2_with fail
  obtain ⟨w1, hw1⟩ : ∃ w1, w1 = w.alloc (.cells #[.int .i64 kd, .int .i64 i, .int .i64 bit, .int .i64 size, .int .u8 (fill.toNat : Int), .slice A m c] 25) := ⟨_, rfl⟩
  have Q1 := Lib.hid (show Blk w1 w.heap.size 25 #[.int .i64 kd, .int .i64 i, .int .i64 bit, .int .i64 size, .int .u8 (fill.toNat : Int), .slice A m c] by rw [hw1]; exact Blk.new w _ _)
  have B1 := Lib.hid (show Below w.heap.size w w1 by rw [hw1]; exact below_new _ _)
  rw [← hw1]
  clear hw1
  go_loopw [4, 5] (fun v k wr => ∃ (j : Nat) (v' : Value), v' = v ∧ j ≤ n ∧ k = .int .i64 j ∧ (j = 0 → v' = .slice none 0 0) ∧ Hid (wr.ownsRow (w.heap.size + 1) 5 1 v' j (byteCells (stepP fill j))) ∧ Hid (Below w.heap.size w wr) ∧ Hid (Blk wr w.heap.size 25 #[.int .i64 kd, .int .i64 i, .int .i64 bit, .int .i64 size, .int .u8 (fill.toNat : Int), .slice A m c])) (fun _ k _ => n - (intOf k).toNat)
  case atStart => exact ⟨0, _, rfl, by omega, rfl, fun _ => rfl, Lib.hid (World.ownsRow_nil _ _ _ _), B1, Q1⟩
  case round =>
    obtain ⟨j, v, rfl, hj, rfl, hv0, O, B, Q⟩ := hrel
    by_cases hlt : j < n
    · have j0 : (0 : Int) ≤ (j : Int) := by omega
      have j1 : (j : Int) < (n : Int) := by omega
      have q4 := Q.out.cell 4
      simp only [List.getElem?_toArray, List.getElem?_cons_zero, List.getElem?_cons_succ] at q4
      obtain ⟨y, hy⟩ : ∃ y, y = fill + UInt8.ofNat j := ⟨_, rfl⟩
      have hy2 : ((fill.toNat : Int) + (j : Int) % 256) % 256 = (y.toNat : Int) := by rw [hy]; exact add_byte fill j
      have HY := Lib.hid (show stepP fill (j + 1) = stepP fill j ++ [y] by rw [hy]; exact stepP_succ fill j)
      obtain ⟨i0, hi, hz0, hz1, hz2⟩ := info_parts info5b
      clear hy hv0
      go_wp2_with (at_builtin; refine wpList_append_own _ rfl _ _ 84 rfl (w.heap.size + 1) 5 i0 _ 1 1 Tryz.underlying84 hi hz0 hz1 hz2 rfl (by decide) v j _ rfl (O.out.alloc _) ⟨wr.heap.size, 0, none⟩ 1 1 [.int .u8 (y.toNat : Int)] rfl rfl (cells_one _ _ _) (fun u hu => by simp at hu; subst hu; rfl) (by unfold maxLen; omega) (by omega) (by have := B.out.size; have := Q.out.lt; rw [World.size_alloc]; omega) ?_)
      intro v6 w6 hown6 hgrow6 _
      have O6 := Lib.hid (show w6.ownsRow (w.heap.size + 1) 5 1 v6 (j + 1) (byteCells (stepP fill (j + 1))) by rw [HY.out, byteCells_snoc]; exact hown6)
      have hbw : Below wr.heap.size wr (wr.alloc (.cells #[.int .u8 (y.toNat : Int)] 5)) := below_new _ _
      have K6 : Keep v.ownBlock.toList wr w6 := ⟨hgrow6.os.trans hbw.os, hgrow6.tape.trans hbw.tape, hgrow6.output.trans hbw.output, Nat.le_trans hbw.size hgrow6.size, fun i hi hF => (hgrow6.block i (Nat.lt_of_lt_of_le hi hbw.size) (fun e => hF (by rw [← e]; simp))).trans (hbw.block i hi)⟩
      have B6 := Lib.hid (B.out.trans (K6.below B.out.size (fun i hi => by have := (O.out.lt i (by simpa using hi)).1; omega)))
      have Q6 := Lib.hid (show Blk w6 w.heap.size 25 _ from (K6.block w.heap.size Q.out.lt (fun hi => by have := (O.out.lt w.heap.size (by simpa using hi)).1; omega)).trans Q.out)
      clear hown6 hgrow6 hbw K6
      go_wp2_with fail
      go_roundw
      case rel => exact ⟨j + 1, _, rfl, by omega, by go_num, fun h => absurd h (by omega), O6, B6, Q6⟩
      case measure => simp [intOf]; omega
    · obtain rfl : j = n := by omega
      have HT := Lib.hid (show stepT size fill = stepP fill j by rw [stepT, ← HN.out])
      rcases Nat.eq_zero_or_pos j with h0 | h0
      · obtain rfl := hv0 h0
        have HT0 := Lib.hid (show stepT size fill = [] by rw [HT.out, h0]; rfl)
        have hcv : (convert 84 9 (.slice none 0 0)).run Tryz.prog wr = .ok (.string ⟨#[]⟩) wr := by kernel_rfl
        clear hv0 h0
        go_wp2_with fail
        go_ret
        exact ⟨by rw [HT0.out]; rfl, B.out⟩
      · obtain ⟨A', c', rfl, _⟩ := own_slice O.out
        have hcv := conv_rd (Rd.of_own O.out) h0 c'
        obtain ⟨s, hs⟩ : ∃ s : ByteArray, s = ⟨(stepP fill j).toArray⟩ := ⟨_, rfl⟩
        rw [← hs] at hcv
        have HS := Lib.hid hs
        clear hs hv0
        go_wp2_with fail
        go_ret
        exact ⟨by rw [HT.out, HS.out]; rfl, B.out⟩
end Go.Proofs.YtddpjahoeldleaaGreatDoor

/-! What the listed variables hold: the round constants. -/
namespace Go.Proofs.YtddpjahoeldleaaGreatDoor
open Go.ChangeShapes Go.WideShapes Go.RowKit

section
variable {H : Type} {enc : TypeId × Value → H} {P : Program} {w : World} {base : Nat} {spare : Nat → Bool} {held : Bool}
theorem cells_of_words {fuel n : Nat} {t e : TypeId} {cs : List Value} {ns : List Int} {p : List MemPlace} (ht : P.underlying t = some (.array n e)) (he : P.underlying e = some (.int .u32)) (hce : P.cellsOf e = 1) (hct : P.cellsOf t = n)
    (h : DataW.trod enc P w base spare held fuel t cs = some (.agg (ns.map fun z => .lit (.int .u32 z)), p)) : cs = ns.map (Value.int .u32) := by
  obtain ⟨xs, m, _, hx, hl, hxl, hf⟩ := DataW.trod_array ht h
  simp only [Prod.mk.injEq, DataW.agg.injEq] at hx
  have hs : ns.length = n := by have := congrArg List.length hx.1; simpa [hxl] using this
  rw [hct] at hl
  apply List.ext_getElem?
  intro i
  by_cases hi : i < n
  · have h1 := hf i hi
    rw [hce, Nat.mul_one, List.getElem?_eq_getElem (by omega)] at h1
    obtain ⟨z, hc, hx', _⟩ := DataW.trod_int he h1
    have h2 : cs[i]? = some (.int .u32 z) := by
      have := congrArg (·[0]?) hc
      simpa [List.getElem?_take, List.getElem?_drop] using this
    have h3 := congrArg (·[i]?) hx.1
    simp only [List.getElem?_map, List.getElem?_eq_getElem (show i < xs.length by omega), List.getElem?_eq_getElem (show i < ns.length by omega), Option.map_some, hx', Option.some.injEq, DataW.lit.injEq, Lit.int.injEq, true_and] at h3
    have h4 : (ns[i]'(by omega)) = z := h3
    rw [h2, List.getElem?_map, List.getElem?_eq_getElem (show i < ns.length by omega), Option.map_some, h4]
  · rw [List.getElem?_eq_none (by omega), List.getElem?_eq_none (by simp; omega)]
end
theorem var_block {P : Program} {w : World} {n : String} {g : Nat} {cs : Array Value} (hg : P.globalNamed n = some g) (h : w.var? P n = some cs) : ∃ t fr, w.heap[g]? = some (.cells cs t fr) := by
  simp only [World.var?, hg, Option.bind_some] at h
  split at h
  · rename_i c t fr he
    injection h with h
    subst h
    exact ⟨t, fr, he⟩
  · cases h
def kInts : List Int := (List.range 64).map fun t => ((kW t).toNat : Int)
theorem kRow_ints : (kInts.map (Value.int .u32)).toArray = kRow := by kernel_rfl
theorem gGo : Tryz.prog.globalNamed "splicery/hash.constants" = some 2 := by kernel_rfl
theorem gRef : Tryz.prog.globalNamed "splicery/spliceryref02.constants" = some 0 := by kernel_rfl
theorem tGo : (Tryz.prog.globals[2]?).map (·.type) = some 164 := by kernel_rfl
theorem tRef : (Tryz.prog.globals[0]?).map (·.type) = some 164 := by kernel_rfl
theorem cU32 : Tryz.prog.cellsOf 137 = 1 := by kernel_rfl
theorem c64U32 : Tryz.prog.cellsOf 164 = 64 := by kernel_rfl
abbrev laidGo : List (String × DataW Unit) := [("splicery/hash.constants", Rows.laid_splicery_hash_constants)]
abbrev laidBoth : List (String × DataW Unit) := [("splicery/spliceryref02.constants", Rows.laid_splicery_spliceryref02_constants), ("splicery/hash.constants", Rows.laid_splicery_hash_constants)]
theorem dataGo : (Rows.laid_splicery_hash_constants : DataW Unit) = .agg (kInts.map fun z => .lit (.int .u32 z)) := by kernel_rfl
theorem dataRef : (Rows.laid_splicery_spliceryref02_constants : DataW Unit) = .agg (kInts.map fun z => .lit (.int .u32 z)) := by kernel_rfl
theorem row_of {cs : Array Value} (h : cs.toList = kInts.map (Value.int .u32)) : cs = kRow := by rw [← kRow_ints, ← h]
theorem of_laidGo {W : World} (h : laidMetH Tryz.prog laidGo W) : Consts W := by
  have hl : laidMet Tryz.prog laidGo W := h
  obtain ⟨ps, ⟨g, t, cs, fuel, p, q, hg, ht, hv, hd, _⟩, _⟩ := hl
  obtain rfl := Option.some.inj (gGo.symm.trans hg)
  obtain rfl := Option.some.inj (tGo.symm.trans ht)
  rw [dataGo] at hd
  have e := row_of (cells_of_words Tryz.underlying164 Tryz.underlying137 cU32 c64U32 hd)
  obtain ⟨t, fr, hb⟩ := var_block gGo hv
  exact ⟨t, fr, by rw [hb, e]⟩
theorem of_laidBoth {W : World} (h : laidMetH Tryz.prog laidBoth W) : Consts W ∧ RConsts W := by
  have hl : laidMet Tryz.prog laidBoth W := h
  obtain ⟨ps, ⟨g, t, cs, fuel, p, q, hg, ht, hv, hd, ⟨g2, t2, cs2, fuel2, p2, q2, hg2, ht2, hv2, hd2, _⟩, _⟩, _⟩ := hl
  obtain rfl := Option.some.inj (gRef.symm.trans hg)
  obtain rfl := Option.some.inj (tRef.symm.trans ht)
  obtain rfl := Option.some.inj (gGo.symm.trans hg2)
  obtain rfl := Option.some.inj (tGo.symm.trans ht2)
  rw [dataRef] at hd
  rw [dataGo] at hd2
  have e := row_of (cells_of_words Tryz.underlying164 Tryz.underlying137 cU32 c64U32 hd)
  have e2 := row_of (cells_of_words Tryz.underlying164 Tryz.underlying137 cU32 c64U32 hd2)
  obtain ⟨t, fr, hb⟩ := var_block gRef hv
  obtain ⟨t2, fr2, hb2⟩ := var_block gGo hv2
  exact ⟨⟨t2, fr2, by rw [hb2, e2]⟩, t, fr, by rw [hb, e]⟩
end Go.Proofs.YtddpjahoeldleaaGreatDoor

/-! Steps of scripts: what lies in memory, and arguments '[]Step', '[]byte' opened. -/
namespace Go.Proofs.YtddpjahoeldleaaGreatDoor
open Go.RowKit Go.WideShapes Go.ChangeShapes Go.ChangeAt

structure StepV where
  k : Int
  i : Int
  bit : Int
  size : Int
  fill : UInt8
  A : Option Addr
  n : Nat
  c : Nat
  ps : List Int
def stepCells (o : StepV) : List Value := [.int .i64 o.k, .int .i64 o.i, .int .i64 o.bit, .int .i64 o.size, .int .u8 (o.fill.toNat : Int), .slice o.A o.n o.c]
def stepsCells (os : List StepV) : List Value := os.flatMap stepCells
structure StepAt (w : World) (B : Nat) (o : StepV) : Prop where
  k1 : -9223372036854775808 ≤ o.k
  k2 : o.k ≤ 9223372036854775807
  i1 : -9223372036854775808 ≤ o.i
  i2 : o.i ≤ 9223372036854775807
  b1 : -9223372036854775808 ≤ o.bit
  b2 : o.bit ≤ 9223372036854775807
  n2 : o.n ≤ 9223372036854775807
  rd : Rd w B 1 o.A o.n (intCells o.ps)
theorem StepAt.keep {w w' : World} {B : Nat} {o : StepV} (h : StepAt w B o) (hk : ∀ p : Addr, p.block < B → w'.cell? p = w.cell? p) : StepAt w' B o :=
  ⟨h.k1, h.k2, h.i1, h.i2, h.b1, h.b2, h.n2, h.rd.keep hk⟩
/-- a script: a slice of operations, below block B -/
structure Script (w : World) (B : Nat) (A : Option Addr) (n : Nat) (os : List StepV) : Prop where
  rd : Rd w B 6 A n (stepsCells os)
  len : os.length = n
  all : ∀ o ∈ os, StepAt w B o
theorem Script.keep {w w' : World} {B n : Nat} {A : Option Addr} {os : List StepV} (h : Script w B A n os) (hk : ∀ p : Addr, p.block < B → w'.cell? p = w.cell? p) : Script w' B A n os :=
  ⟨h.rd.keep hk, h.len, fun o ho => (h.all o ho).keep hk⟩

section
variable {H : Type} {enc : TypeId × Value → H} {W : World} {base : Nat} {sp : Nat → Bool} {held : Bool}
theorem u8_of {z : Int} (h1 : 0 ≤ z) (h2 : z ≤ 255) : ∃ x : UInt8, z = (x.toNat : Int) := ⟨UInt8.ofNat z.toNat, by rw [UInt8.toNat_ofNat']; omega⟩
theorem open_nums_trod {fuel : Nat} {cs : List Value} {x : DataW H × List MemPlace} (hsp : ∀ b, sp b = true) (h : DataW.trod enc Tryz.prog W base sp held fuel 23 cs = some x) {B : Nat} (hlt : ∀ p ∈ x.2, p.block < B) :
    ∃ A n c zs, cs = [.slice A n c] ∧ Rd W B 1 A n (intCells zs) ∧ n ≤ 9223372036854775807 := by
  rcases open_ints Tryz.underlying23 Tryz.underlying3 (by kernel_rfl) h with ⟨rfl, rfl⟩ | ⟨a, len, cap, zs, rfl, _, hl, hm, hz, hx, hcell, hwz⟩
  · exact ⟨none, 0, 0, [], rfl, Rd.nil, by omega⟩
  · rw [if_pos (hsp _)] at hz
    unfold maxLen at hm
    refine ⟨some a, len, cap, zs.take len, rfl, ⟨by simp [intCells]; omega, fun hn => ?_⟩, by omega⟩
    obtain ⟨b, off, spot⟩ := a
    have hspot : spot = none := by simpa [Addr.add] using World.cell?_spot (hcell 0 (by omega))
    subst hspot
    refine ⟨b, off, rfl, hlt (.cell b off) (by rw [hx]; exact MemPlace.mem_row.2 ⟨0, by omega, by simp⟩), fun j u hu => ?_⟩
    simp only [intCells, List.map_take, List.getElem?_take, List.getElem?_map] at hu
    split at hu
    · rename_i hj
      have := hcell j (by omega)
      rw [show (⟨b, off, none⟩ : Addr).add j = ⟨b, off + j, none⟩ from by unfold Addr.add; split <;> simp_all] at this
      rw [this]
      rw [List.getElem?_eq_getElem (by omega)] at hu
      rw [List.getD_eq_getElem?_getD, List.getElem?_eq_getElem (by omega)]
      exact hu
    · cases hu
set_option maxRecDepth 100000 in
theorem open_step {fuel : Nat} {cs : List Value} {x : DataW H × List MemPlace} (hsp : ∀ b, sp b = true) (h : DataW.trod enc Tryz.prog W base sp held fuel 25 cs = some x) {B : Nat} (hlt : ∀ p ∈ x.2, p.block < B) :
    ∃ o, cs = stepCells o ∧ StepAt W B o := by
  obtain ⟨xs, n, rfl, rfl, hl, hx, hf⟩ := DataW.trod_struct Tryz.underlying25 h
  have s6 : Tryz.prog.cellsOf 25 = 6 := by kernel_rfl
  rw [s6] at hl
  replace hx : xs.length = 6 := hx
  match cs, hl, xs, hx with
  | [c0, c1, c2, c3, c4, c5], _, [x0, x1, x2, x3, x4, x5], _ =>
    have h0 := hf 0 _ rfl
    have h1 := hf 1 _ rfl
    have h2 := hf 2 _ rfl
    have h3 := hf 3 _ rfl
    have h4 := hf 4 _ rfl
    have h5 := hf 5 _ rfl
    simp only [List.getElem?_cons_zero, List.getElem?_cons_succ] at h0 h1 h2 h3 h4 h5
    obtain ⟨k, e0, r0, w0⟩ := DataW.trod_int Tryz.underlying3 h0
    obtain ⟨i, e1, r1, w1⟩ := DataW.trod_int Tryz.underlying3 h1
    obtain ⟨bit, e2, r2, w2⟩ := DataW.trod_int Tryz.underlying3 h2
    obtain ⟨sz, e3, r3, w3⟩ := DataW.trod_int Tryz.underlying3 h3
    obtain ⟨fl, e4, r4, w4⟩ := DataW.trod_int Tryz.underlying5 h4
    obtain ⟨A, m, c, zs, e5, r5, w5⟩ := open_nums_trod hsp h5 (B := B) (fun p hp => hlt p (by simp [hp]))
    obtain rfl : c0 = _ := by injection e0
    obtain rfl : c1 = _ := by injection e1
    obtain rfl : c2 = _ := by injection e2
    obtain rfl : c3 = _ := by injection e3
    obtain rfl : c4 = _ := by injection e4
    obtain rfl : c5 = _ := by injection e5
    obtain ⟨f, rfl⟩ := u8_of (bounds_u8 w4).1 (bounds_u8 w4).2
    exact ⟨⟨k, i, bit, sz, f, A, m, c, zs⟩, rfl, ⟨(bounds_i64 w0).1, (bounds_i64 w0).2, (bounds_i64 w1).1, (bounds_i64 w1).2, (bounds_i64 w2).1, (bounds_i64 w2).2, w5, r5⟩⟩
theorem stepsCells_length (os : List StepV) : (stepsCells os).length = os.length * 6 := by
  induction os with
  | nil => rfl
  | cons o os ih => rw [show stepsCells (o :: os) = stepCells o ++ stepsCells os from rfl, List.length_append, ih]; simp [stepCells]; omega
theorem stepsCells_at (os : List StepV) : ∀ (m j : Nat) (o : StepV), os[m]? = some o → j < 6 → (stepsCells os)[m * 6 + j]? = (stepCells o)[j]? := by
  induction os with
  | nil => intro m j o h; cases h
  | cons a os ih =>
    intro m j o h hj
    rw [show stepsCells (a :: os) = stepCells a ++ stepsCells os from rfl]
    cases m with
    | zero =>
      obtain rfl : a = o := by simpa using h
      rw [Nat.zero_mul, Nat.zero_add, List.getElem?_append_left (by simp [stepCells]; omega)]
    | succ m =>
      rw [List.getElem?_append_right (by simp [stepCells]; omega), show (m + 1) * 6 + j - (stepCells a).length = m * 6 + j by simp [stepCells]; omega]
      exact ih m j o (by simpa using h) hj
theorem stepsCells_get (os : List StepV) (q : Nat) (u : Value) (h : (stepsCells os)[q]? = some u) : ∃ o, os[q / 6]? = some o ∧ (stepCells o)[q % 6]? = some u := by
  have hq := (List.getElem?_eq_some_iff.1 h).1
  rw [stepsCells_length] at hq
  have hm : q / 6 < os.length := by omega
  refine ⟨os[q / 6], List.getElem?_eq_getElem hm, ?_⟩
  rw [← stepsCells_at os (q / 6) (q % 6) _ (List.getElem?_eq_getElem hm) (by omega), show q / 6 * 6 + q % 6 = q by omega, h]
theorem choose_list {α : Type} (P : Nat → α → Prop) : ∀ n : Nat, (∀ i, i < n → ∃ o, P i o) → ∃ os : List α, os.length = n ∧ ∀ i o, os[i]? = some o → P i o := by
  intro n
  induction n with
  | zero => intro _; exact ⟨[], rfl, fun i o h => by cases h⟩
  | succ n ih =>
    intro h
    obtain ⟨os, hl, hP⟩ := ih (fun i hi => h i (by omega))
    obtain ⟨o, ho⟩ := h n (by omega)
    refine ⟨os ++ [o], by simp [hl], fun i o' h' => ?_⟩
    rw [List.getElem?_append] at h'
    split at h'
    · exact hP i o' h'
    · have hi : i - os.length = 0 := by
        have := (List.getElem?_eq_some_iff.1 h').1
        simp at this
        omega
      rw [hi] at h'
      obtain rfl : o = o' := by simpa using h'
      obtain rfl : i = n := by omega
      exact ho
set_option maxRecDepth 100000 in
theorem open_steps {v : Value} {d : DataW H} {p : List MemPlace} (hv : Value.okWide Tryz.prog W .any base 22 v) (h : DataW.Trod enc Tryz.prog W 0 (fun _ => true) true 22 v d p) (hlt : ∀ x ∈ p, x.block < W.heap.size) :
    ∃ A n c os, v = .slice A n c ∧ Script W W.heap.size A n os ∧ n ≤ 9223372036854775807 := by
  obtain ⟨a0, len, cap, rfl⟩ := okWide_slice Tryz.underlying22 hv
  obtain ⟨fuel, hf⟩ := h
  rcases DataW.trod_slice Tryz.underlying22 hf with ⟨hcs, hx⟩ | ⟨a, len', cap', elems, rest, n, rfl, hcs, hx, _, hl, hm, hlen, hel, _, _⟩
  · simp [Value.cells] at hcs
    obtain ⟨rfl, rfl, rfl⟩ := hcs
    exact ⟨none, 0, 0, [], rfl, ⟨Rd.nil, rfl, fun o ho => by cases ho⟩, by omega⟩
  · simp [Value.cells] at hcs
    obtain ⟨rfl, rfl, rfl⟩ := hcs
    unfold maxLen at hm
    have s6 : Tryz.prog.cellsOf 25 = 6 := by kernel_rfl
    rw [s6] at hel hx
    simp only [Prod.mk.injEq] at hx
    obtain ⟨os, hol, hos⟩ := choose_list (fun i o => StepAt W W.heap.size o ∧ W.cells? 0 (a.add (i * 6) ) 6 = some (stepCells o)) len (fun i hi => by
      have he := hel i hi
      obtain ⟨y, hy⟩ : ∃ y, elems[i]? = some y := ⟨_, List.getElem?_eq_getElem (by omega)⟩
      rw [hy, Option.bind_eq_some_iff] at he
      obtain ⟨cs, h1, h2⟩ := he
      obtain ⟨o, rfl, ho⟩ := open_step (fun _ => rfl) h2 (B := W.heap.size) (fun q hq => hlt q (by
        rw [hx.2]
        exact List.mem_append_right _ (List.mem_flatMap.2 ⟨y, List.mem_append_left _ (List.mem_of_getElem? hy), hq⟩)))
      exact ⟨o, ho, h1⟩)
    refine ⟨some a, len, cap, os, rfl, ⟨⟨by rw [stepsCells_length, hol], fun hn => ?_⟩, hol, fun o ho => ?_⟩, by omega⟩
    · have hc0 : ∃ u, W.cell? (a.add 0) = some u := by
        have := (World.cells?_some (hos 0 _ (List.getElem?_eq_getElem (by omega))).2).2.2 0 (by omega)
        rw [Nat.zero_mul] at this
        exact ⟨_, by simpa [Addr.add, stepCells] using this⟩
      obtain ⟨u0, hu0⟩ := hc0
      obtain ⟨b, off, spot⟩ := a
      have hspot : spot = none := by simpa [Addr.add] using World.cell?_spot hu0
      subst hspot
      refine ⟨b, off, rfl, hlt (.cell b off) (by rw [hx.2]; exact List.mem_append_left _ (MemPlace.mem_row.2 ⟨0, by omega, by simp⟩)), fun j u hu => ?_⟩
      obtain ⟨o, ho, hu'⟩ := stepsCells_get os j u hu
      have := (World.cells?_some (hos _ _ ho).2).2.2 (j % 6) (by omega)
      have ha : ∀ o j : Nat, (⟨b, o, none⟩ : Addr).add j = ⟨b, o + j, none⟩ := fun o j => by unfold Addr.add; split <;> simp_all
      rw [hu', ha, ha, show off + j / 6 * 6 + j % 6 = off + j by omega] at this
      exact this
    · obtain ⟨i, hi⟩ := List.getElem?_of_mem ho
      exact (hos i o hi).1
end
end Go.Proofs.YtddpjahoeldleaaGreatDoor

/-! Arguments '[]string', '[]int' and a step, opened. -/
namespace Go.Proofs.YtddpjahoeldleaaGreatDoor
open Go.RowKit Go.WideShapes Go.ChangeShapes Go.ChangeAt

section
variable {H : Type} {enc : TypeId × Value → H} {W : World} {base : Nat} {v : Value} {d : DataW H} {p : List MemPlace}
set_option maxRecDepth 100000 in
theorem open_strs0 (hv : Value.okWide Tryz.prog W .any base 28 v) (h : DataW.Trod enc Tryz.prog W 0 (fun _ => true) true 28 v d p) (hlt : ∀ x ∈ p, x.block < W.heap.size) :
    ∃ A n c, ∃ ss : List Bs, v = .slice A n c ∧ Rd W W.heap.size 1 A n (strCells ss) ∧ n ≤ 9223372036854775807 := by
  obtain ⟨a0, len, cap, rfl⟩ := okWide_slice Tryz.underlying28 hv
  obtain ⟨fuel, hf⟩ := h
  rcases open_strings Tryz.underlying28 Tryz.underlying9 (by kernel_rfl) hf with ⟨hcs, hx⟩ | ⟨a, len', cap', ss, hcs, _, hl, hm, hz, hx, hcell, hwz⟩
  · simp [Value.cells] at hcs
    obtain ⟨rfl, rfl, rfl⟩ := hcs
    exact ⟨none, 0, 0, [], rfl, Rd.nil, by omega⟩
  · simp [Value.cells] at hcs
    obtain ⟨rfl, rfl, rfl⟩ := hcs
    simp only [if_true] at hz
    simp only [Prod.mk.injEq] at hx
    unfold maxLen at hm
    refine ⟨some a, len, cap, (ss.take len).map (·.data.toList), rfl, ⟨by simp [strCells]; omega, fun hn => ?_⟩, by omega⟩
    obtain ⟨b, off, spot⟩ := a
    have hspot : spot = none := by simpa [Addr.add] using World.cell?_spot (hcell 0 (by omega))
    subst hspot
    refine ⟨b, off, rfl, hlt (.cell b off) (by rw [hx.2]; exact MemPlace.mem_row.2 ⟨0, by omega, by simp⟩), fun j u hu => ?_⟩
    simp only [strCells, List.map_take, List.getElem?_take, List.getElem?_map] at hu
    split at hu
    · rename_i hj
      have := hcell j (by omega)
      rw [show (⟨b, off, none⟩ : Addr).add j = ⟨b, off + j, none⟩ from by unfold Addr.add; split <;> simp_all] at this
      rw [this]
      rw [List.getElem?_eq_getElem (by omega)] at hu
      rw [List.getD_eq_getElem?_getD, List.getElem?_eq_getElem (by omega)]
      exact hu
    · cases hu
set_option maxRecDepth 100000 in
theorem open_nums0 (hv : Value.okWide Tryz.prog W .any base 23 v) (h : DataW.Trod enc Tryz.prog W 0 (fun _ => true) true 23 v d p) (hlt : ∀ x ∈ p, x.block < W.heap.size) :
    ∃ A n c zs, v = .slice A n c ∧ Rd W W.heap.size 1 A n (intCells zs) ∧ n ≤ 9223372036854775807 := by
  obtain ⟨a0, len, cap, rfl⟩ := okWide_slice Tryz.underlying23 hv
  obtain ⟨fuel, hf⟩ := h
  obtain ⟨A, n, c, zs, e, hr, hn⟩ := open_nums_trod (fun _ => rfl) hf (B := W.heap.size) hlt
  refine ⟨A, n, c, zs, ?_, hr, hn⟩
  simp [Value.cells] at e
  obtain ⟨rfl, rfl, rfl⟩ := e
  rfl
set_option maxRecDepth 100000 in
theorem open_step0 (hv : Value.okWide Tryz.prog W .any base 25 v) (h : DataW.Trod enc Tryz.prog W 0 (fun _ => true) true 25 v d p) (hlt : ∀ x ∈ p, x.block < W.heap.size) :
    ∃ o : StepV, v = .agg #[.int .i64 o.k, .int .i64 o.i, .int .i64 o.bit, .int .i64 o.size, .int .u8 (o.fill.toNat : Int), .slice o.A o.n o.c] := by
  obtain ⟨cs, rfl, -⟩ := okWide_struct Tryz.underlying25 hv
  obtain ⟨fuel, hf⟩ := h
  obtain ⟨o, e, -⟩ := open_step (fun _ => rfl) hf (B := W.heap.size) hlt
  refine ⟨o, ?_⟩
  have e : cs.toList = stepCells o := by simpa [Value.cells] using e
  rw [show cs = (stepCells o).toArray by rw [← e]]
  rfl
end
end Go.Proofs.YtddpjahoeldleaaGreatDoor
