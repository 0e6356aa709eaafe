/- get: the number that bytes denote, read from the last byte on. -/
import Derived.Test.YtddpjahoeldleaaGreatDoorSmall
import Derived.RangeFuncNested
import Derived.RangeFuncFrom
import Derived.IntWalk
import Derived.RangeFuncBound
import Derived.RangeFuncCalls
import Derived.RangeFuncLeaves
import Derived.Shelf.Abstract
import Derived.Shelf.RegionOpen
import Derived.OwnWalkIn
import Derived.TacticsInMore
import Derived.LoopNIn
import Derived.LoopIn
namespace Go.Proofs.YtddpjahoeldleaaGreatDoor
open Go.RowKit Go.Shelf
attribute [local go_sem] Oper.semAt_some

/-- what a round keeps: what lay below n₀, and the box of the slice -/
def KpB (n₀ q : Nat) (W W' : World) : Prop := Below n₀ W W' ∧ W'.heap[q]? = W.heap[q]?
theorem KpB.refl (n₀ q : Nat) (W : World) : KpB n₀ q W W := ⟨Below.refl _ _, rfl⟩
theorem KpB.trans {n₀ q : Nat} {A B C : World} (h : KpB n₀ q A B) (k : KpB n₀ q B C) : KpB n₀ q A C := ⟨h.1.trans k.1, k.2.trans h.2⟩
theorem KpB.put {n₀ q : Nat} {w W : World} {l : Nat} {o o' : Obj} (h1 : n₀ ≤ w.heap.size) (h2 : q < w.heap.size) (hl : w.heap.size ≤ l) (hg : W.heap[l]? = some o) (hc : o.isCells = false) (hw : o.isWalk = false) : KpB n₀ q W (W.putObj l o') :=
  ⟨belowK_b (w := w) h1 W l o o' hl hg hc hw, by simp [World.putObj, show l ≠ q by omega]⟩
theorem KpB.cell {n₀ q : Nat} {W W' : World} (h : KpB n₀ q W W') (i : Nat) : W'.cell? ⟨q, i, none⟩ = W.cell? ⟨q, i, none⟩ := World.cell?_of_block (w := W) h.2
/-- the bytes of a slice read as values -/
theorem Rd.byteL {w : World} {B : Nat} {A : Option Addr} {n : Nat} {b : Bs} (h : Rd w B 1 A n (byteCells b)) {k : Nat} (hk : k < b.length) : ∃ g off, A = some ⟨g, off, none⟩ ∧ g < B ∧ w.cell? ⟨g, off + k, none⟩ = some (.int .u8 (b[k].toNat : Int)) := by
  have hl : b.length = n := by have := h.1; rw [byteCells_len] at this; omega
  obtain ⟨g, off, u, e, hb, hu, hc⟩ := h.at1 (k := k) (by omega)
  refine ⟨g, off, e, hb, ?_⟩
  rw [hc]
  rw [byteCells, List.getElem?_map, List.getElem?_eq_getElem hk] at hu
  exact hu.symm

set_option maxRecDepth 100000 in
set_option maxHeartbeats 2000000 in
theorem back1_in (F : Fence) (n : Nat) (h7 : F.fn 103) (hro : F.round = none) (hn : 1 ≤ n) (l q n₀ : Nat) (A : Option Addr) (m c : Nat) (b : Bs) (hm : b.length = m) (hm4 : m ≤ 4) (J Jx : List (Nat × UInt8) → World → Prop)
    (hY : ∀ pre x W, J pre W → pre.length < m → YieldAt F (n - 1) Tryz.prog l #[.int .i64 (x.1 : Int), .int .u8 (x.2.toNat : Int)] W fun e W' =>
      (e = .returned (.bool true) ∧ J (pre ++ [x]) W' ∧ KpB n₀ q W W') ∨ (e = .returned (.bool false) ∧ Jx (pre ++ [x]) W'))
    (W : World) (hBs : W.cell? ⟨q, 0, none⟩ = some (.slice A m c)) (hR : Rd W n₀ 1 A m (byteCells b)) (h0 : J [] W) :
    CallsIn F n Tryz.prog 103 #[.func (.yield l) #[] #[], .pointer (some ⟨q, 0, none⟩)] W fun e W' => (∃ v, e = .returned v) ∧
      ((∃ ys : List (Nat × UInt8), ys.map Prod.snd = b.reverse ∧ J ys W') ∨ (∃ pre : List (Nat × UInt8), True ∧ Jx pre W')) := by
  refine callsIn_of_wp Tryz.func103 rfl h7 ?_ hro
  simp only [Tryz.ntmps103, List.size_toArray, List.length_cons, List.length_nil, Nat.reduceAdd, Nat.reduceSub, Array.replicate_succ, Array.replicate_zero, List.push_toArray, List.append_toArray, List.nil_append, List.cons_append]
  gi_wp2
  gi_loopw [3] (fun i wr => ∃ (k : Nat) (pre : List (Nat × UInt8)), k ≤ m ∧ i = .int .i64 ((k : Int) - 1) ∧ pre.map Prod.snd = (b.drop k).reverse ∧ J pre wr ∧ KpB n₀ q W wr) (fun i _ => (intOf i + 1).toNat)
  case atStart => exact ⟨m, [], Nat.le_refl _, by go_num, by rw [List.drop_of_length_le (by omega)]; rfl, h0, KpB.refl _ _ _⟩
  case round =>
    obtain ⟨k, pre, hk, rfl, hpre, hJs, hnx⟩ := hrel
    have hbx : wr.cell? ⟨q, 0, none⟩ = some (.slice A m c) := (hnx.cell 0).trans hBs
    by_cases h00 : k = 0
    · subst h00
      gi_wp2
      go_end0
      exact ⟨⟨_, rfl⟩, .inl ⟨pre, by rw [hpre, List.drop_zero], hJs⟩⟩
    · obtain ⟨j, rfl⟩ : ∃ j, k = j + 1 := ⟨k - 1, by omega⟩
      have hj : j < b.length := by omega
      obtain ⟨g, off, rfl, hgl, hcell⟩ := hR.byteL hj
      have hcx : wr.cell? ⟨g, off + j, none⟩ = some (.int .u8 (b[j].toNat : Int)) := (hnx.1.cell (p := ⟨g, off + j, none⟩) hgl).trans hcell
      have hlen : pre.length < m := by
        have := congrArg List.length hpre
        rw [List.length_map, List.length_reverse, List.length_drop] at this
        omega
      obtain ⟨fn, tmps, assign, body, hy, hRy⟩ := hY pre (j, b[j]) wr hJs hlen
      dsimp only at hy
      have HP := Lib.hid (show (pre ++ [(j, b[j])]).map Prod.snd = (b.drop j).reverse by rw [List.map_append, hpre, List.drop_eq_getElem_cons hj, List.reverse_cons]; rfl)
      obtain ⟨x, hx⟩ : ∃ x, x = b[j] := ⟨_, rfl⟩
      rw [← hx] at HP hcx hy hRy
      have e1 : ((j + 1 : Nat) : Int) - 1 = (j : Int) := by omega
      rw [e1]
      have j0 : (0 : Int) ≤ (j : Int) := by omega
      have j1 : (j : Int) < (m : Int) := by omega
      have HR := Lib.hid hR
      clear hpre hR hcell hx e1
      gi_wp2
      refine hRy.mono ?_
      rintro e W3 (⟨rfl, hJ3, hk3⟩ | ⟨rfl, hJx3⟩)
      · gi_wp2
        go_roundw
        case rel => exact ⟨j, _, by omega, by go_num, HP.out, hJ3, hnx.trans hk3⟩
        case measure => simp [intOf]
      · gi_wp2
        refine bodyPost_ret (results_none rfl _ _ _) rfl ?_
        exact ⟨⟨_, rfl⟩, .inr ⟨_, trivial, hJx3⟩⟩

theorem back_in (F : Fence) (n : Nat) (h5 : F.fn 95) (hro : F.round = none) (a : Option Addr) (len cap : Nat) (w : World) :
    CallsIn F n Tryz.prog 95 #[.slice a len cap] w fun e w' => e = .returned (.func (.func 103) #[] #[.pointer (some ⟨w.heap.size, 0, none⟩)]) ∧ w' = w.alloc (.cells #[.slice a len cap] 84) := by
  refine callsIn_of_wp Tryz.func95 rfl h5 ?_ hro
  simp only [Tryz.ntmps95, List.size_toArray, List.length_cons, List.length_nil, Nat.reduceAdd, Nat.reduceSub, Array.replicate_succ, Array.replicate_zero, List.push_toArray, List.append_toArray, List.nil_append, List.cons_append]
  gi_wp2
  go_ret
  exact ⟨rfl, rfl⟩
theorem back_stops (F : Fence) (n : Nat) (h7 : F.fn 103) (hro : F.round = none) (hn : 1 ≤ n) (q n₀ : Nat) (A : Option Addr) (m c : Nat) (b : Bs) (hm : b.length = m) (hm4 : m ≤ 4) (w : World) (hq : q < w.heap.size) (hn₀ : n₀ ≤ w.heap.size)
    (hBs : w.cell? ⟨q, 0, none⟩ = some (.slice A m c)) (hR : Rd w n₀ 1 A m (byteCells b)) :
    SeqStopsK F n Tryz.prog 103 #[.pointer (some ⟨q, 0, none⟩)] (fun x : Nat × UInt8 => #[Value.int .i64 (x.1 : Int), Value.int .u8 (x.2.toNat : Int)]) (KpB n₀ q) (fun ys => ys.map Prod.snd = b.reverse) (fun _ => True) m w := fun l J Jx W hW _ _ hY h0 =>
  back1_in F n h7 hro hn l q n₀ A m c b hm hm4 J Jx hY W ((hW.cell (p := ⟨q, 0, none⟩) hq).trans hBs) (hR.below (hW.mono hn₀)) h0

def accN (pre : List (Nat × UInt8)) : Nat := pre.foldl (fun a x => a * 256 + x.2.toNat) 0
theorem accN_snoc (pre : List (Nat × UInt8)) (x : Nat × UInt8) : accN (pre ++ [x]) = accN pre * 256 + x.2.toNat := by simp [accN]
theorem accN_lt : ∀ (pre : List (Nat × UInt8)) (a : Nat), pre.foldl (fun a x => a * 256 + x.2.toNat) a < (a + 1) * 256 ^ pre.length
  | [], a => by simp
  | x :: r, a => by
    have := accN_lt r (a * 256 + x.2.toNat)
    have hx := x.2.toNat_lt
    rw [List.foldl_cons, List.length_cons, Nat.pow_succ, Nat.mul_comm (256 ^ r.length) 256, ← Nat.mul_assoc]
    exact Nat.lt_of_lt_of_le this (Nat.mul_le_mul_right _ (by omega))
theorem accN_bound {pre : List (Nat × UInt8)} (h : pre.length < 4) : accN pre < 16777216 := by
  have := accN_lt pre 0
  rw [Nat.zero_add, Nat.one_mul] at this
  exact Nat.lt_of_lt_of_le this (Nat.pow_le_pow_right (by decide) (by omega : pre.length ≤ 3))
theorem accN_num : ∀ (b : Bs) (ys : List (Nat × UInt8)), ys.map Prod.snd = b.reverse → accN ys = numB b := by
  intro b ys h
  have : accN ys = (ys.map Prod.snd).foldl (fun a (x : UInt8) => a * 256 + x.toNat) 0 := by rw [List.foldl_map]; rfl
  rw [this, h, List.foldl_reverse]
  clear h this
  induction b with
  | nil => rfl
  | cons x r ih => rw [List.foldr_cons, ih, numB]; omega
theorem shl_or8 (a : Nat) (x : UInt8) (h : a < 16777216) : bits .or .i64 ((a * 256 : Nat) : Int) (x.toNat : Int) = ((a * 256 + x.toNat : Nat) : Int) := by
  have hx := x.toNat_lt
  have h1 : BitVec.ofInt 64 ((a * 256 : Nat) : Int) = BitVec.ofNat 64 (a * 256) := by apply BitVec.eq_of_toNat_eq; rw [BitVec.ofInt_natCast]
  have h2 : BitVec.ofInt 64 (x.toNat : Int) = BitVec.ofNat 64 x.toNat := by apply BitVec.eq_of_toNat_eq; rw [BitVec.ofInt_natCast]
  have h3 : bits .or .i64 ((a * 256 : Nat) : Int) (x.toNat : Int) = IntKind.i64.wrap ((BitVec.ofInt 64 ((a * 256 : Nat) : Int) ||| BitVec.ofInt 64 (x.toNat : Int)).toNat : Int) := rfl
  rw [h3, h1, h2, BitVec.toNat_or, BitVec.toNat_ofNat, BitVec.toNat_ofNat, Nat.mod_eq_of_lt (by omega), Nat.mod_eq_of_lt (by omega)]
  have h4 : a * 256 ||| x.toNat = a * 256 + x.toNat := by
    have := Nat.two_pow_add_eq_or_of_lt (i := 8) (b := x.toNat) (by omega) a
    rw [Nat.mul_comm] at this
    exact this.symm
  rw [h4]
  exact IntWalk.i64_in _ (by omega)

set_option maxRecDepth 100000 in
set_option maxHeartbeats 2000000 in
theorem get_any (A : Option Addr) (c : Nat) (b : Bs) (w : World) (m : Nat) (hm : b.length = m) (hm4 : m ≤ 4) (h : Rd w w.heap.size 1 A m (byteCells b)) :
    Calls Tryz.prog 76 #[.slice A m c] w (RetB (.int .i64 (numB b : Int)) w) := by
  refine (callsIn_wide (n := 6)).1 ?_
  have hF : Fence.wide.fn 103 := trivial
  have hF0 : Fence.wide.fn 95 := trivial
  refine callsIn_of_wp_marks Tryz.func76 rfl trivial ?_ rfl
  simp only [Tryz.ntmps76, List.size_toArray, List.length_cons, List.length_nil, Nat.reduceAdd, Nat.reduceSub, Array.replicate_succ, Array.replicate_zero, List.push_toArray, List.append_toArray, List.nil_append, List.cons_append]
  gi_wp2_with (gi_at_call 95; refine (back_in Fence.wide (6 - 1) hF0 rfl _ _ _ _).mono ?_; rintro e w' ⟨rfl, rfl⟩)
  obtain ⟨W0, hW0⟩ : ∃ W0, (w.alloc (.cells #[.int .i64 0] 3)).alloc (.cells #[.slice A m c] 84) = W0 := ⟨_, rfl⟩
  have hsz : W0.heap.size = w.heap.size + 2 := by rw [← hW0]; simp
  have bN : Boxed W0 w.heap.size 3 (.int .i64 0) := by rw [← hW0]; exact (Boxed.new w 3 (.int .i64 0)).alloc _
  have bS : W0.cell? ⟨w.heap.size + 1, 0, none⟩ = some (.slice A m c) := by
    rw [← hW0]
    have := (Boxed.new (w.alloc (.cells #[.int .i64 0] 3)) 84 (.slice A m c)).cell
    rwa [World.size_alloc] at this
  have hB0 : Below w.heap.size w W0 := by rw [← hW0]; exact ((Below.refl _ w).alloc (Nat.le_refl _) _).alloc (by simp) _
  rw [hW0]
  clear hW0
  have h1 : 1 ≤ 6 := by omega
  refine wpIn_rangeFunc_ownF (w0 := W0) rfl h1 (gf := 103) (lb := #[.pointer (some ⟨w.heap.size + 1, 0, none⟩)]) rfl hF (enters_of Tryz.func103 (by kernel_rfl) rfl)
    (back_stops Fence.wide (6 - 1) hF rfl (by omega) (w.heap.size + 1) w.heap.size A m c b hm hm4 W0 (by omega) (by omega) bS (h.below hB0)) (fun h k => h.trans k) (fun W l o o' hl hg hc hw => KpB.put (w := W0) (by omega) (by omega) hl hg hc hw) (Below.refl _ _) (fun _ => rfl)
    (fun pre W => Boxed W w.heap.size 3 (.int .i64 (accN pre : Int)) ∧ Below w.heap.size w W)
    (fun _ _ _ => False)
    (OwnFrom.and (Own.from (boxed_own _ _ _) _) (ownFrom_below (Nat.le_refl _) (by omega)))
    (fun _ _ _ _ _ hs _ _ => hs)
    ⟨bN, hB0⟩
    (fun x => { tmps := #[.slice A m c, undef, .int .i64 0, .pointer (some ⟨w.heap.size, 0, none⟩), undef, .int .u8 (x.2.toNat : Int), .slice A m c, .func (.func 103) #[] #[.pointer (some ⟨w.heap.size + 1, 0, none⟩)], .int .i64 (x.1 : Int), .int .u8 (x.2.toNat : Int), undef, undef, undef, undef, undef, undef], defers := [] }) ?assign ?body ?done ?stop
  case assign =>
    intro l x W K hK
    gi_wp2
    exact hK
  case body =>
    rintro l pre x W ⟨bN1, hB1⟩ hlen
    have cN := bN1.cell
    have fN := bN1.frozen
    have HS := Lib.hid (accN_snoc pre x)
    have hb := accN_bound (pre := pre) (by omega)
    have HB := Lib.hid bN1
    have HB1 := Lib.hid hB1
    generalize accN pre = a at *
    generalize x.2 = y at *
    have e1 : IntKind.i64.wrap ((a : Int) * 256) = ((a * 256 : Nat) : Int) := by rw [IntWalk.i64_in _ (by omega)]; omega
    have e2 := shl_or8 a y hb
    clear bN1 hB1
    have e3 : bits .or .i64 ((a : Int) * 256) (wrap64 (y.toNat : Int)) = ((a * 256 + y.toNat : Nat) : Int) := by
      have hy := y.toNat_lt
      rw [show wrap64 (y.toNat : Int) = (y.toNat : Int) from IntWalk.wrap64_in _ (by omega), show (a : Int) * 256 = ((a * 256 : Nat) : Int) by omega]
      exact e2
    have HE := Lib.hid e3
    clear e3 e2 hb
    gi_wp2
    rw [HE.out]
    exact ⟨KeepsOthers.setCell _ _ _, ⟨(Below.refl _ W).setCell (p := ⟨w.heap.size, 0, none⟩) (Nat.le_refl _) _, Below.heap_setCell _ _ _ _ (by show w.heap.size + 1 ≠ w.heap.size; omega)⟩, by rw [HS.out]; exact HB.out.set _, HB1.out.setCell (p := ⟨w.heap.size, 0, none⟩) (Nat.le_refl _) _⟩
  case done =>
    rintro D ys W hD hys ⟨bN1, hB1⟩ hK
    have cN := bN1.cell
    have HN := Lib.hid (accN_num b ys hys)
    gi_wp2
    refine ⟨by simp, .inl ⟨_, _, rfl, run_takeDeferred hK, ?_⟩⟩
    exact ⟨_, results_tmp rfl _ _ _, by rw [HN.out]; rfl, hB1.trans (belowK_b (w := w) (Nat.le_refl _) W D _ _ (by omega) hK rfl rfl)⟩
  case stop =>
    rintro D c pre W _ _ h _
    exact h.elim
end Go.Proofs.YtddpjahoeldleaaGreatDoor
