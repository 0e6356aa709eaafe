/- Contract of Pack. -/
import Derived.Test.YtddpjahoeldleaaGreatDoorMSmall
import Derived.IntWalk
import Derived.RangeFuncNested
import Derived.RangeFuncFrom
import Derived.RangeFuncBound
import Derived.RangeFuncCalls
import Derived.RangeFuncLeaves
import Derived.Shelf.Abstract
import Derived.Shelf.RegionOpen
import Derived.OwnWalkIn
import Derived.TacticsInMore
import Derived.LoopNIn
import Derived.LoopIn
import Derived.Test.YtddpjahoeldleaaGreatDoorMJWrite
import Derived.Laws.CopyRow
import Derived.Deep.MidRow
import Derived.Maps.AppendAt

namespace Go.Proofs.YtddpjahoeldleaaGreatDoor
open Go.RowKit

theorem wrap_byte (x : Nat) : IntKind.u8.wrap (x : Int) = ((UInt8.ofNat (x % 256)).toNat : Int) := by
  rw [← byte_mod]
  have h : IntKind.u8.wrap (x : Int) = (x : Int) % 256 := by
    unfold IntKind.wrap
    simp [IntKind.bits, IntKind.signed]
  exact h

set_option maxHeartbeats 1000000 in
theorem put_any (w : World) (g off C L n : Nat) (T : TypeId) (pre : Bs) (h : Blk w g T (rowB 64 pre)) (hoff : pre.length = off) (hL : off + L ≤ 64) (hn : n ≤ 1000000000) :
    Calls Tryz.prog 91 #[.slice (some ⟨g, off, none⟩) L C, .int .i64 (n : Int)] w (fun e w' => e = .returned (.tuple #[]) ∧ Blk w' g T (rowB 64 (pre ++ leN n L)) ∧ Keep [g] w w') := by
  have HB := Lib.hid h
  clear h
  go_enter Tryz.func91, Tryz.ntmps91
  go_wp2_with fail
  go_loopw [1, 7] (fun x k wr => ∃ j : Nat, j ≤ L ∧ k = .int .i64 j ∧ x = .int .i64 ((n / 256 ^ j : Nat) : Int) ∧ Blk wr g T (rowB 64 (pre ++ leN n j)) ∧ Keep [g] w wr) (fun _ k _ => L - (intOf k).toNat)
  case atStart => exact ⟨0, by omega, rfl, by rw [Nat.pow_zero, Nat.div_one], by rw [leN, List.append_nil]; exact HB.out, Keep.refl _ _⟩
  case round =>
    obtain ⟨j, hj, rfl, rfl, hblk, hk⟩ := hrel
    by_cases hlt : j < L
    · have j0 : (0 : Int) ≤ (j : Int) := by omega
      have j1 : (j : Int) < (L : Int) := by omega
      obtain ⟨x, hx⟩ : ∃ x, x = n / 256 ^ j := ⟨_, rfl⟩
      have hx2 : x ≤ 1000000000 := by rw [hx]; exact Nat.le_trans (Nat.div_le_self _ _) hn
      have HX3 := Lib.hid (show n / 256 ^ (j + 1) = x / 256 by rw [hx, Nat.pow_succ, Nat.div_div_eq_div_mul])
      have HL := Lib.hid (show leN n (j + 1) = leN n j ++ [UInt8.ofNat (x % 256)] by rw [hx]; exact le_snoc j n)
      rw [← hx]
      obtain ⟨y, hy⟩ : ∃ y, y = UInt8.ofNat (x % 256) := ⟨_, rfl⟩
      have hyw : IntKind.u8.wrap (x : Int) = (y.toNat : Int) := by rw [hy]; exact wrap_byte x
      rw [← hy] at HL
      have k0 : (0 : Int) ≤ (x : Int) := by omega
      have hlen : (pre ++ leN n j).length = off + j := by rw [List.length_append, le_len, hoff]
      have hc : wr.cell? ⟨g, off + j, none⟩ = some (.int .u8 0) := by rw [hblk.cell, rowB_zero (by omega) (by omega)]
      have hf : wr.frozen? ⟨g, off + j, none⟩ = false := hblk.frozen _
      have HB2 := Lib.hid (show Blk (wr.setCell ⟨g, off + j, none⟩ (.int .u8 (y.toNat : Int))) g T (rowB 64 (pre ++ leN n (j + 1))) by
        have := hblk.set_ (off + j) (.int .u8 (y.toNat : Int))
        rw [← hlen, rowB_push (by omega), List.append_assoc, ← HL.out, hlen] at this
        exact this)
      have HK2 := Lib.hid (hk.setCell (a := ⟨g, off + j, none⟩) (by simp) (.int .u8 (y.toNat : Int)))
      clear hblk hk hy hx hlen
      go_wp2_with fail
      go_roundw
      case rel => exact ⟨j + 1, by omega, by go_num, by rw [HX3.out]; go_num, HB2.out, HK2.out⟩
      case measure => simp [intOf]; omega
    · obtain rfl : j = L := by omega
      go_wp2_with fail
      go_end0
      exact ⟨rfl, hblk, hk⟩
end Go.Proofs.YtddpjahoeldleaaGreatDoor

namespace Go.Proofs.YtddpjahoeldleaaGreatDoor
open Go.RowKit Go.Shelf
attribute [local go_sem] Oper.semAt_some

/-- what a round keeps: what lay below n₀, and the box of the slice -/
def KpB (n₀ q : Nat) (W W' : World) : Prop := Below n₀ W W' ∧ W'.heap[q]? = W.heap[q]?
theorem KpB.refl (n₀ q : Nat) (W : World) : KpB n₀ q W W := ⟨Below.refl _ _, rfl⟩
theorem KpB.trans {n₀ q : Nat} {A B C : World} (h : KpB n₀ q A B) (k : KpB n₀ q B C) : KpB n₀ q A C := ⟨h.1.trans k.1, k.2.trans h.2⟩
theorem KpB.put {n₀ q : Nat} {w W : World} {l : Nat} {o o' : Obj} (h1 : n₀ ≤ w.heap.size) (h2 : q < w.heap.size) (hl : w.heap.size ≤ l) (hg : W.heap[l]? = some o) (hc : o.isCells = false) (hw : o.isWalk = false) : KpB n₀ q W (W.putObj l o') :=
  ⟨belowK_b (w := w) h1 W l o o' hl hg hc hw, by simp [World.putObj, show l ≠ q by omega]⟩
theorem KpB.cell {n₀ q : Nat} {W W' : World} (h : KpB n₀ q W W') (i : Nat) : W'.cell? ⟨q, i, none⟩ = W.cell? ⟨q, i, none⟩ := World.cell?_of_block (w := W) h.2
/-- the bytes of a slice read as values -/
theorem Rd.byteL {w : World} {B : Nat} {A : Option Addr} {n : Nat} {b : Bs} (h : Rd w B 1 A n (byteCells b)) {k : Nat} (hk : k < b.length) : ∃ g off, A = some ⟨g, off, none⟩ ∧ g < B ∧ w.cell? ⟨g, off + k, none⟩ = some (.int .u8 (b[k].toNat : Int)) := by
  have hl : b.length = n := by have := h.1; rw [byteCells_len] at this; omega
  obtain ⟨g, off, u, e, hb, hu, hc⟩ := h.at1 (k := k) (by omega)
  refine ⟨g, off, e, hb, ?_⟩
  rw [hc]
  rw [byteCells, List.getElem?_map, List.getElem?_eq_getElem hk] at hu
  exact hu.symm

set_option maxRecDepth 100000 in
set_option maxHeartbeats 2000000 in
theorem back1_in (F : Fence) (n : Nat) (h7 : F.fn 103) (hro : F.round = none) (hn : 1 ≤ n) (l q n₀ : Nat) (A : Option Addr) (m c : Nat) (b : Bs) (hm : b.length = m) (hm4 : m ≤ 4) (J Jx : List (Nat × UInt8) → World → Prop)
    (hY : ∀ pre x W, J pre W → pre.length < m → YieldAt F (n - 1) Tryz.prog l #[.int .i64 (x.1 : Int), .int .u8 (x.2.toNat : Int)] W fun e W' =>
      (e = .returned (.bool true) ∧ J (pre ++ [x]) W' ∧ KpB n₀ q W W') ∨ (e = .returned (.bool false) ∧ Jx (pre ++ [x]) W'))
    (W : World) (hBs : W.cell? ⟨q, 0, none⟩ = some (.slice A m c)) (hR : Rd W n₀ 1 A m (byteCells b)) (h0 : J [] W) :
    CallsIn F n Tryz.prog 103 #[.func (.yield l) #[] #[], .pointer (some ⟨q, 0, none⟩)] W fun e W' => (∃ v, e = .returned v) ∧
      ((∃ ys : List (Nat × UInt8), ys.map Prod.snd = b.reverse ∧ J ys W') ∨ (∃ pre : List (Nat × UInt8), True ∧ Jx pre W')) := by
  refine callsIn_of_wp Tryz.func103 rfl h7 ?_ hro
  simp only [Tryz.ntmps103, List.size_toArray, List.length_cons, List.length_nil, Nat.reduceAdd, Nat.reduceSub, Array.replicate_succ, Array.replicate_zero, List.push_toArray, List.append_toArray, List.nil_append, List.cons_append]
  gi_wp2
  gi_loopw [3] (fun i wr => ∃ (k : Nat) (pre : List (Nat × UInt8)), k ≤ m ∧ i = .int .i64 ((k : Int) - 1) ∧ pre.map Prod.snd = (b.drop k).reverse ∧ J pre wr ∧ KpB n₀ q W wr) (fun i _ => (intOf i + 1).toNat)
  case atStart => exact ⟨m, [], Nat.le_refl _, by go_num, by rw [List.drop_of_length_le (by omega)]; rfl, h0, KpB.refl _ _ _⟩
  case round =>
    obtain ⟨k, pre, hk, rfl, hpre, hJs, hnx⟩ := hrel
    have hbx : wr.cell? ⟨q, 0, none⟩ = some (.slice A m c) := (hnx.cell 0).trans hBs
    by_cases h00 : k = 0
    · subst h00
      gi_wp2
      go_end0
      exact ⟨⟨_, rfl⟩, .inl ⟨pre, by rw [hpre, List.drop_zero], hJs⟩⟩
    · obtain ⟨j, rfl⟩ : ∃ j, k = j + 1 := ⟨k - 1, by omega⟩
      have hj : j < b.length := by omega
      obtain ⟨g, off, rfl, hgl, hcell⟩ := hR.byteL hj
      have hcx : wr.cell? ⟨g, off + j, none⟩ = some (.int .u8 (b[j].toNat : Int)) := (hnx.1.cell (p := ⟨g, off + j, none⟩) hgl).trans hcell
      have hlen : pre.length < m := by
        have := congrArg List.length hpre
        rw [List.length_map, List.length_reverse, List.length_drop] at this
        omega
      obtain ⟨fn, tmps, assign, body, hy, hRy⟩ := hY pre (j, b[j]) wr hJs hlen
      dsimp only at hy
      have HP := Lib.hid (show (pre ++ [(j, b[j])]).map Prod.snd = (b.drop j).reverse by rw [List.map_append, hpre, List.drop_eq_getElem_cons hj, List.reverse_cons]; rfl)
      obtain ⟨x, hx⟩ : ∃ x, x = b[j] := ⟨_, rfl⟩
      rw [← hx] at HP hcx hy hRy
      have e1 : ((j + 1 : Nat) : Int) - 1 = (j : Int) := by omega
      rw [e1]
      have j0 : (0 : Int) ≤ (j : Int) := by omega
      have j1 : (j : Int) < (m : Int) := by omega
      have HR := Lib.hid hR
      clear hpre hR hcell hx e1
      gi_wp2
      refine hRy.mono ?_
      rintro e W3 (⟨rfl, hJ3, hk3⟩ | ⟨rfl, hJx3⟩)
      · gi_wp2
        go_roundw
        case rel => exact ⟨j, _, by omega, by go_num, HP.out, hJ3, hnx.trans hk3⟩
        case measure => simp [intOf]
      · gi_wp2
        refine bodyPost_ret (results_none rfl _ _ _) rfl ?_
        exact ⟨⟨_, rfl⟩, .inr ⟨_, trivial, hJx3⟩⟩

theorem back_in (F : Fence) (n : Nat) (h5 : F.fn 95) (hro : F.round = none) (a : Option Addr) (len cap : Nat) (w : World) :
    CallsIn F n Tryz.prog 95 #[.slice a len cap] w fun e w' => e = .returned (.func (.func 103) #[] #[.pointer (some ⟨w.heap.size, 0, none⟩)]) ∧ w' = w.alloc (.cells #[.slice a len cap] 84) := by
  refine callsIn_of_wp Tryz.func95 rfl h5 ?_ hro
  simp only [Tryz.ntmps95, List.size_toArray, List.length_cons, List.length_nil, Nat.reduceAdd, Nat.reduceSub, Array.replicate_succ, Array.replicate_zero, List.push_toArray, List.append_toArray, List.nil_append, List.cons_append]
  gi_wp2
  go_ret
  exact ⟨rfl, rfl⟩
theorem back_stops (F : Fence) (n : Nat) (h7 : F.fn 103) (hro : F.round = none) (hn : 1 ≤ n) (q n₀ : Nat) (A : Option Addr) (m c : Nat) (b : Bs) (hm : b.length = m) (hm4 : m ≤ 4) (w : World) (hq : q < w.heap.size) (hn₀ : n₀ ≤ w.heap.size)
    (hBs : w.cell? ⟨q, 0, none⟩ = some (.slice A m c)) (hR : Rd w n₀ 1 A m (byteCells b)) :
    SeqStopsK F n Tryz.prog 103 #[.pointer (some ⟨q, 0, none⟩)] (fun x : Nat × UInt8 => #[Value.int .i64 (x.1 : Int), Value.int .u8 (x.2.toNat : Int)]) (KpB n₀ q) (fun ys => ys.map Prod.snd = b.reverse) (fun _ => True) m w := fun l J Jx W hW _ _ hY h0 =>
  back1_in F n h7 hro hn l q n₀ A m c b hm hm4 J Jx hY W ((hW.cell (p := ⟨q, 0, none⟩) hq).trans hBs) (hR.below (hW.mono hn₀)) h0

def accN (pre : List (Nat × UInt8)) : Nat := pre.foldl (fun a x => a * 256 + x.2.toNat) 0
theorem accN_snoc (pre : List (Nat × UInt8)) (x : Nat × UInt8) : accN (pre ++ [x]) = accN pre * 256 + x.2.toNat := by simp [accN]
theorem accN_lt : ∀ (pre : List (Nat × UInt8)) (a : Nat), pre.foldl (fun a x => a * 256 + x.2.toNat) a < (a + 1) * 256 ^ pre.length
  | [], a => by simp
  | x :: r, a => by
    have := accN_lt r (a * 256 + x.2.toNat)
    have hx := x.2.toNat_lt
    rw [List.foldl_cons, List.length_cons, Nat.pow_succ, Nat.mul_comm (256 ^ r.length) 256, ← Nat.mul_assoc]
    exact Nat.lt_of_lt_of_le this (Nat.mul_le_mul_right _ (by omega))
theorem accN_bound {pre : List (Nat × UInt8)} (h : pre.length < 4) : accN pre < 16777216 := by
  have := accN_lt pre 0
  rw [Nat.zero_add, Nat.one_mul] at this
  exact Nat.lt_of_lt_of_le this (Nat.pow_le_pow_right (by decide) (by omega : pre.length ≤ 3))
theorem accN_num : ∀ (b : Bs) (ys : List (Nat × UInt8)), ys.map Prod.snd = b.reverse → accN ys = numB b := by
  intro b ys h
  have : accN ys = (ys.map Prod.snd).foldl (fun a (x : UInt8) => a * 256 + x.toNat) 0 := by rw [List.foldl_map]; rfl
  rw [this, h, List.foldl_reverse]
  clear h this
  induction b with
  | nil => rfl
  | cons x r ih => rw [List.foldr_cons, ih, numB]; omega
theorem shl_or8 (a : Nat) (x : UInt8) (h : a < 16777216) : bits .or .i64 ((a * 256 : Nat) : Int) (x.toNat : Int) = ((a * 256 + x.toNat : Nat) : Int) := by
  have hx := x.toNat_lt
  have h1 : BitVec.ofInt 64 ((a * 256 : Nat) : Int) = BitVec.ofNat 64 (a * 256) := by apply BitVec.eq_of_toNat_eq; rw [BitVec.ofInt_natCast]
  have h2 : BitVec.ofInt 64 (x.toNat : Int) = BitVec.ofNat 64 x.toNat := by apply BitVec.eq_of_toNat_eq; rw [BitVec.ofInt_natCast]
  have h3 : bits .or .i64 ((a * 256 : Nat) : Int) (x.toNat : Int) = IntKind.i64.wrap ((BitVec.ofInt 64 ((a * 256 : Nat) : Int) ||| BitVec.ofInt 64 (x.toNat : Int)).toNat : Int) := rfl
  rw [h3, h1, h2, BitVec.toNat_or, BitVec.toNat_ofNat, BitVec.toNat_ofNat, Nat.mod_eq_of_lt (by omega), Nat.mod_eq_of_lt (by omega)]
  have h4 : a * 256 ||| x.toNat = a * 256 + x.toNat := by
    have := Nat.two_pow_add_eq_or_of_lt (i := 8) (b := x.toNat) (by omega) a
    rw [Nat.mul_comm] at this
    exact this.symm
  rw [h4]
  exact IntWalk.i64_in _ (by omega)

set_option maxRecDepth 100000 in
set_option maxHeartbeats 2000000 in
theorem get_any (A : Option Addr) (c : Nat) (b : Bs) (w : World) (m : Nat) (hm : b.length = m) (hm4 : m ≤ 4) (h : Rd w w.heap.size 1 A m (byteCells b)) :
    Calls Tryz.prog 76 #[.slice A m c] w (RetB (.int .i64 (numB b : Int)) w) := by
  refine (callsIn_wide (n := 6)).1 ?_
  have hF : Fence.wide.fn 103 := trivial
  have hF0 : Fence.wide.fn 95 := trivial
  refine callsIn_of_wp_marks Tryz.func76 rfl trivial ?_ rfl
  simp only [Tryz.ntmps76, List.size_toArray, List.length_cons, List.length_nil, Nat.reduceAdd, Nat.reduceSub, Array.replicate_succ, Array.replicate_zero, List.push_toArray, List.append_toArray, List.nil_append, List.cons_append]
  gi_wp2_with (gi_at_call 95; refine (back_in Fence.wide (6 - 1) hF0 rfl _ _ _ _).mono ?_; rintro e w' ⟨rfl, rfl⟩)
  obtain ⟨W0, hW0⟩ : ∃ W0, (w.alloc (.cells #[.int .i64 0] 3)).alloc (.cells #[.slice A m c] 84) = W0 := ⟨_, rfl⟩
  have hsz : W0.heap.size = w.heap.size + 2 := by rw [← hW0]; simp
  have bN : Boxed W0 w.heap.size 3 (.int .i64 0) := by rw [← hW0]; exact (Boxed.new w 3 (.int .i64 0)).alloc _
  have bS : W0.cell? ⟨w.heap.size + 1, 0, none⟩ = some (.slice A m c) := by
    rw [← hW0]
    have := (Boxed.new (w.alloc (.cells #[.int .i64 0] 3)) 84 (.slice A m c)).cell
    rwa [World.size_alloc] at this
  have hB0 : Below w.heap.size w W0 := by rw [← hW0]; exact ((Below.refl _ w).alloc (Nat.le_refl _) _).alloc (by simp) _
  rw [hW0]
  clear hW0
  have h1 : 1 ≤ 6 := by omega
  refine wpIn_rangeFunc_ownF (w0 := W0) rfl h1 (gf := 103) (lb := #[.pointer (some ⟨w.heap.size + 1, 0, none⟩)]) rfl hF (enters_of Tryz.func103 (by kernel_rfl) rfl)
    (back_stops Fence.wide (6 - 1) hF rfl (by omega) (w.heap.size + 1) w.heap.size A m c b hm hm4 W0 (by omega) (by omega) bS (h.below hB0)) (fun h k => h.trans k) (fun W l o o' hl hg hc hw => KpB.put (w := W0) (by omega) (by omega) hl hg hc hw) (Below.refl _ _) (fun _ => rfl)
    (fun pre W => Boxed W w.heap.size 3 (.int .i64 (accN pre : Int)) ∧ Below w.heap.size w W)
    (fun _ _ _ => False)
    (OwnFrom.and (Own.from (boxed_own _ _ _) _) (ownFrom_below (Nat.le_refl _) (by omega)))
    (fun _ _ _ _ _ hs _ _ => hs)
    ⟨bN, hB0⟩
    (fun x => { tmps := #[.slice A m c, undef, .int .i64 0, .pointer (some ⟨w.heap.size, 0, none⟩), undef, .int .u8 (x.2.toNat : Int), .slice A m c, .func (.func 103) #[] #[.pointer (some ⟨w.heap.size + 1, 0, none⟩)], .int .i64 (x.1 : Int), .int .u8 (x.2.toNat : Int), undef, undef, undef, undef, undef, undef], defers := [] }) ?assign ?body ?done ?stop
  case assign =>
    intro l x W K hK
    gi_wp2
    exact hK
  case body =>
    rintro l pre x W ⟨bN1, hB1⟩ hlen
    have cN := bN1.cell
    have fN := bN1.frozen
    have HS := Lib.hid (accN_snoc pre x)
    have hb := accN_bound (pre := pre) (by omega)
    have HB := Lib.hid bN1
    have HB1 := Lib.hid hB1
    generalize accN pre = a at *
    generalize x.2 = y at *
    have e1 : IntKind.i64.wrap ((a : Int) * 256) = ((a * 256 : Nat) : Int) := by rw [IntWalk.i64_in _ (by omega)]; omega
    have e2 := shl_or8 a y hb
    clear bN1 hB1
    have e3 : bits .or .i64 ((a : Int) * 256) (wrap64 (y.toNat : Int)) = ((a * 256 + y.toNat : Nat) : Int) := by
      have hy := y.toNat_lt
      rw [show wrap64 (y.toNat : Int) = (y.toNat : Int) from IntWalk.wrap64_in _ (by omega), show (a : Int) * 256 = ((a * 256 : Nat) : Int) by omega]
      exact e2
    have HE := Lib.hid e3
    clear e3 e2 hb
    gi_wp2
    rw [HE.out]
    exact ⟨KeepsOthers.setCell _ _ _, ⟨(Below.refl _ W).setCell (p := ⟨w.heap.size, 0, none⟩) (Nat.le_refl _) _, Below.heap_setCell _ _ _ _ (by show w.heap.size + 1 ≠ w.heap.size; omega)⟩, by rw [HS.out]; exact HB.out.set _, HB1.out.setCell (p := ⟨w.heap.size, 0, none⟩) (Nat.le_refl _) _⟩
  case done =>
    rintro D ys W hD hys ⟨bN1, hB1⟩ hK
    have cN := bN1.cell
    have HN := Lib.hid (accN_num b ys hys)
    gi_wp2
    refine ⟨by simp, .inl ⟨_, _, rfl, run_takeDeferred hK, ?_⟩⟩
    exact ⟨_, results_tmp rfl _ _ _, by rw [HN.out]; rfl, hB1.trans (belowK_b (w := w) (Nat.le_refl _) W D _ _ (by omega) hK rfl rfl)⟩
  case stop =>
    rintro D c pre W _ _ h _
    exact h.elim
end Go.Proofs.YtddpjahoeldleaaGreatDoor

namespace Go.Proofs.YtddpjahoeldleaaGreatDoor
open Go.RowKit Go.Shelf
attribute [local go_sem] Oper.semAt_some

section
variable {F : Fence} {n : Nat} {P : Program} {ops : Array Oper} {rest : List Oper} {o : Oper} {a : Act} {w : World} {Q : Exit → Act → World → Prop}
theorem wpListIn_store_row (hgd : o.guard = none) (ty : TypeId) (x y : Operand) (ho : o.op = .store ty x y)
    (g : Nat) (cells : Array Value) (hx : a.eval x = .pointer (some ⟨g, 0, none⟩)) (hy : a.eval y = .agg cells)
    (t : TypeId) (old : Array Value) (hg : w.heap[g]? = some (.cells old t (0, 0))) (hi : (P.info? ty).map (·.size) = some cells.size)
    (hold : old.size = cells.size) (h1 : cells.all (·.oneCell') = true)
    (h : wpListIn F n P ops Q rest (a.put o.dst undef) (w.setRow g cells)) : wpListIn F n P ops Q (o :: rest) a w :=
  wpListIn_plain hgd fun _ hK => by
    refine ⟨fun f hf => by simp [Oper.about, ho] at hf, ?_⟩
    rw [Oper.semAt_eq _ _ _ (fun c e => by rw [ho] at e; cases e)]
    unfold execOp
    simp only [ho, hx, hy, Instr.storeAt, Instr.sureAddr, Sem.run_bind, Sem.run_pure, Result.andThen_ok, run_storeVar_row w g t ty old cells hg hi hold h1]
    exact hK _ _ h
theorem wpListIn_load_row (hgd : o.guard = none) (ty : TypeId) (x : Operand) (ho : o.op = .load ty x)
    (g : Nat) (hx : a.eval x = .pointer (some ⟨g, 0, none⟩)) (t : TypeId) (cs : Array Value) (fr : Nat × Nat) (d : TypeDesc) (hg : w.heap[g]? = some (.cells cs t fr))
    (hu : P.underlying ty = some d) (hd : (match d with | .struct _ | .array _ _ => true | _ => false) = true) (hi : (P.info? ty).map (·.size) = some cs.size)
    (h : wpListIn F n P ops Q rest (a.put o.dst (.agg cs)) w) : wpListIn F n P ops Q (o :: rest) a w :=
  wpListIn_plain hgd fun _ hK => by
    refine ⟨fun f hf => by simp [Oper.about, ho] at hf, ?_⟩
    rw [Oper.semAt_eq _ _ _ (fun c e => by rw [ho] at e; cases e)]
    unfold execOp
    simp only [ho, hx, Instr.loadAt, Instr.sureAddr, Sem.run_bind, Sem.run_pure, Result.andThen_ok, run_loadVar_row w g t ty cs fr d hg hu hd hi]
    exact hK _ _ h
end
theorem keep_rowP {F : List Nat} {w w1 : World} (h : Keep F w w1) {g : Nat} (hg : g ∈ F) (cs : Array Value) : Keep F w (w1.setRow g cs) :=
  h.trans ⟨rfl, rfl, rfl, by simp, fun k _ hF => by
    have : k ≠ g := fun e => hF (by rw [e]; exact hg)
    simp [World.setRow, Array.getElem?_modify, Ne.symm this]⟩
theorem Consts.low {B : Nat} {w w' : World} (h : Consts w) (hb : Below B w w') (h2 : 2 < B) : Consts w' := by
  obtain ⟨t', fr', hr'⟩ := h.go
  exact ⟨t', fr', (hb.block _ h2).trans hr'⟩
/-- bytes copied behind a prefix -/
theorem rowB_copy {pre l : Bs} {o m : Nat} (ho : pre.length = o) (hm : m ≤ l.length) : ((rowB 64 pre).toList.take o ++ (byteCells l).take m ++ (rowB 64 pre).toList.drop (o + m)).toArray = rowB 64 (pre ++ l.take m) := by
  have hl : (byteCells pre).length = o := by rw [byteCells_len, ho]
  have e1 : (rowB 64 pre).toList = byteCells pre ++ List.replicate (64 - pre.length) (Value.int .u8 0) := by rw [rowB]
  have e2 : (byteCells l).take m = byteCells (l.take m) := by simp [byteCells, List.map_take]
  rw [e1, List.take_left' hl, ← List.drop_drop, List.drop_left' hl, e2, rowB, byteCells_app, List.drop_replicate, List.length_append, List.length_take, ho, Nat.min_eq_left hm]
  congr 1
  rw [show 64 - (o + m) = 64 - o - m by omega]
theorem rowB_zeros {l : Bs} {z : Nat} (h : l.length + z ≤ 64) : rowB 64 (l ++ List.replicate z 0) = rowB 64 l := by
  have e : byteCells (List.replicate z (0 : UInt8)) = List.replicate z (Value.int .u8 0) := by simp [byteCells]
  rw [rowB, rowB, byteCells_app, e, List.append_assoc, List.replicate_append_replicate, List.length_append, List.length_replicate]
  congr 3
  omega
theorem rd_row {w : World} {q : Nat} {T : TypeId} {s : Bs} {K : Nat} (h : Blk w q T (rowB K s)) {off n : Nat} (hn : off + n ≤ s.length) : Rd w w.heap.size 1 (some ⟨q, off, none⟩) n (byteCells ((s.drop off).take n)) := by
  have hl : ((s.drop off).take n).length = n := by rw [List.length_take, List.length_drop]; omega
  refine ⟨by rw [byteCells_len, hl, Nat.mul_one], fun _ => ⟨q, off, rfl, h.lt, fun j u hu => ?_⟩⟩
  have hj : j < n := by have := (List.getElem?_eq_some_iff.1 hu).1; rw [byteCells_len, hl] at this; exact this
  rw [h.cell, rowB_get (by omega)]
  rw [byteCells, List.getElem?_map, List.getElem?_take, if_pos hj, List.getElem?_drop, List.getElem?_eq_getElem (by omega)] at hu
  rw [byteN, List.getD_eq_getElem?_getD, List.getElem?_eq_getElem (by omega)]
  exact hu

/-- what a round keeps: what lay below n₀, and the two boxes -/
def KpC (n₀ q1 q2 : Nat) (W W' : World) : Prop := Below n₀ W W' ∧ W'.heap[q1]? = W.heap[q1]? ∧ W'.heap[q2]? = W.heap[q2]?
section
variable {n₀ q1 q2 : Nat}
theorem KpC.refl (W : World) : KpC n₀ q1 q2 W W := ⟨Below.refl _ _, rfl, rfl⟩
theorem KpC.trans {A B C : World} (h : KpC n₀ q1 q2 A B) (k : KpC n₀ q1 q2 B C) : KpC n₀ q1 q2 A C := ⟨h.1.trans k.1, k.2.1.trans h.2.1, k.2.2.trans h.2.2⟩
theorem KpC.put {w W : World} {l : Nat} {o o' : Obj} (h1 : n₀ ≤ w.heap.size) (h2 : q1 < w.heap.size) (h3 : q2 < w.heap.size) (hl : w.heap.size ≤ l) (hg : W.heap[l]? = some o) (hc : o.isCells = false) (hw : o.isWalk = false) : KpC n₀ q1 q2 W (W.putObj l o') :=
  ⟨belowK_b (w := w) h1 W l o o' hl hg hc hw, by simp [World.putObj, show l ≠ q1 by omega], by simp [World.putObj, show l ≠ q2 by omega]⟩
theorem KpC.of_below {W W' : World} (h : Below W.heap.size W W') (h1 : n₀ ≤ W.heap.size) (h2 : q1 < W.heap.size) (h3 : q2 < W.heap.size) : KpC n₀ q1 q2 W W' := ⟨h.mono h1, h.block _ h2, h.block _ h3⟩
theorem KpC.cell1 {W W' : World} (h : KpC n₀ q1 q2 W W') (i : Nat) : W'.cell? ⟨q1, i, none⟩ = W.cell? ⟨q1, i, none⟩ := World.cell?_of_block (w := W) h.2.1
theorem KpC.cell2 {W W' : World} (h : KpC n₀ q1 q2 W W') (i : Nat) : W'.cell? ⟨q2, i, none⟩ = W.cell? ⟨q2, i, none⟩ := World.cell?_of_block (w := W) h.2.2
end
theorem AbidesFrom.below {β : Type} {B : Nat} {J : β → World → Prop} (h : AbidesFrom B J) {s : β} {W W' : World} (hs : J s W) (hb : Below W.heap.size W W') : J s W' :=
  h s W W' none hs ⟨hb.os, hb.tape, hb.output, hb.size, fun k hk _ => hb.block k hk⟩ (fun r e => by cases e)
theorem infoSector : (Tryz.prog.info? 83).map (fun i => (i.zero, i.size)) = some (some (.agg (rowB 64 [])), 64) := by kernel_rfl

set_option maxRecDepth 100000 in
set_option maxHeartbeats 2000000 in
theorem parts1_in (n : Nat) (hn : 1 ≤ n) (l q1 q2 n₀ : Nat) (s : ByteArray) (nb : Nat) (h2 : s.size ≤ 8000) (hnb : nb ≤ 4096) (J Jx : List Bs → World → Prop) (W : World) (hJ : AbidesFrom W.heap.size J)
    (hY : ∀ pre (x : Bs) W1, J pre W1 → x.length = 64 → pre.length < countN s.size → YieldAt Fence.wide (n - 1) Tryz.prog l #[.agg (rowB 64 x)] W1 fun e W' =>
      (e = .returned (.bool true) ∧ J (pre ++ [x]) W' ∧ KpC n₀ q1 q2 W1 W') ∨ (e = .returned (.bool false) ∧ Jx (pre ++ [x]) W'))
    (hn0 : 2 < n₀) (hq1 : q1 < W.heap.size) (hq2 : q2 < W.heap.size) (hn1 : n₀ ≤ W.heap.size) (hk : Consts W) (hT : W.cell? ⟨q1, 0, none⟩ = some (.string s)) (hM : W.cell? ⟨q2, 0, none⟩ = some (.int .i64 (nb : Int))) (h0 : J [] W) :
    CallsIn Fence.wide n Tryz.prog 90 #[.func (.yield l) #[] #[], .pointer (some ⟨q1, 0, none⟩), .pointer (some ⟨q2, 0, none⟩)] W fun e W' => (∃ v, e = .returned v) ∧
      ((∃ ys, ys = packB nb s.data.toList ∧ J ys W') ∨ (∃ pre : List Bs, True ∧ Jx pre W')) := by
  obtain ⟨N, hN⟩ : ∃ N, N = countN s.size := ⟨_, rfl⟩
  have HN := Lib.hid hN
  have hcnt : ∀ w, Calls Tryz.prog 34 #[.int .i64 (s.size : Int)] w (Ret (.int .i64 (N : Int)) w) := fun w => by
    have := count_any (s.size : Int) w
    rwa [countI_nat, ← hN] at this
  have HCN := Lib.hid hcnt
  rw [← hN] at hY
  have HY := Lib.hid hY
  have HJ := Lib.hid hJ
  have HK := Lib.hid hk
  have hNb : N ≤ 200 := by rw [hN]; unfold countN; split <;> (try split) <;> omega
  have hmix : Tryz.prog.follows .mixedOrders = true := by kernel_rfl
  have hF46 : Fence.wide.fn 91 := trivial
  have hF11 : Fence.wide.fn 34 := trivial
  have hF47 : Fence.wide.fn 75 := trivial
  clear hcnt hN hY hJ hk
  refine callsIn_of_wp Tryz.func90 rfl trivial ?_ rfl
  simp only [Tryz.ntmps90, List.size_toArray, List.length_cons, List.length_nil, Nat.reduceAdd, Nat.reduceSub, Array.replicate_succ, Array.replicate_zero, List.push_toArray, List.append_toArray, List.nil_append, List.cons_append]
  gi_wp2_with (gi_at_call 34; refine (callsIn_wide.2 (HCN.out _)).mono ?_; rintro e w2 ⟨rfl, rfl⟩)
  gi_loopw [11] (fun i wr => ∃ k : Nat, k ≤ N ∧ i = .int .i64 k ∧ J ((List.range k).map (sectB nb s.data.toList)) wr ∧ KpC n₀ q1 q2 W wr ∧ W.heap.size ≤ wr.heap.size) (fun i _ => N - (intOf i).toNat)
  case atStart => exact ⟨0, Nat.zero_le _, rfl, h0, KpC.refl _, Nat.le_refl _⟩
  case round =>
    obtain ⟨k, hkN, rfl, hJs, hnx, hsz⟩ := hrel
    obtain ⟨Wr, hWr⟩ : ∃ Wr, Wr = wr := ⟨_, rfl⟩
    subst hWr
    have hT1 : Wr.cell? ⟨q1, 0, none⟩ = some (.string s) := (hnx.cell1 0).trans hT
    have hM1 : Wr.cell? ⟨q2, 0, none⟩ = some (.int .i64 (nb : Int)) := (hnx.cell2 0).trans hM
    by_cases hlt : k < N
    · obtain ⟨t, ht⟩ : ∃ t, t = s.data.toList := ⟨_, rfl⟩
      have k0 : (0 : Int) ≤ (k : Int) := by omega
      have k1 : (k : Int) < (N : Int) := by omega
      have k2 : 48 * k ≤ s.size := count_le h2 (by rw [← HN.out]; exact hlt)
      have k3 : (48 * (k : Int)) ≤ (s.size : Int) := by omega
      have k4 : k ≤ 200 := by omega
      obtain ⟨sr, hsr⟩ : ∃ sr, s.extract (48 * k) s.size = sr := ⟨_, rfl⟩
      obtain ⟨m, hm⟩ : ∃ m, m = s.size - 48 * k := ⟨_, rfl⟩
      have zr : sr.size = m := by rw [← hsr, ByteArray.size_extract, hm]; omega
      have HRL := Lib.hid (show sr.data.toList = t.drop (48 * k) by rw [← hsr, Lib.extract_data, ht, List.take_of_length_le]; rw [List.length_drop, list_size]; omega)
      have HM := Lib.hid hm
      have hm8 : m ≤ 8000 := by omega
      obtain ⟨hzs, hss⟩ := zero_of_info infoSector
      obtain ⟨hzh, hsh⟩ := zero_of_info info32b
      have g1 : q1 < Wr.heap.size := by omega
      have g2 : q2 < Wr.heap.size := by omega
      have hT2 : (Wr.alloc (.cells (rowB 64 []) 83)).cell? ⟨q1, 0, none⟩ = some (.string s) := (World.cell?_alloc_lt Wr _ ⟨q1, 0, none⟩ g1).trans hT1
      have hM2 : (Wr.alloc (.cells (rowB 64 []) 83)).cell? ⟨q2, 0, none⟩ = some (.int .i64 (nb : Int)) := (World.cell?_alloc_lt Wr _ ⟨q2, 0, none⟩ g2).trans hM1
      have HSS := Lib.hid hss
      have HSH := Lib.hid hsh
      have HT := Lib.hid ht
      have HNX := Lib.hid hnx
      have HJS := Lib.hid hJs
      clear hm hlt hss hsh ht hnx hJs
      gi_wp2_with fail
      rw [hsr]
      obtain ⟨g, hg⟩ : ∃ g, g = Wr.heap.size := ⟨_, rfl⟩
      have Bg := Blk.new Wr 83 (rowB 64 [])
      have kb0 := below_new Wr (.cells (rowB 64 []) 83)
      obtain ⟨W1, hW1⟩ : ∃ W1, Wr.alloc (.cells (rowB 64 []) 83) = W1 := ⟨_, rfl⟩
      rw [hW1] at hT2 hM2 Bg kb0 ⊢
      have KB0 := Lib.hid (Keep.of_below kb0 [g])
      rw [← hg] at g1 g2 Bg ⊢
      have HG := Lib.hid hg
      have BG := Lib.hid Bg
      clear hW1 hg kb0 Bg
      gi_region_with_o (gi_at_call 91; refine (callsIn_wide.2 (put_any _ g 0 64 4 nb 83 [] (by exact BG.out) rfl (by omega) (by omega))).mono ?_; rintro e w2 ⟨rfl, B2, K2⟩)
      rw [List.nil_append] at B2
      have BB2 := Lib.hid B2
      have KB2 := Lib.hid (KB0.out.drew.trans K2)
      clear B2 K2 hT1 hM1 hT2 hM2
      gi_wp2_with fail
      refine (callsIn_wide.2 (put_any w2 g 4 60 2 k 83 (leN nb 4) BB2.out (le_len _ _) (by omega) (by omega))).mono ?_
      rintro e w3 ⟨rfl, B3, K3⟩
      have BB3 := Lib.hid B3
      have KB3 := Lib.hid (KB2.out.trans K3)
      clear B3 K3
      gi_wp2_with fail
      refine (callsIn_wide.2 (put_any w3 g 6 58 2 m 83 (leN nb 4 ++ leN k 2) BB3.out (by rw [List.length_append, le_len, le_len]) (by omega) (by omega))).mono ?_
      rintro e w4 ⟨rfl, B4, K4⟩
      obtain ⟨mc, hmc⟩ : ∃ mc, mc = Nat.min m 48 := ⟨_, rfl⟩
      have hmc48 : mc ≤ 48 := by rw [hmc]; exact Nat.min_le_right _ _
      have hpl : (leN nb 4 ++ leN k 2 ++ leN m 2).length = 8 := by rw [List.length_append, List.length_append, le_len, le_len, le_len]
      have hcp := run_copy_str (P := Tryz.prog) w4 84 9 3 5 g 8 48 56 sr mc (by rw [zr, hmc]) (rowB 64 (leN nb 4 ++ leN k 2 ++ leN m 2)) 83 Tryz.underlying84 (by obtain ⟨i0, hi, _, hz1, _⟩ := info_parts info5b; rw [hi, Option.map_some, hz1]) B4 (by rw [rowB_size (by omega)]; omega)
      rw [rowB_copy hpl (by rw [list_size, zr, hmc]; exact Nat.min_le_left _ _)] at hcp
      obtain ⟨w5, hw5⟩ : ∃ w5, w5 = w4.setRow g (rowB 64 (leN nb 4 ++ leN k 2 ++ leN m 2 ++ sr.data.toList.take mc)) := ⟨_, rfl⟩
      rw [← hw5] at hcp
      have HBD := Lib.hid (show rowB 64 (leN nb 4 ++ leN k 2 ++ leN m 2 ++ sr.data.toList.take mc) = rowB 64 (bodyB nb k (t.drop (48 * k))) by
        rw [bodyB, ← HRL.out, list_size, zr]
        have e : sr.data.toList.take mc = sr.data.toList.take 48 := by
          by_cases h : m ≤ 48
          · rw [hmc, show Nat.min m 48 = m from Nat.min_eq_left h, List.take_of_length_le (by rw [list_size, zr]; exact Nat.le_refl _), List.take_of_length_le (by rw [list_size, zr]; exact h)]
          · rw [hmc, show Nat.min m 48 = 48 from Nat.min_eq_right (by omega)]
        rw [e, ← List.append_assoc]
        exact (rowB_zeros (by rw [List.length_append, hpl, List.length_take, list_size, zr]; omega)).symm)
      obtain ⟨bd, hbd⟩ : ∃ bd, bd = bodyB nb k (t.drop (48 * k)) := ⟨_, rfl⟩
      have B5 := Lib.hid (show Blk w5 g 83 (rowB 64 bd) by rw [hw5, hbd, ← HBD.out]; exact B4.put _)
      have K5 := Lib.hid (show Keep [g] Wr w5 by rw [hw5]; exact keep_rowP (KB3.out.trans K4) (g := g) (by simp) _)
      have hbl : bd.length = 56 := by rw [hbd]; exact body_len _ _ _
      have HBB := Lib.hid hbd
      have HBL := Lib.hid hbl
      have RD5 := Lib.hid (show Rd w5 w5.heap.size 1 (some ⟨g, 0, none⟩) 56 (byteCells bd) by
        have := rd_row B5.out (off := 0) (n := 56) (by omega)
        rwa [List.drop_zero, List.take_of_length_le (by omega)] at this)
      have HGE := Lib.hid (show ∀ j, j ∈ [g] → Wr.heap.size ≤ j from fun j hj => by rw [List.mem_singleton] at hj; rw [hj, HG.out]; exact Nat.le_refl _)
      have KC5 := Lib.hid ((HK.out.low HNX.out.1 hn0).below (K5.out.below (Nat.le_refl _) HGE.out))
      clear B4 K4 hw5 hbd hbl hpl
      gi_wp2_with fail
      refine (callsIn_wide.2 (hash_any _ _ bd w5 RD5.out KC5.out)).mono ?_
      rintro e w6 ⟨rfl, b6⟩
      obtain ⟨RH, hRH⟩ : ∃ RH, RH = rowB 32 (sha56 bd) := ⟨_, rfl⟩
      obtain ⟨ZH, hZH⟩ : ∃ ZH, ZH = rowB 32 [] := ⟨_, rfl⟩
      rw [← hRH]
      rw [← hZH] at hzh
      have sRH : RH.size = 32 := by rw [hRH]; exact rowB_size (by rw [sha_len]; exact Nat.le_refl _)
      have HI2 := Lib.hid (show (Tryz.prog.info? 125).map (·.size) = some RH.size by rw [sRH]; exact HSH.out)
      have HZ2 := Lib.hid (show ZH.size = RH.size by rw [sRH, hZH]; rfl)
      have HO2 := Lib.hid (show RH.all (·.oneCell') = true by rw [hRH]; exact rowB_one _ _)
      have B6 := Lib.hid (B5.out.below b6 B5.out.lt)
      have K6 := Lib.hid (K5.out.trans (Keep.of_below b6 [g]))
      obtain ⟨r, hr⟩ : ∃ r, r = w6.heap.size := ⟨_, rfl⟩
      have Br := Blk.new w6 125 ZH
      rw [← hr] at Br
      have HM3 := Lib.hid (show (w6.alloc (.cells ZH 125)).heap[r]? = some (.cells ZH 125 (0, 0)) from Br)
      obtain ⟨w7, hw7⟩ : ∃ w7, w7 = (w6.alloc (.cells ZH 125)).setRow r RH := ⟨_, rfl⟩
      have C7 := Lib.hid (show Blk w7 r 125 (rowB 32 (sha56 bd)) by rw [hw7, ← hRH]; exact Br.put RH)
      have b67 : Below w6.heap.size w6 w7 := by rw [hw7]; exact below_row (below_new w6 _) (by rw [hr]; exact Nat.le_refl _) RH
      have B7 := Lib.hid (B6.out.below b67 B6.out.lt)
      have K7 := Lib.hid (K6.out.trans (Keep.of_below b67 [g]))
      have HR := Lib.hid hr
      have HW7 := Lib.hid hw7
      have HRH := Lib.hid hRH
      clear b6 b67 hr hw7 Br hRH hZH hcp sRH
      gi_wp2_with (first
        | (rw [← HR.out]; refine wpListIn_store_row rfl 125 _ _ rfl r RH rfl rfl 125 ZH HM3.out HI2.out HZ2.out HO2.out ?_; rw [← HW7.out]))
      dsimp only [Act.put]
      have hs5 : (Tryz.prog.info? 5).map (·.size) = some 1 := by obtain ⟨i0, hi, _, hz1, _⟩ := info_parts info5b; rw [hi, Option.map_some, hz1]
      have e8 : ((byteCells (sha56 bd)).take 8).length = 8 := by rw [List.length_take, byteCells_len, sha_len]; rfl
      have hcp2 : ∀ u : World, u.heap = w7.heap → (Builtin.copy_ #[84, 84] 3 #[.slice (some ⟨g, 56, none⟩) 8 8, .slice (some ⟨r, 0, none⟩) 32 32]).run Tryz.prog u = .ok (.int .i64 8) (u.setRow g (rowB 64 (checkedB bd))) := fun u hu => by
        have hc := run_copy_row (P := Tryz.prog) u 84 84 3 5 g 56 8 8 ⟨r, 0, none⟩ 32 32 (rowB 64 bd) 83 ((byteCells (sha56 bd)).take 8) Tryz.underlying84 hs5 (by rw [hu]; exact B7.out) (by rw [e8]; rfl) (fun j v hv => by
          rw [Addr.add_mid, Nat.zero_add]
          have hj : j < 8 := by have := (List.getElem?_eq_some_iff.1 hv).1; rw [e8] at this; exact this
          have hb : Blk u r 125 (rowB 32 (sha56 bd)) := by unfold Blk; rw [hu]; exact C7.out
          rw [hb.cell, rowB_get (by rw [sha_len]; omega)]
          rw [List.getElem?_take, if_pos hj, byteCells, List.getElem?_map, List.getElem?_eq_getElem (by rw [sha_len]; omega)] at hv
          rw [byteN, List.getD_eq_getElem?_getD, List.getElem?_eq_getElem (by rw [sha_len]; omega)]
          exact hv) (by rw [e8, rowB_size (by rw [HBL.out]; omega)]; omega) (fun v hv => by
          have := List.mem_of_mem_take hv
          rw [byteCells, List.mem_map] at this
          obtain ⟨x, _, rfl⟩ := this
          rfl)
        rw [e8, rowB_copy HBL.out (by rw [sha_len]; omega)] at hc
        rw [checkedB]
        exact hc
      have hcp3 := hcp2 w7.drew rfl
      obtain ⟨w8, hw8⟩ : ∃ w8, w8 = w7.drew.setRow g (rowB 64 (checkedB bd)) := ⟨_, rfl⟩
      rw [← hw8] at hcp3
      have hcl : (checkedB bd).length = 64 := checked_len HBL.out
      have HX := Lib.hid (show checkedB bd = sectB nb t k by rw [sectB, HBB.out])
      have C8 := Lib.hid (show w8.heap[g]? = some (.cells (rowB 64 (sectB nb t k)) 83 (0, 0)) by rw [← HX.out, hw8]; exact (show Blk w7.drew g 83 (rowB 64 bd) from B7.out).put _)
      have K8 := Lib.hid (show Keep [g] Wr w8 by rw [hw8]; exact keep_rowP K7.out.drew (g := g) (by simp) _)
      have HI8 := Lib.hid (show (Tryz.prog.info? 83).map (·.size) = some (rowB 64 (sectB nb t k)).size by rw [← HX.out, rowB_size (by rw [hcl]; exact Nat.le_refl _)]; exact HSS.out)
      have hb8 : Below Wr.heap.size Wr w8 := K8.out.below (Nat.le_refl _) HGE.out
      have hJ8 := AbidesFrom.below HJ.out HJS.out hb8
      have hlen : ((List.range k).map (sectB nb t)).length < N := by rw [List.length_map, List.length_range]; omega
      have KC8 := Lib.hid (show KpC n₀ q1 q2 W w8 from HNX.out.trans (KpC.of_below hb8 (by omega) (by rw [← HG.out]; exact g1) (by rw [← HG.out]; exact g2)))
      have HB8 := Lib.hid hb8
      obtain ⟨fn, tmps, assign, body, hy, hRy⟩ := HY.out _ (sectB nb t k) w8 (by rw [← HT.out] at hJ8; exact hJ8) (sect_len nb t k) hlen
      clear e8 hcp2 hw8 hb8 hJ8 hcl hlen
      gi_region_with_o (fail)
      gi_wp2_with (first
        | (refine wpListIn_load_row rfl 83 _ rfl g rfl 83 (rowB 64 (sectB nb t k)) (0, 0) _ C8.out Tryz.underlying83 rfl HI8.out ?_))
      refine hRy.mono ?_
      rintro e W9 (⟨rfl, hJ9, hk9⟩ | ⟨rfl, hJx9⟩)
      · gi_wp2
        go_roundw
        case rel => exact ⟨k + 1, by omega, by go_num, by rw [List.range_succ, List.map_append, HT.out] at *; exact hJ9, KC8.out.trans hk9, by have := KC8.out.1.size; have := hk9.1.size; omega⟩
        case measure => simp [intOf]; omega
      · gi_wp2
        refine bodyPost_ret (results_none rfl _ _ _) rfl ?_
        exact ⟨⟨_, rfl⟩, .inr ⟨_, trivial, hJx9⟩⟩
    · obtain rfl : k = N := by omega
      gi_wp2
      go_end0
      exact ⟨⟨_, rfl⟩, .inl ⟨_, by rw [packB, list_size, ← HN.out], hJs⟩⟩
end Go.Proofs.YtddpjahoeldleaaGreatDoor

namespace Go.Proofs.YtddpjahoeldleaaGreatDoor
open Go.RowKit Go.Shelf
attribute [local go_sem] Oper.semAt_some

abbrev Sec := { x : Bs // x.length = 64 }
theorem parts_stops (n : Nat) (hn : 1 ≤ n) (q1 q2 n₀ : Nat) (s : ByteArray) (nb : Nat) (h2 : s.size ≤ 8000) (hnb : nb ≤ 4096) (w : World) (hn0 : 2 < n₀) (hq1 : q1 < w.heap.size) (hq2 : q2 < w.heap.size) (hn1 : n₀ ≤ w.heap.size) (hk : Consts w)
    (hT : w.cell? ⟨q1, 0, none⟩ = some (.string s)) (hM : w.cell? ⟨q2, 0, none⟩ = some (.int .i64 (nb : Int))) :
    SeqStopsK Fence.wide n Tryz.prog 90 #[.pointer (some ⟨q1, 0, none⟩), .pointer (some ⟨q2, 0, none⟩)] (fun x : Sec => #[Value.agg (rowB 64 x.1)]) (KpC n₀ q1 q2) (fun ys => ys.map Subtype.val = packB nb s.data.toList) (fun _ => True) (countN s.size) w := fun l J Jx W hW hJ _ hY h0 => by
  have := parts1_in n hn l q1 q2 n₀ s nb h2 hnb (fun pre W => ∃ ps : List Sec, ps.map Subtype.val = pre ∧ J ps W) (fun _ W => ∃ ps : List Sec, Jx ps W) W
    (fun _ A B row hs hg hr => by obtain ⟨ps, e, h⟩ := hs; exact ⟨ps, e, hJ ps A B row h hg hr⟩)
    (fun pre x W1 hJp hx hlen => by
      obtain ⟨ps, rfl, hp⟩ := hJp
      refine (hY ps ⟨x, hx⟩ W1 hp (by rwa [List.length_map] at hlen)).mono ?_
      rintro e W' (⟨he, h1, h2⟩ | ⟨he, h1⟩)
      · exact .inl ⟨he, ⟨_, by rw [List.map_append]; rfl, h1⟩, h2⟩
      · exact .inr ⟨he, _, h1⟩)
    hn0 (Nat.lt_of_lt_of_le hq1 hW.size) (Nat.lt_of_lt_of_le hq2 hW.size) (Nat.le_trans hn1 hW.size) (hk.below hW) ((hW.cell (p := ⟨q1, 0, none⟩) hq1).trans hT) ((hW.cell (p := ⟨q2, 0, none⟩) hq2).trans hM) ⟨[], rfl, h0⟩
  refine this.mono ?_
  rintro e W' ⟨he, ⟨ys, rfl, ps, e2, hp⟩ | ⟨pre, _, ps, hp⟩⟩
  · exact ⟨he, .inl ⟨ps, e2, hp⟩⟩
  · exact ⟨he, .inr ⟨ps, trivial, hp⟩⟩
theorem wpIn_append_run {F : Fence} {n : Nat} {P : Program} {o : Oper} {a : Act} {w : World} {K : Act → World → Prop} {Q : Exit → Act → World → Prop} (s x : Operand) (t : TypeId) (hop : o.op = Op.call { callee := Callee.builtin Builtin.append, args := #[s, x], argTypes := #[t, t] })
    (v vs : Value) (hs : a.eval s = v) (hx : a.eval x = vs) (v' : Value) (w' : World) (hrun : (Builtin.append_ #[t, t] o.type #[v, vs]).run P w = .ok v' w') (h : K (a.put o.dst v') w') : o.wpIn F n P a w K Q := by
  unfold Oper.wpIn
  refine ⟨?_, ?_⟩
  · simp [Oper.about, hop, resolve, Target.leads, Sem.run_pure]
  · rw [Oper.semAt_plain F _ _ (by rw [hop]; intro c hc'; cases hc')]
    simp [execOp, hop, resolve, invoke, builtin, hs, hx, hrun, Result.andThen]
    exact h
theorem keeps_of_below {W W' : World} (h : Below W.heap.size W W') : KeepsOthers W W' := ⟨h.size, fun k _ hk _ => (h.block k (Array.getElem?_eq_some_iff.1 hk).1).trans hk⟩
theorem own_base {W : World} {base base' : Nat} {e : TypeId} {size : Nat} {v : Value} {k : Nat} {xs : List Value} (h : W.ownsRow base e size v k xs) (hb : base' ≤ base) : W.ownsRow base' e size v k xs := by
  refine ⟨h.1, ?_⟩
  rcases h.2 with hn | ⟨g, cap, cur, hv, hbg, rest⟩
  · exact .inl hn
  · exact .inr ⟨g, cap, cur, hv, Nat.le_trans hb hbg, rest⟩
theorem blk_own {B Bx lo : Nat} {T : TypeId} {cs : Array Value} {pr : Prop} : OwnFrom B (fun (_ : Unit) (W : World) => lo ≤ Bx ∧ Blk W Bx T cs ∧ pr) := fun _ W W' row hs hg hr => by
  obtain ⟨h1, h2, h3⟩ := hs
  refine ⟨h1, (hg.block Bx h2.lt ?_).trans h2, h3⟩
  intro e
  obtain ⟨_, o, ho, hc⟩ := hr Bx e.symm
  rw [show W.heap[Bx]? = _ from h2] at ho
  cases ho
  cases hc

set_option maxHeartbeats 1000000 in
theorem parts_any (nb : Int) (s : ByteArray) (w : World) :
    Calls Tryz.prog 74 #[.int .i64 nb, .string s] w (fun e w' => e = .returned (.func (.func 90) #[] #[.pointer (some ⟨w.heap.size + 1, 0, none⟩), .pointer (some ⟨w.heap.size, 0, none⟩)]) ∧ w' = (w.alloc (.cells #[.int .i64 nb] 3)).alloc (.cells #[.string s] 9)) := by
  go_enter Tryz.func74, Tryz.ntmps74
  go_wp2_with fail
  go_ret
  exact ⟨rfl, rfl⟩

set_option maxRecDepth 100000 in
set_option maxHeartbeats 2000000 in
theorem pack_any (nb : Nat) (s : ByteArray) (w : World) (hk : Consts w) (h0 : 1 ≤ nb) (h1 : nb ≤ 4096) (h2 : s.size ≤ 8000) :
    Calls Tryz.prog 40 #[.int .i64 (nb : Int), .string s] w (PackPost (packB nb s.data.toList) 0 w) := by
  refine (callsIn_wide (n := 8)).1 ?_
  have hF : Fence.wide.fn 90 := trivial
  have hF0 : Fence.wide.fn 74 := trivial
  have n1 : (1 : Int) ≤ (nb : Int) := by omega
  have n2 : (nb : Int) ≤ 4096 := by omega
  have s1 : (s.size : Int) ≤ 8000 := by omega
  have HK := Lib.hid hk
  refine callsIn_of_wp_marks Tryz.func40 rfl trivial ?_ rfl
  simp only [Tryz.ntmps40, List.size_toArray, List.length_cons, List.length_nil, Nat.reduceAdd, Nat.reduceSub, Array.replicate_succ, Array.replicate_zero, List.push_toArray, List.append_toArray, List.nil_append, List.cons_append]
  gi_wp2_with (gi_at_call 74; refine (callsIn_wide.2 (parts_any _ _ _)).mono ?_; rintro e w' ⟨rfl, rfl⟩)
  have bO := ((Boxed.new w 28 (.slice none 0 0)).alloc (.cells #[.int .i64 (nb : Int)] 3)).alloc (.cells #[.string s] 9)
  have bM := (Boxed.new (w.alloc (.cells #[.slice none 0 0] 28)) 3 (.int .i64 (nb : Int))).alloc (.cells #[.string s] 9)
  have bT := Boxed.new ((w.alloc (.cells #[.slice none 0 0] 28)).alloc (.cells #[.int .i64 (nb : Int)] 3)) 9 (.string s)
  simp only [World.size_alloc] at bM bT
  have hB0 : Below w.heap.size w (((w.alloc (.cells #[.slice none 0 0] 28)).alloc (.cells #[.int .i64 (nb : Int)] 3)).alloc (.cells #[.string s] 9)) := (((Below.refl _ w).alloc (Nat.le_refl _) _).alloc (by simp) _).alloc (by simp; omega) _
  have hsz : (((w.alloc (.cells #[.slice none 0 0] 28)).alloc (.cells #[.int .i64 (nb : Int)] 3)).alloc (.cells #[.string s] 9)).heap.size = w.heap.size + 3 := by simp
  obtain ⟨W0, hW0⟩ : ∃ W0, ((w.alloc (.cells #[.slice none 0 0] 28)).alloc (.cells #[.int .i64 (nb : Int)] 3)).alloc (.cells #[.string s] 9) = W0 := ⟨_, rfl⟩
  rw [hW0] at bO bM bT hB0 hsz ⊢
  clear hW0
  have hk2 := hk.lt
  have h1' : 1 ≤ 8 := by omega
  refine wpIn_rangeFunc_ownH (w0 := W0) rfl h1' (gf := 90) (lb := #[.pointer (some ⟨w.heap.size + 1 + 1, 0, none⟩), .pointer (some ⟨w.heap.size + 1, 0, none⟩)]) rfl hF (enters_of Tryz.func90 (by kernel_rfl) rfl)
    (parts_stops (8 - 1) (by omega) (w.heap.size + 1 + 1) (w.heap.size + 1) w.heap.size s nb h2 h1 W0 hk2 (by omega) (by omega) (by omega) (hk.below hB0) bT.cell bM.cell) (fun h k => h.trans k) (fun W l o o' hl hg hc hw => KpC.put (w := W0) (by omega) (by omega) (by omega) hl hg hc hw) (Below.refl _ _) (fun _ => rfl)
    (fun pre W => (∃ v, Boxed W w.heap.size 28 v ∧ W.ownsRow (w.heap.size + 3) 9 1 v pre.length (strCells (pre.map Subtype.val)) ∧ True) ∧ (Below w.heap.size w W ∧ w.heap.size + 3 ≤ W.heap.size))
    (fun _ _ _ => False)
    (OwnFrom.and (Own.from (holdsRow_own (w.heap.size + 3) w.heap.size 28 9 1 (fun pre : List Sec => pre.length) (fun pre => strCells (pre.map Subtype.val)) (fun _ _ => True)) _) (OwnFrom.and (ownFrom_below (Nat.le_refl _) (by omega)) (fun _ W W' _ h hg _ => Nat.le_trans h hg.size)))
    (fun _ _ _ _ _ hs _ _ => hs)
    ⟨⟨_, bO, World.ownsRow_nil _ _ _ _, trivial⟩, hB0, by omega⟩
    (fun x a' W => ∃ Bx, w.heap.size + 3 ≤ Bx ∧ Blk W Bx 83 (rowB 64 x.1) ∧ a' = { tmps := #[.int .i64 (nb : Int), .string s, undef, undef, .slice none 0 0, .int .i64 0, .pointer (some ⟨w.heap.size, 0, none⟩), .pointer (some ⟨Bx, 0, none⟩), .bool (decide ((nb : Int) < 1) || decide ((4096 : Int) < (nb : Int))), .int .i64 (nb : Int), .bool (decide ((nb : Int) < 1)), .bool (decide ((nb : Int) < 1)), .int .i64 (nb : Int), .bool (decide ((4096 : Int) < (nb : Int))), .bool (decide ((nb : Int) < 1) || decide ((4096 : Int) < (nb : Int))), .bool (decide ((8000 : Int) < (s.size : Int))), .string s, .int .i64 (s.size : Int), .bool (decide ((8000 : Int) < (s.size : Int))), .int .i64 (nb : Int), .string s, .func (.func 90) #[] #[.pointer (some ⟨w.heap.size + 1 + 1, 0, none⟩), .pointer (some ⟨w.heap.size + 1, 0, none⟩)], .agg (rowB 64 x.1), undef, undef, undef, undef, undef, undef], defers := [] })
    (fun x a' _ X Y row hs hg hr => by obtain ⟨Bx, hh⟩ := hs; exact ⟨Bx, blk_own () X Y row hh hg hr⟩)
    ?assign ?body ?done ?stop
  case assign =>
    rintro l pre x W K ⟨⟨v, bO1, own1, _⟩, hB1, hgz⟩ hK
    obtain ⟨hzs, hss⟩ := zero_of_info infoSector
    obtain ⟨ZS, hZS⟩ : ∃ ZS, ZS = rowB 64 [] := ⟨_, rfl⟩
    rw [← hZS] at hzs
    obtain ⟨RS, hRS⟩ : ∃ RS, RS = rowB 64 x.1 := ⟨_, rfl⟩
    have sRS : RS.size = 64 := by rw [hRS]; exact rowB_size (by rw [x.2]; exact Nat.le_refl _)
    have HI1 := Lib.hid (show (Tryz.prog.info? 83).map (·.size) = some RS.size by rw [sRS]; exact hss)
    have HZ1 := Lib.hid (show ZS.size = RS.size by rw [sRS, hZS]; rfl)
    have HO1 := Lib.hid (show RS.all (·.oneCell') = true by rw [hRS]; exact rowB_one _ _)
    obtain ⟨q, hq⟩ : ∃ q, q = W.heap.size := ⟨_, rfl⟩
    have Bq := Blk.new W 83 ZS
    rw [← hq] at Bq
    have HM := Lib.hid (show (W.alloc (.cells ZS 83)).heap[q]? = some (.cells ZS 83 (0, 0)) from Bq)
    obtain ⟨W1, hW1⟩ : ∃ W1, W1 = (W.alloc (.cells ZS 83)).setRow q RS := ⟨_, rfl⟩
    have hb1 : Below W.heap.size W W1 := by rw [hW1]; exact below_row (below_new W _) (by rw [hq]; exact Nat.le_refl _) RS
    have B1 : Blk W1 q 83 (rowB 64 x.1) := by rw [hW1, ← hRS]; exact Bq.put RS
    have KK := hK _ W1 ((keeps_of_below hb1).from _) (KpC.of_below hb1 (by omega) (by omega) (by omega)) ⟨⟨v, (hb1.block _ bO1.lt).trans bO1, own_below own1 hb1, trivial⟩, hB1.trans (hb1.mono hB1.size), Nat.le_trans hgz hb1.size⟩ ⟨q, by omega, B1, rfl⟩
    have HKK := Lib.hid KK
    have HQ := Lib.hid hq
    have HW1 := Lib.hid hW1
    have HRS := Lib.hid hRS
    clear KK hK hq hW1 hRS hZS hss sRS B1 hb1 Bq hB1 own1 bO1
    rw [← HRS.out]
    gi_wp2_with (first
      | (rw [← HQ.out]; refine wpListIn_store_row rfl 83 _ _ rfl q RS rfl rfl 83 ZS HM.out HI1.out HZ1.out HO1.out ?_; rw [← HW1.out]))
    rw [HRS.out]
    exact HKK.out
  case body =>
    rintro l pre x a' W hl ⟨r, hr⟩ ⟨⟨v, bO1, own1, _⟩, hB1, hgz⟩ ⟨Bx, hBx, bX, rfl⟩ hlt
    obtain ⟨A, cc, rfl, hcc⟩ := own_slice own1
    have hmix : Tryz.prog.follows .mixedOrders = true := by kernel_rfl
    have cO := bO1.cell
    obtain ⟨y, hy⟩ : ∃ y : ByteArray, y = ⟨x.1.toArray⟩ := ⟨_, rfl⟩
    have hcv : ∀ k, (convert 84 9 (.slice (some ⟨Bx, 0, none⟩) 64 64)).run Tryz.prog (W.drewN k) = .ok (.string y) (W.drewN k) := fun k => by
      have := rd_row (bX.drewN k) (off := 0) (n := 64) (by rw [x.2]; exact Nat.le_refl _)
      rw [List.drop_zero, List.take_of_length_le (by rw [x.2]; exact Nat.le_refl _)] at this
      rw [hy]; exact conv_rd this (by omega) 64
    have hcv1 : (convert 84 9 (.slice (some ⟨Bx, 0, none⟩) 64 64)).run Tryz.prog W.drew = .ok (.string y) W.drew := hcv 1
    obtain ⟨i0, hi, hz0, hz1, hz2⟩ := info_parts info9
    have hlen : pre.length ≤ 200 := by
      have : countN s.size ≤ 200 := by unfold countN; split <;> (try split) <;> omega
      omega
    obtain ⟨v', w1, hrun, own2, hgrow, _⟩ := run_append_own (P := Tryz.prog) (w := (W.alloc (.cells #[.string y] 9)).drew) (w.heap.size + 3) 28 28 9 i0 _ 1 16 Tryz.underlying28 hi hz0 hz1 hz2 rfl (by decide) (.slice A pre.length cc) pre.length _ (show (W.alloc (.cells #[.string y] 9)).drew.ownsRow (w.heap.size + 3) 9 1 (.slice A pre.length cc) pre.length (strCells (pre.map Subtype.val)) from own1.alloc _) ⟨W.heap.size, 0, none⟩ 1 1 [.string y] rfl (cells_one _ _ _) (fun u hu => by simp at hu; subst hu; rfl) (by unfold maxLen; omega) (by omega) (by show w.heap.size + 3 ≤ (W.alloc _).heap.size; simp; omega)
    obtain ⟨A', c', rfl, _⟩ := own_slice own2
    have hap := Boxed.appended (W := W.drew) (tmp := .cells #[.string y] 9) (n₀ := w.heap.size) (show Boxed W.drew w.heap.size 28 _ from bO1) (by decide) (show W.drew.ownsRow w.heap.size 9 1 _ _ _ from own_base own1 (by omega)) (by show w.heap.size ≤ W.heap.size; omega) (Nat.le_refl _) (own_base own2 (by omega)) hgrow
    obtain ⟨hv1, hv2, hr2, hk3, hb2⟩ := hap
    have cO1 := hv1.cell
    have fO1 := hv1.frozen
    gi_wp2_with fail
    have HRUN := Lib.hid hrun
    obtain ⟨Wf, hWf⟩ : ∃ Wf, Wf = w1.setCell ⟨w.heap.size, 0, none⟩ (.slice A' (pre.length + 1) c') := ⟨_, rfl⟩
    have hq : ∀ q, q < w.heap.size + 3 → q ≠ w.heap.size → Wf.heap[q]? = W.heap[q]? := fun q h1 h2 => by
      rw [hWf, Below.heap_setCell _ _ _ _ (by exact h2)]
      refine (hgrow.block q (by show q < (W.alloc _).heap.size; simp; omega) (fun e => by have := (own1.lt q e.symm).1; omega)).trans ?_
      exact heap_alloc_old W _ (by omega)
    have FIN := Lib.hid (show KeepsFrom W0.heap.size W Wf ∧ KpC w.heap.size (w.heap.size + 1 + 1) (w.heap.size + 1) W Wf ∧ ((∃ v, Boxed Wf w.heap.size 28 v ∧ Wf.ownsRow (w.heap.size + 3) 9 1 v (pre ++ [x]).length (strCells ((pre ++ [x]).map Subtype.val)) ∧ True) ∧ (Below w.heap.size w Wf ∧ w.heap.size + 3 ≤ Wf.heap.size)) by
      have hbf : Below w.heap.size W Wf := by rw [hWf]; exact ⟨hb2.os, hb2.tape, hb2.output, hb2.size, hb2.block⟩
      refine ⟨?_, ⟨hbf, hq _ (by omega) (by omega), hq _ (by omega) (by omega)⟩, ⟨_, by rw [hWf]; exact hv2, ?_, trivial⟩, hB1.trans hbf, Nat.le_trans hgz hbf.size⟩
      · rw [hWf]; exact ⟨hk3.size, fun k o _ hk ho => hk3.same k o hk ho⟩
      · have e1 : strCells ((pre ++ [x]).map Subtype.val) = strCells (pre.map Subtype.val) ++ [.string y] := by
          rw [List.map_append, hy]; exact strCells_snoc _ _
        rw [List.length_append, List.length_singleton, e1, hWf]
        exact own2.kept (grownBy_setCell' w1 w.heap.size _) (.inr (fun e => by have := (own2.lt w.heap.size e).1; omega)))
    have HWF := Lib.hid hWf
    have HY := Lib.hid hy
    have cO2 : W.drew.cell? ⟨w.heap.size, 0, none⟩ = some (.slice A pre.length cc) := cO
    have cO3 : (W.alloc (.cells #[.string y] 9)).drew.cell? ⟨w.heap.size, 0, none⟩ = some (.slice A pre.length cc) := (World.cell?_alloc_lt W _ ⟨w.heap.size, 0, none⟩ bO1.lt).trans cO
    clear hrun hy hcv hWf hq
    refine wpIn_region_any hmix ?_
    try (change wpAnyIn _ _ _ _ _ _ _ _ _ (World.drew _))
    refine wpAnyIn_ready (rs := [0, 1]) (by kernel_rfl) (by simp) ?_
    refine AllReadyIn.cons rfl (fun K hK => ?_) (AllReadyIn.cons rfl (fun K hK => ?_) AllReadyIn.nil)
    · go_simp
      refine hK _ _ ?_
      clear hK K
      refine wpAnyIn_ready (rs := [1]) (by kernel_rfl) (by simp) ?_
      refine AllReadyIn.cons rfl (fun K hK => ?_) AllReadyIn.nil
      go_simp
      refine hK _ _ ?_
      clear hK K
      refine wpAnyIn_ready (rs := [2]) (by kernel_rfl) (by simp) ?_
      refine AllReadyIn.cons rfl (fun K hK => ?_) AllReadyIn.nil
      go_simp
      refine hK _ _ ?_
      clear hK K
      refine wpAnyIn_ready (rs := [3]) (by kernel_rfl) (by simp) ?_
      refine AllReadyIn.cons rfl (fun K hK => ?_) AllReadyIn.nil
      go_simp
      refine hK _ _ ?_
      clear hK K
      refine wpAnyIn_ready (rs := [4]) (by kernel_rfl) (by simp) ?_
      refine AllReadyIn.cons rfl (fun K hK => ?_) AllReadyIn.nil
      refine wpIn_append_run _ _ _ rfl _ _ rfl rfl (.slice A' (pre.length + 1) c') w1 HRUN.out ?_
      refine hK _ _ ?_
      clear hK K
      simp only [Act.put, List.setIfInBounds_toArray]
      refine wpAnyIn_ready (rs := [5]) (by kernel_rfl) (by simp) ?_
      refine AllReadyIn.cons rfl (fun K hK => ?_) AllReadyIn.nil
      go_simp
      refine hK _ _ ?_
      clear hK K
      refine wpAnyIn_done (by kernel_rfl) ?_ _
      gi_wp2_with fail
      rw [← HWF.out]
      exact FIN.out
    · go_simp
      refine hK _ _ ?_
      clear hK K
      refine wpAnyIn_ready (rs := [0, 2]) (by kernel_rfl) (by simp) ?_
      refine AllReadyIn.cons rfl (fun K hK => ?_) (AllReadyIn.cons rfl (fun K hK => ?_) AllReadyIn.nil)
      · go_simp
        refine hK _ _ ?_
        clear hK K
        refine wpAnyIn_ready (rs := [2]) (by kernel_rfl) (by simp) ?_
        refine AllReadyIn.cons rfl (fun K hK => ?_) AllReadyIn.nil
        go_simp
        refine hK _ _ ?_
        clear hK K
        refine wpAnyIn_ready (rs := [3]) (by kernel_rfl) (by simp) ?_
        refine AllReadyIn.cons rfl (fun K hK => ?_) AllReadyIn.nil
        go_simp
        refine hK _ _ ?_
        clear hK K
        refine wpAnyIn_ready (rs := [4]) (by kernel_rfl) (by simp) ?_
        refine AllReadyIn.cons rfl (fun K hK => ?_) AllReadyIn.nil
        refine wpIn_append_run _ _ _ rfl _ _ rfl rfl (.slice A' (pre.length + 1) c') w1 HRUN.out ?_
        refine hK _ _ ?_
        clear hK K
        simp only [Act.put, List.setIfInBounds_toArray]
        refine wpAnyIn_ready (rs := [5]) (by kernel_rfl) (by simp) ?_
        refine AllReadyIn.cons rfl (fun K hK => ?_) AllReadyIn.nil
        go_simp
        refine hK _ _ ?_
        clear hK K
        refine wpAnyIn_done (by kernel_rfl) ?_ _
        gi_wp2_with fail
        rw [← HWF.out]
        exact FIN.out
      · go_simp
        refine hK _ _ ?_
        clear hK K
        refine wpAnyIn_ready (rs := [0, 3]) (by kernel_rfl) (by simp) ?_
        refine AllReadyIn.cons rfl (fun K hK => ?_) (AllReadyIn.cons rfl (fun K hK => ?_) AllReadyIn.nil)
        · go_simp
          refine hK _ _ ?_
          clear hK K
          refine wpAnyIn_ready (rs := [3]) (by kernel_rfl) (by simp) ?_
          refine AllReadyIn.cons rfl (fun K hK => ?_) AllReadyIn.nil
          go_simp
          refine hK _ _ ?_
          clear hK K
          refine wpAnyIn_ready (rs := [4]) (by kernel_rfl) (by simp) ?_
          refine AllReadyIn.cons rfl (fun K hK => ?_) AllReadyIn.nil
          refine wpIn_append_run _ _ _ rfl _ _ rfl rfl (.slice A' (pre.length + 1) c') w1 HRUN.out ?_
          refine hK _ _ ?_
          clear hK K
          simp only [Act.put, List.setIfInBounds_toArray]
          refine wpAnyIn_ready (rs := [5]) (by kernel_rfl) (by simp) ?_
          refine AllReadyIn.cons rfl (fun K hK => ?_) AllReadyIn.nil
          go_simp
          refine hK _ _ ?_
          clear hK K
          refine wpAnyIn_done (by kernel_rfl) ?_ _
          gi_wp2_with fail
          rw [← HWF.out]
          exact FIN.out
        · go_simp
          refine hK _ _ ?_
          clear hK K
          refine wpAnyIn_ready (rs := [0]) (by kernel_rfl) (by simp) ?_
          refine AllReadyIn.cons rfl (fun K hK => ?_) AllReadyIn.nil
          go_simp
          refine hK _ _ ?_
          clear hK K
          refine wpAnyIn_ready (rs := [4]) (by kernel_rfl) (by simp) ?_
          refine AllReadyIn.cons rfl (fun K hK => ?_) AllReadyIn.nil
          refine wpIn_append_run _ _ _ rfl _ _ rfl rfl (.slice A' (pre.length + 1) c') w1 HRUN.out ?_
          refine hK _ _ ?_
          clear hK K
          simp only [Act.put, List.setIfInBounds_toArray]
          refine wpAnyIn_ready (rs := [5]) (by kernel_rfl) (by simp) ?_
          refine AllReadyIn.cons rfl (fun K hK => ?_) AllReadyIn.nil
          go_simp
          refine hK _ _ ?_
          clear hK K
          refine wpAnyIn_done (by kernel_rfl) ?_ _
          gi_wp2_with fail
          rw [← HWF.out]
          exact FIN.out
  case done =>
    rintro D ys W hD hys ⟨⟨v, bO1, own1, _⟩, hB1, _⟩ hK
    have cN := bO1.cell
    obtain ⟨A, cc, rfl, hcc⟩ := own_slice own1
    have HYS := Lib.hid hys
    clear hys
    gi_wp2
    refine ⟨by simp, .inl ⟨_, _, rfl, run_takeDeferred hK, ?_⟩⟩
    have e1 : (packB nb s.data.toList).length = ys.length := by rw [← HYS.out, List.length_map]
    refine ⟨_, results_tmp2 rfl _ _ _, ⟨_, rfl, ?_, hB1.trans (belowK_b (w := w) (Nat.le_refl _) W D _ _ (by omega) hK rfl rfl)⟩⟩
    rw [e1, ← HYS.out]
    exact ownsRow_putObj (own_base own1 (by omega)) _ hK rfl
  case stop =>
    rintro D c pre W _ _ h _
    exact h.elim
set_option maxHeartbeats 1000000 in
theorem pack_bad (number : Int) (s : ByteArray) (w : World) (h : number < 1 ∨ 4096 < number) : Calls Tryz.prog 40 #[.int .i64 number, .string s] w (PackPost [] 1 w) := by
  rcases h with h | h
  · go_enter Tryz.func40, Tryz.ntmps40
    go_wp2_with fail
    go_ret2
    exact ⟨_, rfl, World.ownsRow_nil _ _ _ _, Below.refl _ _⟩
  · go_enter Tryz.func40, Tryz.ntmps40
    go_wp2_with fail
    go_ret2
    exact ⟨_, rfl, World.ownsRow_nil _ _ _ _, Below.refl _ _⟩
set_option maxHeartbeats 1000000 in
theorem pack_long (number : Int) (s : ByteArray) (w : World) (h0 : 1 ≤ number) (h1 : number ≤ 4096) (h : 8000 < s.size) : Calls Tryz.prog 40 #[.int .i64 number, .string s] w (PackPost [] 4 w) := by
  have h2 : (8000 : Int) < (s.size : Int) := by omega
  go_enter Tryz.func40, Tryz.ntmps40
  go_wp2_with fail
  go_ret2
  exact ⟨_, rfl, World.ownsRow_nil _ _ _ _, Below.refl _ _⟩
theorem packV_any (number : Int) (s : ByteArray) (w : World) (hk : Consts w) : Calls Tryz.prog 40 #[.int .i64 number, .string s] w (PackPost (packV number s.data.toList) (packE number s.data.toList) w) := by
  have hl := list_size s
  unfold packV packE
  by_cases h : number < 1 ∨ 4096 < number
  · rw [if_pos h, if_neg (by decide)]; exact pack_bad number s w h
  · rw [if_neg h]
    by_cases h2 : 8000 < s.data.toList.length
    · rw [if_pos h2, if_neg (by decide)]; exact pack_long number s w (by omega) (by omega) (by omega)
    · rw [if_neg h2, if_pos rfl]
      obtain ⟨nb, rfl⟩ := Int.eq_ofNat_of_zero_le (show 0 ≤ number by omega)
      rw [Int.toNat_natCast]
      exact pack_any nb s w hk (by omega) (by omega) (by omega)
end Go.Proofs.YtddpjahoeldleaaGreatDoor
