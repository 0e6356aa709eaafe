/- Numbers: SameInts, Around, At, Picks; the reference's Sorted. -/
import Derived.Test.YtflfachkoffiiaaClauses
import Derived.IntWalk
namespace Go.Proofs.Ytflfachkoffiiaa
open Go.RowKit

theorem int_len {w : World} {B n : Nat} {A : Option Addr} {zs : List Int} (h : Rd w B 1 A n (intCells zs)) : zs.length = n := by have := h.1; simpa [intCells] using this
/-- numbers that are ints -/
def Fits (zs : List Int) : Prop := ∀ z ∈ zs, -9223372036854775808 ≤ z ∧ z ≤ 9223372036854775807
theorem Fits.at_ {zs : List Int} (h : Fits zs) (k : Nat) : -9223372036854775808 ≤ zs.getD k 0 ∧ zs.getD k 0 ≤ 9223372036854775807 := by
  rw [List.getD_eq_getElem?_getD]
  by_cases hk : k < zs.length
  · rw [List.getElem?_eq_getElem hk]; exact h _ (List.getElem_mem hk)
  · rw [List.getElem?_eq_none (by omega)]; exact ⟨by decide, by decide⟩

set_option maxRecDepth 100000 in
theorem sameInts_any (A1 A2 : Option Addr) (n1 n2 c1 c2 : Nat) (xs ys : List Int) (w : World) (h1 : Rd w w.heap.size 1 A1 n1 (intCells xs)) (h2 : Rd w w.heap.size 1 A2 n2 (intCells ys)) (m1 : n1 ≤ 9223372036854775807) (b : Bool) (hb : Hid (decide (xs = ys) = b)) :
    Calls Try.prog 17 #[.slice A1 n1 c1, .slice A2 n2 c2] w (RetB (.bool b) w) := by
  have E1 := Lib.hid (int_len h1)
  have E2 := Lib.hid (int_len h2)
  by_cases hne : n1 = n2
  · subst hne
    go_enter Try.func17, Try.ntmps17
    go_wp2_with fail
    go_loopw [5] (fun x wr => ∃ k : Nat, k ≤ n1 ∧ x = .int .i64 k ∧ xs.take k = ys.take k ∧ Below w.heap.size w wr) (fun x _ => n1 - (intOf x).toNat)
    case atStart => exact ⟨0, by omega, rfl, by simp, Below.refl _ _⟩
    case round =>
      obtain ⟨k, hk, rfl, he, hbl⟩ := hrel
      have Ht := Lib.hid he
      clear he
      by_cases hlt : k < n1
      · obtain ⟨b1, o1, u1, rfl, _, hu1, x1⟩ := (h1.below hbl).at1 hlt
        obtain ⟨b2, o2, u2, rfl, _, hu2, x2⟩ := (h2.below hbl).at1 hlt
        have l1 : k < xs.length := by have := E1.out; omega
        have l2 : k < ys.length := by have := E2.out; omega
        rw [intCells, List.getElem?_map, List.getElem?_eq_getElem l1] at hu1
        rw [intCells, List.getElem?_map, List.getElem?_eq_getElem l2] at hu2
        obtain rfl := (Option.some.inj hu1).symm
        obtain rfl := (Option.some.inj hu2).symm
        obtain ⟨p, hp⟩ : ∃ p, p = xs[k] := ⟨_, rfl⟩
        obtain ⟨q, hq⟩ : ∃ q, q = ys[k] := ⟨_, rfl⟩
        rw [← hp] at x1
        rw [← hq] at x2
        have HP := Lib.hid hp
        have HQ := Lib.hid hq
        have j1 : (k : Int) < (n1 : Int) := by omega
        have j0 : (0 : Int) ≤ (k : Int) := by omega
        clear hp hq hu1 hu2
        by_cases hx : p = q
        · have hx2 : (p == q) = true := by simp [hx]
          have HX := Lib.hid hx
          clear hx
          go_wp2_with fail
          go_quiet (fail)
          go_wp2_with fail
          go_roundw
          case rel => exact ⟨k + 1, by omega, by go_num, take_eq_succ l1 l2 Ht.out (by rw [← HP.out, ← HQ.out, HX.out]), below_drewN hbl _⟩
          case measure => simp [intOf]; omega
        · have hx2 : (p == q) = false := beq_eq_false_iff_ne.2 hx
          have HX := Lib.hid hx
          clear hx
          go_wp2_with fail
          go_quiet (fail)
          go_wp2_with fail
          go_ret
          refine RetB.bool ?_ (below_drewN hbl _)
          rw [← hb.out]
          symm
          rw [decide_eq_false_iff_not]
          intro e
          subst e
          exact HX.out (HP.out.trans HQ.out.symm)
      · obtain rfl : k = n1 := by omega
        go_wp2_with fail
        go_ret
        refine RetB.bool ?_ hbl
        rw [← hb.out]
        have := Ht.out
        rw [List.take_of_length_le (by have := E1.out; omega), List.take_of_length_le (by have := E2.out; omega)] at this
        simp [this]
  · go_enter Try.func17, Try.ntmps17
    go_wp2_with fail
    go_ret
    refine RetB.bool ?_ (Below.refl _ _)
    rw [← hb.out]
    symm
    rw [decide_eq_false_iff_not]
    intro e
    subst e
    exact hne (E1.out.symm.trans E2.out)

/-- a number from 0 to most - 1 -/
def aroundI (n : Int) (most : Int) : Int := (if n < 0 then -(n + 1) else n) % most
theorem around_range (n : Int) {most : Int} (h : 0 < most) : 0 ≤ aroundI n most ∧ aroundI n most < most := ⟨Int.emod_nonneg _ (by omega), Int.emod_lt_of_pos _ h⟩
theorem around_any (n most : Int) (w : World) (h1 : -9223372036854775808 ≤ n) (h2 : n ≤ 9223372036854775807) (h3 : 0 < most) (h4 : most ≤ 9223372036854775807) (r : Int) (hr : Hid (aroundI n most = r)) :
    Calls Try.prog 25 #[.int .i64 n, .int .i64 most] w (Ret (.int .i64 r) w) := by
  by_cases hn : n < 0
  · have HR := Lib.hid (show (-(n + 1)) % most = r by rw [← hr.out, aroundI, if_pos hn])
    have q9 : (most == 0) = false := beq_eq_false_iff_ne.2 (by omega)
    clear hr
    go_enter Try.func25, Try.ntmps25
    go_wp2_with fail
    go_ret
    refine Ret.int ?_
    show -((n + 1).tmod most) = r
    rw [← Int.neg_tmod, Int.tmod_eq_emod_of_nonneg (by omega)]
    exact HR.out
  · have HR := Lib.hid (show n % most = r by rw [← hr.out, aroundI, if_neg hn])
    have q9 : (most == 0) = false := beq_eq_false_iff_ne.2 (by omega)
    clear hr
    go_enter Try.func25, Try.ntmps25
    go_wp2_with fail
    go_ret
    exact Ret.int HR.out

def atI (zs : List Int) (i : Int) (most : Int) : Int := if i < 0 ∨ (zs.length : Int) ≤ i then 0 else aroundI (zs.getD i.toNat 0) most
theorem at_any (A : Option Addr) (n c : Nat) (zs : List Int) (i most : Int) (w : World) (h : Rd w w.heap.size 1 A n (intCells zs)) (hf : Fits zs) (_hn : n ≤ 9223372036854775807) (h3 : 0 < most) (h4 : most ≤ 9223372036854775807) (r : Int) (hr : Hid (atI zs i most = r)) :
    Calls Try.prog 26 #[.slice A n c, .int .i64 i, .int .i64 most] w (Ret (.int .i64 r) w) := by
  have hl := int_len h
  have HL := Lib.hid hl
  by_cases h0 : i < 0
  · have HR := Lib.hid (show 0 = r by rw [← hr.out, atI, if_pos (.inl h0)])
    clear hr
    go_enter Try.func26, Try.ntmps26
    go_wp2_with fail
    go_ret
    exact Ret.int HR.out
  · by_cases h1 : (n : Int) ≤ i
    · have HR := Lib.hid (show 0 = r by rw [← hr.out, atI, if_pos (.inr (by rw [hl]; exact h1))])
      clear hr
      go_enter Try.func26, Try.ntmps26
      go_wp2_with fail
      go_ret
      exact Ret.int HR.out
    · obtain ⟨k, rfl⟩ : ∃ k : Nat, i = k := ⟨i.toNat, by omega⟩
      have hk : k < n := by omega
      obtain ⟨b, off, rfl, _, hc⟩ := h.int hk
      have HR := Lib.hid (show aroundI (zs.getD k 0) most = r by rw [← hr.out, atI, if_neg (by rw [hl]; omega), Int.toNat_natCast])
      have HF := Lib.hid (hf.at_ k)
      generalize zs.getD k 0 = z at *
      have j0 : (0 : Int) ≤ (k : Int) := by omega
      have j1 : (k : Int) < (n : Int) := by omega
      clear hr h hl
      go_enter Try.func26, Try.ntmps26
      go_wp2_with fail
      refine (around_any z most w HF.out.1 HF.out.2 h3 h4 r HR).mono ?_
      rintro e w' ⟨rfl, rfl⟩
      go_wp2_with fail
      go_ret
      exact Ret.mk

def pickI (z : Int) : Int := aroundI z 10 - 1
def picksL (zs : List Int) : List Int := (zs.take 10).map pickI
theorem picks_step {zs : List Int} {k : Nat} (h : k < zs.length) (h2 : k < 10) : (picksL zs).take (k + 1) = (picksL zs).take k ++ [pickI (zs.getD k 0)] := by
  have hl : k < (picksL zs).length := by simp [picksL]; omega
  rw [List.take_succ_eq_append_getElem hl]
  congr 2
  simp [picksL, h]
theorem pick_range (z : Int) : -1 ≤ pickI z ∧ pickI z ≤ 8 := by have := around_range z (most := 10) (by decide); unfold pickI; omega
theorem picks_len (zs : List Int) : (picksL zs).length ≤ 10 := by simp [picksL]; omega

set_option maxHeartbeats 2000000 in
set_option maxRecDepth 100000 in
theorem picks_any (A : Option Addr) (n c : Nat) (zs : List Int) (w : World) (h : Rd w w.heap.size 1 A n (intCells zs)) (hf : Fits zs) (hn : n ≤ 9223372036854775807) :
    Calls Try.prog 14 #[.slice A n c] w (OwnPost w.heap.size 3 1 (picksL zs).length (intCells (picksL zs)) w) := by
  obtain ⟨i0, hi, hz0, hz1, hz2⟩ := info_parts info3
  have Hl := Lib.hid (int_len h)
  go_enter Try.func14, Try.ntmps14
  go_wp2_with fail
  go_loopw [3, 4] (fun v x wr => ∃ k : Nat, k ≤ n ∧ k ≤ 10 ∧ x = .int .i64 k ∧ wr.ownsRow w.heap.size 3 1 v k (intCells ((picksL zs).take k)) ∧ Below w.heap.size w wr) (fun _ x _ => 11 - (intOf x).toNat)
  case atStart => exact ⟨0, by omega, by omega, rfl, World.ownsRow_nil _ _ _ _, Below.refl _ _⟩
  case round =>
    obtain ⟨k, hk, hk3, rfl, hown, hb⟩ := hrel
    have hsz := hb.size
    by_cases hlt : k < n ∧ k < 10
    · obtain ⟨hl1, hl2⟩ := hlt
      obtain ⟨b, o, rfl, hbb, x1⟩ := (h.below hb).int hl1
      obtain ⟨f1, f2⟩ := hf.at_ k
      have Hts := Lib.hid (picks_step (zs := zs) (k := k) (by have := Hl.out; omega) hl2)
      obtain ⟨r, hr⟩ : ∃ r, aroundI (zs.getD k 0) 10 = r := ⟨_, rfl⟩
      have HR := Lib.hid hr
      have hrr := around_range (zs.getD k 0) (most := 10) (by decide)
      rw [hr] at hrr
      have HP := Lib.hid (show pickI (zs.getD k 0) = r - 1 by rw [pickI, hr])
      obtain ⟨r0, r1⟩ := hrr
      have j1 : (k : Int) < (n : Int) := by omega
      have j0 : (0 : Int) ≤ (k : Int) := by omega
      clear hr
      generalize zs.getD k 0 = z1 at *
      go_wp2_with fail
      refine (around_any z1 10 wr f1 f2 (by decide) (by decide) r HR).mono ?_
      rintro e w1 ⟨rfl, rfl⟩
      go_wp2_with (at_builtin; refine wpList_append_own _ rfl _ _ 22 rfl w.heap.size 3 i0 _ 1 8 Try.underlying22 hi hz0 hz1 hz2 rfl (by decide) _ _ _ rfl (hown.alloc _) ⟨wr.heap.size, 0, none⟩ 1 1 [.int .i64 (r - 1)] rfl rfl ?c1 ?c2 ?c3 ?c4 ?c5 ?_)
      case c1 => exact cells_one _ _ _
      case c2 => intro u hu; simp at hu; subst hu; rfl
      case c3 => unfold maxLen; omega
      case c4 => omega
      case c5 => simp; omega
      intro v' w2 hown1 hgrow _
      have hb3 : Below w.heap.size w w2 := (hb.alloc hsz _).grown hgrow (by simp; omega) (fun g hg => (hown.lt g hg).1)
      clear hgrow hown
      go_wp2_with fail
      go_roundw
      case rel =>
        refine ⟨k + 1, by omega, by omega, by go_num, ?_, hb3⟩
        rw [Hts.out, intCells_snoc, HP.out]
        exact hown1
      case measure => simp [intOf]; omega
    · have hpl : (picksL zs).length = k := by have := Hl.out; simp [picksL]; omega
      have hpt : (picksL zs).take k = picksL zs := List.take_of_length_le (by omega)
      rw [hpt] at hown
      have HP := Lib.hid hpl
      clear hpl hpt
      by_cases hn : k < n
      · obtain rfl : k = 10 := by omega
        go_wp2_with fail
        go_ret
        exact ⟨_, rfl, by rw [HP.out]; exact hown, hb⟩
      · go_wp2_with fail
        go_ret
        exact ⟨_, rfl, by rw [HP.out]; exact hown, hb⟩

/-- the numbers below n in a list, increasing, each once -/
def sortedTo (zs : List Int) (n : Nat) : List Int := ((List.range n).filter (fun (i : Nat) => zs.contains (i : Int))).map (fun (i : Nat) => (i : Int))
theorem sortedTo_step (zs : List Int) (k : Nat) : sortedTo zs (k + 1) = sortedTo zs k ++ if zs.contains (k : Int) then [(k : Int)] else [] := by
  unfold sortedTo
  rw [List.range_succ, List.filter_append, List.map_append]
  congr 1
  cases h : zs.contains (k : Int)
  · simp only [List.filter_cons, h, List.filter_nil]; rfl
  · simp only [List.filter_cons, h, List.filter_nil]; rfl
theorem sortedTo_len (zs : List Int) (k : Nat) : (sortedTo zs k).length ≤ k := by
  unfold sortedTo
  rw [List.length_map]
  exact Nat.le_trans (List.length_filter_le _ _) (by rw [List.length_range]; exact Nat.le_refl _)

set_option maxHeartbeats 2000000 in
set_option maxRecDepth 100000 in
theorem rsorted_any (A1 : Option Addr) (n1 c1 : Nat) (A : Option Addr) (n c : Nat) (zs : List Int) (w : World) (h : Rd w w.heap.size 1 A n (intCells zs)) (hn : n ≤ 9223372036854775807) (hn1 : n1 ≤ 100000) :
    Calls Try.prog 20 #[.slice A1 n1 c1, .slice A n c] w (OwnPost w.heap.size 3 1 (sortedTo zs n1).length (intCells (sortedTo zs n1)) w) := by
  obtain ⟨i0, hi, hz0, hz1, hz2⟩ := info_parts info3
  have Hl := Lib.hid (int_len h)
  go_enter Try.func20, Try.ntmps20
  go_wp2_with fail
  go_loopw [5, 6] (fun v x wr => ∃ (k : Nat) (l : List Int) (vv : Value), vv = v ∧ k ≤ n1 ∧ x = .int .i64 k ∧ Hid (l = sortedTo zs k) ∧ l.length ≤ k ∧ wr.ownsRow w.heap.size 3 1 v l.length (intCells l) ∧ Below w.heap.size w wr) (fun _ x _ => n1 - (intOf x).toNat)
  case atStart => exact ⟨0, [], _, rfl, by omega, rfl, Lib.hid rfl, by simp, World.ownsRow_nil _ _ _ _, Below.refl _ _⟩
  case round =>
    obtain ⟨k, l, vv, rfl, hk, rfl, HLD, hll, hown, hb⟩ := hrel
    have hsz := hb.size
    by_cases hlt : k < n1
    · have j1 : (k : Int) < (n1 : Int) := by omega
      have j0 : (0 : Int) ≤ (k : Int) := by omega
      have HST := Lib.hid (sortedTo_step zs k)
      go_wp2_with fail
      go_loopw [5, 7] (fun v' x wq => v' = vv ∧ ∃ q : Nat, q ≤ n ∧ x = .int .i64 q ∧ Hid (∀ y ∈ zs.take q, y ≠ (k : Int)) ∧ wq = wr) (fun _ x _ => n - (intOf x).toNat)
      case atStart => exact ⟨rfl, 0, by omega, rfl, Lib.hid (by simp), rfl⟩
      case round =>
        obtain ⟨rfl, q, hq, rfl, M, rfl⟩ := hrel
        by_cases hlq : q < n
        · obtain ⟨b1, o1, u1, rfl, _, hu1, x1⟩ := (h.below hb).at1 hlq
          have l1 : q < zs.length := by have := Hl.out; omega
          rw [intCells, List.getElem?_map, List.getElem?_eq_getElem l1] at hu1
          obtain rfl := (Option.some.inj hu1).symm
          have HX := Lib.hid (show zs[q]? = some zs[q] from List.getElem?_eq_getElem l1)
          obtain ⟨z, hz⟩ : ∃ z, z = zs[q] := ⟨_, rfl⟩
          rw [← hz] at x1 HX
          have i1 : (q : Int) < (n : Int) := by omega
          have i0' : (0 : Int) ≤ (q : Int) := by omega
          clear hu1 hz
          by_cases he : z = (k : Int)
          · have HC := Lib.hid (show l ++ [(k : Int)] = sortedTo zs (k + 1) by
              rw [HST.out, ← HLD.out, show zs.contains (k : Int) = true by rw [List.contains_iff_mem, ← he]; exact List.mem_of_getElem? HX.out]; rfl)
            subst he
            go_wp2_with (at_builtin; refine wpList_append_own _ rfl _ _ 22 rfl w.heap.size 3 i0 _ 1 8 Try.underlying22 hi hz0 hz1 hz2 rfl (by decide) _ _ _ rfl (hown.alloc _) ⟨wr.heap.size, 0, none⟩ 1 1 [.int .i64 (k : Int)] rfl rfl ?c1 ?c2 ?c3 ?c4 ?c5 ?_)
            case c1 => exact cells_one _ _ _
            case c2 => intro u hu; simp at hu; subst hu; rfl
            case c3 => unfold maxLen; omega
            case c4 => omega
            case c5 => simp; omega
            intro v' w2 hown1 hgrow _
            have hb3 : Below w.heap.size w w2 := (hb.alloc hsz _).grown hgrow (by simp; omega) (fun g hg => (hown.lt g hg).1)
            clear hgrow hown
            go_wp2_with fail
            go_roundw
            case rel =>
              refine ⟨k + 1, l ++ [(k : Int)], _, rfl, by omega, by go_num, HC, by rw [List.length_append, List.length_singleton]; omega, ?_, hb3⟩
              rw [intCells_snoc, List.length_append, List.length_singleton]
              exact hown1
            case measure => simp [intOf]; omega
          · have he2 : (z == (k : Int)) = false := beq_eq_false_iff_ne.2 he
            have M2 := Lib.hid (take_more (P := fun y => y ≠ (k : Int)) HX.out M.out he)
            clear he
            go_wp2_with fail
            go_roundw
            case rel => exact ⟨rfl, q + 1, by omega, by go_num, M2, trivial⟩
            case measure => simp [intOf]; omega
        · obtain rfl : q = n := by omega
          have HC := Lib.hid (show l = sortedTo zs (k + 1) by
            rw [HST.out, ← HLD.out, show zs.contains (k : Int) = false by
              rw [← Bool.not_eq_true, List.contains_iff_mem]
              intro hm
              have := M.out
              rw [List.take_of_length_le (by have := Hl.out; omega)] at this
              exact this _ hm rfl]
            simp)
          go_wp2_with fail
          go_roundw
          case rel => exact ⟨k + 1, l, _, rfl, by omega, by go_num, HC, by omega, hown, hb⟩
          case measure => simp [intOf]; omega
    · obtain rfl : k = n1 := by omega
      go_wp2_with fail
      go_ret
      exact ⟨_, rfl, by rw [← HLD.out]; exact hown, hb⟩
end Go.Proofs.Ytflfachkoffiiaa
