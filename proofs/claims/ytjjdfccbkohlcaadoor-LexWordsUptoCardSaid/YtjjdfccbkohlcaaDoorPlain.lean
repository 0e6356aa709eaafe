/- plain and texts: the tokens as the reference's, and their texts. -/
import Derived.Test.YtjjdfccbkohlcaaDoorLists
import Derived.Deep.RegionHeld3
import Derived.Deep.AppendLies
namespace Go.Proofs.YtjjdfccbkohlcaaDoor
open Go.RowKit

def OwnPost (base : Nat) (ty : TypeId) (size n : Nat) (xs : List Value) (w : World) (e : Ending) (w' : World) : Prop :=
  ∃ v, e = .returned v ∧ w'.ownsRow base ty size v n xs ∧ Below w.heap.size w w'

theorem take_snoc {α : Type} {xs : List α} {k : Nat} (h : k < xs.length) : xs.take (k + 1) = xs.take k ++ [xs[k]] := List.take_succ_eq_append_getElem h

set_option maxRecDepth 100000 in
theorem plain_any (A : Option Addr) (n c : Nat) (ts : List Lx.Tok) (w : World) (h1 : Rd w w.heap.size 2 A n (tokCells ts)) (e1 : ts.length = n) (hn : n ≤ 1000000) :
    Calls Tryd.prog 14 #[.slice A n c] w (OwnPost w.heap.size 56 2 n (tokCells ts) w) := by
  obtain ⟨i0, hi, hz0, hz1, hz2⟩ := info_parts info56
  have E1 := Lib.hid e1
  clear e1
  go_enter Tryd.func14, Tryd.ntmps14
  go_wp2_with fail
  go_loopw [3, 4] (fun v x wr => ∃ k : Nat, k ≤ n ∧ x = .int .i64 k ∧ wr.ownsRow w.heap.size 56 2 v k (tokCells (ts.take k)) ∧ Below w.heap.size w wr) (fun _ x _ => n - (intOf x).toNat)
  case atStart => exact ⟨0, by omega, rfl, World.ownsRow_nil _ _ _ _, Below.refl _ _⟩
  case round =>
    obtain ⟨k, hk, rfl, hown, hb⟩ := hrel
    have hsz := hb.size
    by_cases hlt : k < n
    · obtain ⟨b1, o1, rfl, hb1, x1, x2⟩ := (h1.below hb).tok E1.out hlt
      have l1 : k < ts.length := by have := E1.out; omega
      unfold str at x1 x2
      go_wp2_with fail
      have lt1 := World.block_lt_of_cell? wr _ x1
      have ag : u3.ownBlock ≠ some b1 := fun e => by have := (hown.lt b1 e).1; omega
      have hi0 : (0 : Int) ≤ (k : Int) := Int.natCast_nonneg _
      have hi1 : (k : Int) < (n : Int) := by omega
      go_region_held3 (fun w' => w'.cell? ⟨b1, o1 + k * 2, none⟩ = some (.string ⟨ts[k].text.toArray⟩) ∧ w'.cell? ⟨b1, o1 + k * 2 + 1, none⟩ = some (.string ⟨ts[k].before.toArray⟩))
        (first | go_keep | (go_split_ands; refine ⟨?_, ?_⟩ <;> (rw [hgrow.cell_far _ (by simp; omega) (Ne.symm ag)]; assumption)))
        ((refine step_append_lies _ (by rfl) _ _ _ (by rfl) w.heap.size 56 i0 _ 2 32 Tryd.underlying30 hi hz0 hz1 hz2 rfl (by omega) u3 k _ (by rfl) ((hown.alloc _).drew)
            ⟨wr.heap.size, 0, none⟩ 1 1 [str ts[k].text, str ts[k].before] (by rfl) (by rfl) (World.news_of_block (cs := #[str ts[k].text, str ts[k].before]) (t := 56) (fr := (0, 0)) (heap_alloc_new wr _)) (by simp [Value.oneCell', str])
            (by omega) (by unfold maxLen; omega) (by omega) (by simp; omega) (wr.heap.size + 1) (by simp) ?_; intro gg cap w1 hown1 hgrow hat hlt2))
      have hb3 : Below w.heap.size w w1 := ((hb.alloc hsz _).drew).grown hgrow (by simp; omega) (fun g hg => (hown.lt g hg).1)
      clear hgrow hown
      have hts := take_snoc l1
      have Hts := Lib.hid hts
      clear hts
      go_wp2_with fail
      go_roundw
      case rel =>
        refine ⟨k + 1, by omega, by go_num, ?_, hb3⟩
        rw [Hts.out, tokCells_snoc]
        exact hown1
      case measure => simp [intOf]; omega
    · obtain rfl : k = n := by omega
      go_wp2_with fail
      go_ret
      refine ⟨_, rfl, ?_, hb⟩
      rw [List.take_of_length_le (by have := E1.out; omega)] at hown
      exact hown

theorem cells_one (w : World) (e : TypeId) (a : Value) : ∀ (j : Nat) (u : Value), [a][j]? = some u → (w.alloc (.cells #[a] e)).cell? ((⟨w.heap.size, 0, none⟩ : Addr).add j) = some u := by
  intro j u hj
  match j, hj with
  | 0, hj => rw [show (⟨w.heap.size, 0, none⟩ : Addr).add 0 = ⟨w.heap.size, 0, none⟩ from rfl, World.cell?_alloc_at _ _ _ _ rfl]; simpa using hj
  | j + 1, hj => simp at hj
theorem info9 : (Tryd.prog.info? 9).map (fun i => (i.zero, i.size, i.bytes)) = some (some (.string ⟨#[]⟩), 1, 16) := by kernel_rfl
theorem strCells_snoc (ss : List Lx.Bs) (s : Lx.Bs) : strCells (ss ++ [s]) = strCells ss ++ [str s] := by simp [strCells]

set_option maxRecDepth 100000 in
theorem texts_any (A : Option Addr) (n c : Nat) (ts : List Lx.Tok) (w : World) (h1 : Rd w w.heap.size 2 A n (tokCells ts)) (e1 : ts.length = n) (hn : n ≤ 1000000) :
    Calls Tryd.prog 34 #[.slice A n c] w (OwnPost w.heap.size 9 1 n (strCells (ts.map (·.text))) w) := by
  obtain ⟨i0, hi, hz0, hz1, hz2⟩ := info_parts info9
  have E1 := Lib.hid e1
  clear e1
  go_enter Tryd.func34, Tryd.ntmps34
  go_wp2_with fail
  go_loopw [3, 4] (fun v x wr => ∃ k : Nat, k ≤ n ∧ x = .int .i64 k ∧ wr.ownsRow w.heap.size 9 1 v k (strCells ((ts.map (·.text)).take k)) ∧ Below w.heap.size w wr) (fun _ x _ => n - (intOf x).toNat)
  case atStart => exact ⟨0, by omega, rfl, World.ownsRow_nil _ _ _ _, Below.refl _ _⟩
  case round =>
    obtain ⟨k, hk, rfl, hown, hb⟩ := hrel
    have hsz := hb.size
    by_cases hlt : k < n
    · obtain ⟨b1, o1, rfl, hb1, x1, _⟩ := (h1.below hb).tok E1.out hlt
      have l1 : k < ts.length := by have := E1.out; omega
      unfold str at x1
      go_wp2_with (at_builtin; refine wpList_append_own _ rfl _ _ 26 rfl w.heap.size 9 i0 _ 1 16 Tryd.underlying26 hi hz0 hz1 hz2 rfl (by decide) _ _ _ rfl (hown.alloc _) ⟨wr.heap.size, 0, none⟩ 1 1 [str ts[k].text] rfl rfl ?c1 ?c2 ?c3 ?c4 ?c5 ?_)
      case c1 =>
        exact cells_one _ _ _
      case c2 => intro u hu; simp at hu; subst hu; rfl
      case c3 => unfold maxLen; omega
      case c4 => omega
      case c5 => simp; omega
      intro v' w1 hown1 hgrow _
      have hb3 : Below w.heap.size w w1 := (hb.alloc hsz _).grown hgrow (by simp; omega) (fun g hg => (hown.lt g hg).1)
      clear hgrow hown
      have Hts := Lib.hid (take_snoc (xs := ts.map (·.text)) (k := k) (by simpa using l1))
      go_wp2_with fail
      go_roundw
      case rel =>
        refine ⟨k + 1, by omega, by go_num, ?_, hb3⟩
        rw [Hts.out, strCells_snoc, List.getElem_map]
        exact hown1
      case measure => simp [intOf]; omega
    · obtain rfl : k = n := by omega
      go_wp2_with fail
      go_ret
      refine ⟨_, rfl, ?_, hb⟩
      rw [List.take_of_length_le (by rw [List.length_map]; have := E1.out; omega)] at hown
      exact hown
end Go.Proofs.YtjjdfccbkohlcaaDoor
