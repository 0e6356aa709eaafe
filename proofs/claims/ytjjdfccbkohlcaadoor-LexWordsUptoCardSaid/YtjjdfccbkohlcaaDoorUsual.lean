/- tight and Usual. -/
import Derived.Test.YtjjdfccbkohlcaaDoorPlain
import Derived.Laws.MakeOwn
import Derived.Laws.Entries
import Derived.Deep.Draws
namespace Go.Proofs.YtjjdfccbkohlcaaDoor
open Go.RowKit

def tightP (p q : ByteArray) : Bool := (q.toList == [41] || q.toList == [93] || q.toList == [44] || q.toList == [46]) || (p.toList == [40] || p.toList == [91] || p.toList == [46])
theorem tight_any (p q : ByteArray) (w : World) (b : Bool) (hb : Hid (tightP p q = b)) : Calls Tryd.prog 35 #[.string p, .string q] w (Ret (.bool b) w) := by
  go_enter Tryd.func35, Tryd.ntmps35
  go_wp2_with fail
  all_goals go_ret
  all_goals exact Ret.bool (by rw [← hb.out, tightP]; simp_all)

/-- block g is just these cells, none frozen -/
def Blk (w : World) (g : Nat) (t : TypeId) (cs : Array Value) : Prop := w.heap[g]? = some (.cells cs t (0, 0))
section
variable {w w' : World} {g : Nat} {t : TypeId} {cs : Array Value}
theorem Blk.lt (h : Blk w g t cs) : g < w.heap.size := (Array.getElem?_eq_some_iff.1 h).1
theorem Blk.cell (h : Blk w g t cs) (i : Nat) : w.cell? ⟨g, i, none⟩ = cs[i]? := cell_of_row w g i cs t (0, 0) h
theorem Blk.frozen (h : Blk w g t cs) (i : Nat) : w.frozen? ⟨g, i, none⟩ = false := by
  unfold Blk at h
  simp [World.frozen?, h]
theorem Blk.new (w : World) (t : TypeId) (cs : Array Value) : Blk (w.alloc (.cells cs t)) w.heap.size t cs := heap_alloc_new w _
theorem Blk.drewN (h : Blk w g t cs) (n : Nat) : Blk (w.drewN n) g t cs := h
theorem Blk.set_ (h : Blk w g t cs) (i : Nat) (u : Value) : Blk (w.setCell ⟨g, i, none⟩ u) g t (cs.setIfInBounds i u) := by
  unfold Blk at h ⊢
  simp [World.setCell, Array.getElem?_modify, h]
theorem Blk.below {B : Nat} (h : Blk w g t cs) (hb : Below B w w') (hg : g < B) : Blk w' g t cs := (hb.block g hg).trans h
end

theorem run_make_rowN {P : Program} (t e : TypeId) (i : TypeInfo) (z : Value) (ht : P.underlying t = some (.slice e)) (hi : P.info? e = some i) (hz : i.zero = some z)
    (kl kc : IntKind) (n c : Nat) (hnc : n ≤ c) (hbytes : i.bytes * c ≤ 281474976710656) (h63 : c ≤ 9223372036854775807) (w : World) :
    (Instr.makeSlice t (.int kl (n : Int)) (.int kc (c : Int))).run P w = .ok (.slice (some ⟨w.heap.size, 0, none⟩) n c) (w.alloc (.cells (madeCells z.cells (c * i.size)) e)) := by
  have hb : (i.bytes : Int) * (c : Int) ≤ 281474976710656 := by
    have h : ((i.bytes * c : Nat) : Int) ≤ 281474976710656 := by omega
    rwa [Int.natCast_mul] at h
  have hr := run_make (P := P) w t e i z ht hi hz kl kc n c (by omega) (by omega) hb (by omega)
  simp only [Int.toNat_natCast] at hr
  exact hr
theorem made_list (v : Value) (n : Nat) : (madeCells #[v] n).toList = List.replicate n v := by
  apply List.ext_getElem
  · simp [madeCells]
  · intro i h1 h2
    simp [madeCells, Nat.mod_one]

/-- what stands before token i -/
def usualAt (ss : List Lx.Bs) (i : Nat) : Lx.Bs := if i = 0 ∨ ss.length ≤ i then [] else if tightP ⟨(ss.getD (i - 1) []).toArray⟩ ⟨(ss.getD i []).toArray⟩ then [] else [32]
def usualL (ss : List Lx.Bs) : List Lx.Bs := (List.range (ss.length + 1)).map (usualAt ss)
def usualTo (ss : List Lx.Bs) (k : Nat) : List Lx.Bs := (List.range (ss.length + 1)).map fun i => if i < k then usualAt ss i else []
theorem usualTo_one (ss : List Lx.Bs) : strCells (usualTo ss 1) = List.replicate (ss.length + 1) (str []) := by
  apply List.ext_getElem
  · simp [strCells, usualTo]
  · intro i h1 h2
    simp only [strCells, usualTo, List.getElem_map, List.getElem_range, List.getElem_replicate]
    split
    · rw [usualAt, if_pos (.inl (by omega))]
    · rfl
theorem usualTo_end (ss : List Lx.Bs) (k : Nat) (h : ss.length ≤ k) : usualTo ss k = usualL ss := by
  apply List.map_congr_left
  intro i hi
  have := List.mem_range.1 hi
  split
  · rfl
  · rw [usualAt, if_pos (.inr (by omega))]
theorem usualTo_step (ss : List Lx.Bs) (k : Nat) : strCells (usualTo ss (k + 1)) = (strCells (usualTo ss k)).set k (str (usualAt ss k)) := by
  apply List.ext_getElem
  · simp [strCells, usualTo]
  · intro i h1 h2
    simp only [strCells, usualTo, List.getElem_map, List.getElem_range, List.getElem_set]
    by_cases e : k = i
    · subst e; rw [if_pos (by omega), if_pos rfl]
    · rw [if_neg e]
      by_cases hl : i < k
      · rw [if_pos (by omega), if_pos hl]
      · rw [if_neg (by omega), if_neg hl]
theorem usualTo_same (ss : List Lx.Bs) (k : Nat) (h : usualAt ss k = []) : strCells (usualTo ss (k + 1)) = strCells (usualTo ss k) := by
  simp only [strCells, usualTo]
  congr 1
  apply List.map_congr_left
  intro i hi
  by_cases e : i = k
  · subst e; rw [if_pos (by omega), if_neg (by omega), h]
  · by_cases hl : i < k
    · rw [if_pos (by omega), if_pos hl]
    · rw [if_neg (by omega), if_neg hl]

set_option maxRecDepth 100000 in
theorem usual_any (A : Option Addr) (n c : Nat) (ss : List Lx.Bs) (w : World) (h1 : Rd w w.heap.size 1 A n (strCells ss)) (hn : n ≤ 1000000) :
    Calls Tryd.prog 18 #[.slice A n c] w (OwnPost w.heap.size 9 1 (n + 1) (strCells (usualL ss)) w) := by
  obtain ⟨i0, hi, hz0, hz1, hz2⟩ := info_parts info9
  have hl : ss.length = n := by have := h1.1; simpa [strCells] using this
  have Hl := Lib.hid hl
  clear hl
  have ec : ((n + 1 : Nat) : Int) = (n : Int) + 1 := by omega
  have hmk := fun W => run_make_rowN (P := Tryd.prog) 26 9 i0 _ Tryd.underlying26 hi hz0 .i64 .i64 (n + 1) (n + 1) (Nat.le_refl _) (by rw [hz2]; omega) (by omega) W
  rw [ec] at hmk
  clear ec
  have hC0 : (madeCells (Value.string ⟨#[]⟩).cells ((n + 1) * i0.size)).toList = strCells (usualTo ss 1) := by
    rw [usualTo_one, hz1, Nat.mul_one, ← Hl.out]; exact made_list _ _
  generalize madeCells (Value.string ⟨#[]⟩).cells ((n + 1) * i0.size) = C0 at *
  have HC := Lib.hid hC0
  clear hC0 hz0 hz1 hz2 hi
  go_enter Tryd.func18, Tryd.ntmps18
  go_wp2_with fail
  go_loopw [4] (fun x wr => ∃ (k : Nat) (C : Array Value), 1 ≤ k ∧ k ≤ n + 1 ∧ x = .int .i64 k ∧ C.toList = strCells (usualTo ss k) ∧ Blk wr w.heap.size 9 C ∧ Below w.heap.size w wr) (fun x _ => n + 1 - (intOf x).toNat)
  case atStart => exact ⟨1, C0, by omega, by omega, rfl, HC.out, Blk.new _ _ _, by go_grown⟩
  case round =>
    obtain ⟨k, C, hk1, hk, rfl, hC, hB, hb⟩ := hrel
    have hsz := hb.size
    have Hc := Lib.hid hC
    clear hC hmk
    by_cases hlt : k < n
    · obtain ⟨b, o, rfl, hbb, x1⟩ := (h1.below hb).str Hl.out hlt
      obtain ⟨b', o', e, _, x2⟩ := (h1.below hb).str Hl.out (show k - 1 < n by omega)
      injection e with e
      injection e with e1 e2
      subst e1 e2
      obtain ⟨p, hp⟩ : ∃ p : ByteArray, p = ⟨(ss[k - 1]'(by have := Hl.out; omega)).toArray⟩ := ⟨_, rfl⟩
      obtain ⟨q, hq⟩ : ∃ q : ByteArray, q = ⟨(ss[k]'(by have := Hl.out; omega)).toArray⟩ := ⟨_, rfl⟩
      rw [← hq] at x1
      rw [← hp] at x2
      have hu : usualAt ss k = if tightP p q then [] else [32] := by
        rw [usualAt, if_neg (by have := Hl.out; omega), hp, hq, List.getD_eq_getElem?_getD, List.getD_eq_getElem?_getD, List.getElem?_eq_getElem, List.getElem?_eq_getElem, Option.getD_some, Option.getD_some]
      have Hu := Lib.hid hu
      clear hu hp hq
      have cc : wr.cell? ⟨w.heap.size, k, none⟩ = C[k]? := hB.cell k
      have cf : wr.frozen? ⟨w.heap.size, k, none⟩ = false := hB.frozen k
      have hCs : C.size = n + 1 := by have := congrArg List.length Hc.out; simp [strCells, usualTo] at this; have := Hl.out; omega
      rw [Array.getElem?_eq_getElem (by omega)] at cc
      generalize C[k]'(by omega) = old at cc
      have v1 : IntKind.i64.wrap ((k : Int) - 1) = (k : Int) - 1 := IntWalk.i64_in _ (by omega)
      have v2 : (0 : Int) ≤ (k : Int) - 1 := by omega
      have v4 : (1 : Int) ≤ (k : Int) := by omega
      have v3 : ((k : Int) - 1).toNat = k - 1 := by omega
      have v5 : (k : Int) - 1 < (n : Int) := by omega
      have v6 : (k : Int) < (n : Int) := by omega
      cases ht : tightP p q
      · have Ht := Lib.hid ht
        clear ht hCs
        go_wp2_with fail
        go_quiet ((go_at_call 35; exact Calls.quiet_of_same (Ret.same (tight_any _ _ _ false Ht))))
        go_wp2_with fail
        go_roundw
        case rel =>
          refine ⟨k + 1, C.setIfInBounds k (str [32]), by omega, by omega, by go_num, ?_, (hB.drewN nq).set_ k _, (below_drewN hb nq).setCell (Nat.le_refl _) _⟩
          rw [usualTo_step, ← Hc.out, Hu.out, Ht.out]
          simp
        case measure => simp [intOf]; omega
      · have Ht := Lib.hid ht
        clear ht hCs
        go_wp2_with fail
        go_quiet ((go_at_call 35; exact Calls.quiet_of_same (Ret.same (tight_any _ _ _ true Ht))))
        go_wp2_with fail
        go_roundw
        case rel => exact ⟨k + 1, C, by omega, by omega, by go_num, by rw [usualTo_same _ _ (by rw [Hu.out, Ht.out]; rfl)]; exact Hc.out, hB.drewN nq, below_drewN hb nq⟩
        case measure => simp [intOf]; omega
    · go_wp2_with fail
      go_ret
      have hCl := Hc.out
      rw [usualTo_end _ _ (by have := Hl.out; omega)] at hCl
      have hCs : C.size = n + 1 := by have := congrArg List.length hCl; simp [strCells, usualL] at this; have := Hl.out; omega
      refine ⟨_, rfl, ⟨?_, .inr ⟨w.heap.size, n + 1, C, rfl, Nat.le_refl _, hB, Nat.le_refl _, by unfold maxLen; omega, by omega, ?_⟩⟩, hb⟩
      · rw [← hCl]; simpa using hCs
      · rw [List.take_of_length_le (by simp; omega), hCl]
end Go.Proofs.YtjjdfccbkohlcaaDoor
