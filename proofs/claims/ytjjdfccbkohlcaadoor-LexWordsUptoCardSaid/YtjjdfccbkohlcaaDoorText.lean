/- lex.Text: the text of tokens and an end. -/
import Derived.Test.YtjjdfccbkohlcaaDoorBuilder
import Derived.Test.YtjjdfccbkohlcaaDoorLives
namespace Go.Proofs.YtjjdfccbkohlcaaDoor
open Go.RowKit

def flat (ts : List Lx.Tok) : Lx.Bs := ts.flatMap fun t => t.before ++ t.text
theorem flat_snoc (ts : List Lx.Tok) (t : Lx.Tok) : flat (ts ++ [t]) = flat ts ++ (t.before ++ t.text) := by simp [flat]
theorem bldAt_go {T e : TypeId} {B b : Nat} {p : Value} {bs : List Value} {w w' : World} (h : Lib.BuilderAt T e B b p bs w) (hb : Below w.heap.size w w') : Lib.BuilderAt T e B b p bs w' := by
  have hlt := h.lt
  obtain ⟨h1, v, h2, h3, h4⟩ := h
  exact ⟨h1, v, (hb.block b hlt).trans h2, own_below h3 hb, h4⟩
theorem bld_go {T e : TypeId} {B b : Nat} {bs : List Value} {w w' : World} (h : Lib.IsBuilder T e B b bs w) (hb : Below w.heap.size w w') : Lib.IsBuilder T e B b bs w' :=
  h.imp (fun h => bldAt_go h hb) (fun h => bldAt_go h hb)
theorem RetB.str' {a : ByteArray} {b : Lx.Bs} {w w' : World} (h : a = ⟨b.toArray⟩) (hb : Below w.heap.size w w') : RetB (str b) w (.returned (.string a)) w' := by rw [h]; exact ⟨rfl, hb⟩
theorem flat_le (ts : List Lx.Tok) (k : Nat) : (flat (ts.take k)).length ≤ (flat ts).length := by
  have : flat ts = flat (ts.take k) ++ flat (ts.drop k) := by rw [flat, flat, flat, ← List.flatMap_append, List.take_append_drop]
  rw [this, List.length_append]; omega
theorem info61z : (Tryd.prog.info? 61).map (fun i => (i.zero, i.size)) = some (some (.agg #[.pointer none, .slice none 0 0]), 2) := by kernel_rfl

set_option maxHeartbeats 2000000 in
set_option maxRecDepth 100000 in
theorem text_any (A : Option Addr) (n c : Nat) (ts : List Lx.Tok) (e : ByteArray) (w : World) (h1 : Rd w w.heap.size 2 A n (tokCells ts)) (e1 : ts.length = n) (hn : n ≤ 1000000) (hl : (flat ts).length + e.size ≤ 140737488355328) :
    Calls Tryd.prog 21 #[.slice A n c, .string e] w (RetB (str (flat ts ++ e.data.toList)) w) := by
  have E1 := Lib.hid e1
  clear e1
  go_enter Tryd.func21, Tryd.ntmps21
  go_wp2_with fail
  go_loopw [10] (fun x wr => ∃ k : Nat, k ≤ n ∧ x = .int .i64 k ∧ Lib.IsBuilder 61 5 w.heap.size w.heap.size (Lib.byteCells (flat (ts.take k))) wr ∧ Below w.heap.size w wr) (fun x _ => n - (intOf x).toNat)
  case atStart => exact ⟨0, by omega, rfl, Lib.fresh_isBuilder 61 5 w, by go_grown⟩
  case round =>
    obtain ⟨k, hk, rfl, hbd, hb⟩ := hrel
    have hsz := hb.size
    by_cases hlt : k < n
    · obtain ⟨b1, o1, rfl, hb1, x1, x2⟩ := (h1.below hb).tok E1.out hlt
      have l1 : k < ts.length := by have := E1.out; omega
      have Hts := Lib.hid (take_snoc (xs := ts) (k := k) l1)
      have f1 := flat_le ts (k + 1)
      rw [take_snoc l1, flat_snoc, List.length_append, List.length_append] at f1
      obtain ⟨p, hp⟩ : ∃ p : ByteArray, p = ⟨ts[k].text.toArray⟩ := ⟨_, rfl⟩
      obtain ⟨q, hq⟩ : ∃ q : ByteArray, q = ⟨ts[k].before.toArray⟩ := ⟨_, rfl⟩
      have sp : p.size = ts[k].text.length := by rw [hp]; simp [ByteArray.size]
      have sq : q.size = ts[k].before.length := by rw [hq]; simp [ByteArray.size]
      have hs : Lib.strCells (q ++ p) = Lib.byteCells (ts[k].before ++ ts[k].text) := by rw [hp, hq, Lib.strCells, Lib.byteCells]; simp
      unfold str at x1 x2
      rw [← hp] at x1
      rw [← hq] at x2
      have a1 : ¬ 9223372036854775807 < q.size + p.size := by omega
      have Hs := Lib.hid hs
      clear hs hp hq
      go_wp2_with fail
      have g0 := below_new wr (.cells #[.string p, .string q] 38)
      refine (writeString_any w.heap.size w.heap.size _ _ _ (bld_go hbd g0) (by rw [Lib.byteCells_length, ByteArray.size_append]; omega) (by rw [World.size_alloc]; omega)).mono ?_
      rintro e' w2 ⟨rfl, hbd2, hb2⟩
      have hb3 : Below w.heap.size w w2 := (below_go hb g0).trans hb2
      clear hbd g0
      go_wp2_with fail
      go_roundw
      case rel =>
        refine ⟨k + 1, by omega, by go_num, ?_, hb3⟩
        rw [Hts.out, flat_snoc, show Lib.byteCells (flat (ts.take k) ++ (ts[k].before ++ ts[k].text)) = Lib.byteCells (flat (ts.take k)) ++ Lib.byteCells (ts[k].before ++ ts[k].text) from by simp [Lib.byteCells], ← Hs.out]
        exact .inr hbd2
      case measure => simp [intOf]; omega
    · obtain rfl : k = n := by omega
      have ht : ts.take k = ts := List.take_of_length_le (by have := E1.out; omega)
      rw [ht] at hbd
      go_wp2_with fail
      refine (Tryd.Builder_String_any w.heap.size w.heap.size (flat ts) wr hbd hsz).mono ?_
      rintro e' w2 ⟨rfl, hb2⟩
      have a1 : ¬ 9223372036854775807 < (⟨(flat ts).toArray⟩ : ByteArray).size + e.size := by rw [show (⟨(flat ts).toArray⟩ : ByteArray).size = (flat ts).length from by simp [ByteArray.size]]; omega
      go_wp2_with fail
      go_ret
      refine RetB.str' ?_ (hb.trans hb2)
      apply Go.WideShapes.bytes_inj
      simp [ByteArray.data_append]
end Go.Proofs.YtjjdfccbkohlcaaDoor
