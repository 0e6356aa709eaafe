/- Scan and the reference's Scan. -/
import Derived.Test.YtjjdfccbkohlcaaDoorRef
import Derived.Test.YtjjdfccbkohlcaaDoorMem
import Derived.Handy
namespace Go.Proofs.YtjjdfccbkohlcaaDoor
open Go.RowKit

abbrev str (l : Lx.Bs) : Value := .string ⟨l.toArray⟩
def tokCells (ts : List Lx.Tok) : List Value := ts.flatMap fun t => [str t.text, str t.before]
/-- what both Scans return: e: the number of the token's type -/
def ScanPost (ty : TypeId) (s : ByteArray) (w : World) (e : Ending) (w' : World) : Prop :=
  ∃ v, e = .returned (.tuple #[v, str (Lx.scanT s.data.toList).2.1, .int .i64 (Lx.scanT s.data.toList).2.2]) ∧
    w'.ownsRow w.heap.size ty 2 v (Lx.scanT s.data.toList).1.length (tokCells (Lx.scanT s.data.toList).1) ∧ Below w.heap.size w w'

theorem info38 : (Tryd.prog.info? 38).map (fun i => (i.zero, i.size, i.bytes)) = some (some (.agg #[.string ⟨#[]⟩, .string ⟨#[]⟩]), 2, 32) := by kernel_rfl
theorem info56 : (Tryd.prog.info? 56).map (fun i => (i.zero, i.size, i.bytes)) = some (some (.agg #[.string ⟨#[]⟩, .string ⟨#[]⟩]), 2, 32) := by kernel_rfl

theorem below_tabs {B : Nat} {w w' : World} (h : Below B w w') (hB : w.heap.size ≤ B) (ht : Tabs w) : Tabs w' := by
  obtain ⟨⟨t1, f1, h1⟩, ⟨t2, f2, h2⟩⟩ := ht
  exact ⟨⟨t1, f1, (h.block 1 (Nat.lt_of_lt_of_le (Array.getElem?_eq_some_iff.1 h1).1 hB)).trans h1⟩, ⟨t2, f2, (h.block 2 (Nat.lt_of_lt_of_le (Array.getElem?_eq_some_iff.1 h2).1 hB)).trans h2⟩⟩

theorem scanT_long {l : Lx.Bs} (h : 8192 < l.length) : Lx.scanT l = ([], [], 8192) := by rw [Lx.scanT, if_pos h]
theorem scanT_ok {l : Lx.Bs} {ts : List Lx.Tok} {e : Lx.Bs} (h : ¬ 8192 < l.length) (hs : Lx.scan l = .ok (ts, e)) : Lx.scanT l = (ts, e, -1) := by rw [Lx.scanT, if_neg h, hs]
theorem scanT_bad {l : Lx.Bs} {n : Nat} (h : ¬ 8192 < l.length) (hs : Lx.scan l = .error n) : Lx.scanT l = ([], [], (n : Int)) := by rw [Lx.scanT, if_neg h, hs]

section
variable {l : Lx.Bs} {acc : List Lx.Tok} {k n m : Nat}
theorem round_end (hl : Lx.scan l = Lx.after acc k (Lx.scan (l.drop k))) (hn : Lx.skipN false (l.drop k) = n) (h : k + n = l.length) : Lx.scan l = .ok (acc, (l.drop k).take n) := by
  rw [hl, Lx.scan_end (by rw [hn, List.length_drop]; omega), List.take_of_length_le (by rw [List.length_drop]; omega)]; simp [Lx.after]
theorem round_bad (hl : Lx.scan l = Lx.after acc k (Lx.scan (l.drop k))) (hn : Lx.skipN false (l.drop k) = n) (h : k + n < l.length) (h0 : Lx.tokN (l.drop (k + n)) = 0) : Lx.scan l = .error (k + n) := by
  rw [hl, Lx.scan_bad (by rw [hn, List.length_drop]; omega) (by rw [hn, List.drop_drop]; exact h0), hn]; simp [Lx.after]
theorem round_next (hl : Lx.scan l = Lx.after acc k (Lx.scan (l.drop k))) (hn : Lx.skipN false (l.drop k) = n) (h : k + n < l.length) (hm : Lx.tokN (l.drop (k + n)) = m) (h0 : 0 < m) :
    Lx.scan l = Lx.after (acc ++ [⟨(l.drop (k + n)).take m, (l.drop k).take n⟩]) (k + n + m) (Lx.scan (l.drop (k + n + m))) := by
  rw [hl, Lx.scan_step (by rw [hn, List.length_drop]; omega) (by rw [hn, List.drop_drop, hm]; omega), Lx.after_after, hn, List.drop_drop, List.drop_drop, hm, ← Nat.add_assoc]
theorem round_room (hn : Lx.skipN false (l.drop k) = n) (hk : k ≤ l.length) : k + n ≤ l.length := by
  have := Lx.skipN_le false (l.drop k); rw [List.length_drop] at this; omega
theorem round_more (hm : Lx.tokN (l.drop (k + n)) = m) (hk : k + n ≤ l.length) : k + n + m ≤ l.length := by
  have := Lx.tokN_le (l.drop (k + n)); rw [List.length_drop] at this; omega
end
theorem tokCells_snoc (acc : List Lx.Tok) (t : Lx.Tok) : tokCells (acc ++ [t]) = tokCells acc ++ [str t.text, str t.before] := by simp [tokCells]
theorem str_extract (s : ByteArray) (a b : Nat) : Value.string (s.extract a b) = str ((s.data.toList.drop a).take (b - a)) := by rw [str, ← Lib.extract_data]
theorem size_list (s : ByteArray) : s.data.toList.length = s.size := by simp

theorem cells_two (w : World) (e : TypeId) (a b : Value) : ∀ (j : Nat) (u : Value), [a, b][j]? = some u → (w.alloc (.cells #[a, b] e)).cell? ((⟨w.heap.size, 0, none⟩ : Addr).add j) = some u := by
  intro j u hj
  match j, hj with
  | 0, hj => rw [show (⟨w.heap.size, 0, none⟩ : Addr).add 0 = ⟨w.heap.size, 0, none⟩ from rfl, World.cell?_alloc_at _ _ _ _ rfl]; simpa using hj
  | 1, hj => rw [show (⟨w.heap.size, 0, none⟩ : Addr).add 1 = ⟨w.heap.size, 1, none⟩ from rfl, World.cell?_alloc_at _ _ _ _ rfl]; simpa using hj
  | j + 2, hj => simp at hj

set_option maxRecDepth 100000 in
theorem scan_any (s : ByteArray) (w : World) (hs : s.size ≤ 9223372036854775000) (ht : Tabs w) : Calls Tryd.prog 11 #[.string s] w (ScanPost 38 s w) := by
  obtain ⟨i0, hi, hz0, hz1, hz2⟩ := info_parts info38
  go_enter Tryd.func11, Tryd.ntmps11
  by_cases h : 8192 < s.size
  · go_wp2_with fail
    go_step3
    go_wp2_with fail
    rw [Exit.noGoto_ret]
    go_ret3
    have h' : 8192 < s.data.toList.length := by simpa using h
    refine ⟨.slice none 0 0, by rw [scanT_long h']; rfl, by rw [scanT_long h']; exact World.ownsRow_nil _ _ _ _, Below.refl _ _⟩
  · go_wp2_with fail
    go_step3
    go_wp2_with fail
    go_step3
    go_wp2_with fail
    go_loopw [5, 6] (fun v x wr => ∃ (k : Nat) (acc : List Lx.Tok), k ≤ s.size ∧ acc.length ≤ k ∧ x = .int .i64 k ∧ Lx.scan s.data.toList = Lx.after acc k (Lx.scan (s.data.toList.drop k)) ∧ wr.ownsRow w.heap.size 38 2 v acc.length (tokCells acc) ∧ Below w.heap.size w wr)
      (fun _ x _ => s.size - (intOf x).toNat)
    case atStart => exact ⟨0, [], by omega, by simp, rfl, by rw [List.drop_zero, Lx.after_nil], World.ownsRow_nil _ _ _ _, Below.refl _ _⟩
    case round =>
      obtain ⟨k, acc, hk, hacc, rfl, he, hown, hb⟩ := hrel
      have He := Lib.hid he
      clear he
      go_wp2_with fail
      refine (blanks_any _ _ (by simp; omega)).mono ?_
      rintro e w' ⟨rfl, rfl⟩
      rw [Lib.extract_to_end]
      obtain ⟨n, hn⟩ : ∃ n, Lx.skipN false (s.data.toList.drop k) = n := ⟨_, rfl⟩
      have hroom := round_room hn (by rw [size_list]; exact hk)
      rw [size_list] at hroom
      rw [hn]
      have Hn := Lib.hid hn
      clear hn
      by_cases hend : k + n = s.size
      · have H := Lib.hid (scanT_ok (by rw [size_list]; exact h) (round_end He.out Hn.out (by rw [size_list]; exact hend)))
        go_wp2_with fail
        rw [Exit.noGoto_ret]
        go_ret3
        refine ⟨_, by rw [H.out, str_extract, show k + n - k = n from by omega]; rfl, by rw [H.out]; exact hown, hb⟩
      · go_wp2_with fail
        refine (token_any _ _ (by simp; omega) (by simp; omega) (below_tabs hb (Nat.le_refl _) ht)).mono ?_
        rintro e w1 ⟨rfl, hb1⟩
        rw [Lib.extract_to_end]
        obtain ⟨m, hm⟩ : ∃ m, Lx.tokN (s.data.toList.drop (k + n)) = m := ⟨_, rfl⟩
        have hmore := round_more hm (by rw [size_list]; exact hroom)
        rw [size_list] at hmore
        rw [hm]
        have Hm := Lib.hid hm
        clear hm
        have hb2 := hb.trans (hb1.mono hb.size)
        by_cases h0 : m = 0
        · have H := Lib.hid (scanT_bad (by rw [size_list]; exact h) (round_bad He.out Hn.out (by rw [size_list]; omega) (Hm.out.trans h0)))
          go_wp2_with fail
          rw [Exit.noGoto_ret]
          go_ret3
          refine ⟨.slice none 0 0, ?_, ?_, hb2⟩
          · rw [H.out]; rfl
          · rw [H.out]; exact World.ownsRow_nil _ _ _ _
        · have H := Lib.hid (round_next He.out Hn.out (by rw [size_list]; omega) Hm.out (by omega))
          have hown1 := own_below hown hb1
          have hsz := hb2.size
          clear hown
          go_wp2_with (at_builtin; refine wpList_append_own _ rfl _ _ 27 rfl w.heap.size 38 i0 _ 2 32 Tryd.underlying27 hi hz0 hz1 hz2 rfl (by decide) _ _ _ rfl (hown1.alloc _) ⟨w1.heap.size, 0, none⟩ 1 1 [.string (s.extract (k + n) (k + n + m)), .string (s.extract k (k + n))] rfl rfl ?c1 ?c2 ?c3 ?c4 ?c5 ?_)
          case c1 => exact cells_two _ _ _ _
          case c2 => intro u hu; simp at hu; rcases hu with rfl | rfl <;> rfl
          case c3 => unfold maxLen; omega
          case c4 => omega
          case c5 => simp; omega
          intro v' w2 hown2 hg2 _
          have hb3 : Below w.heap.size w w2 := (hb2.alloc hsz _).grown hg2 (by simp; omega) (fun g hg => (hown1.lt g hg).1)
          clear hown1 hg2
          go_wp2_with fail
          go_roundw
          case rel =>
            refine ⟨k + n + m, _, hmore, ?_, by go_num, H.out, ?_, hb3⟩
            · simp; omega
            · rw [tokCells_snoc, List.length_append]
              rw [str_extract, str_extract, show k + n + m - (k + n) = m from by omega, show k + n - k = n from by omega] at hown2
              exact hown2
          case measure => simp [intOf]; omega
set_option maxRecDepth 100000 in
theorem rscan_any (s : ByteArray) (w : World) (hs : s.size ≤ 9223372036854775000) : Calls Tryd.prog 12 #[.string s] w (ScanPost 56 s w) := by
  obtain ⟨i0, hi, hz0, hz1, hz2⟩ := info_parts info56
  go_enter Tryd.func12, Tryd.ntmps12
  by_cases h : 8192 < s.size
  · go_wp2_with fail
    go_ret3
    have h' : 8192 < s.data.toList.length := by simpa using h
    refine ⟨.slice none 0 0, by rw [scanT_long h']; rfl, by rw [scanT_long h']; exact World.ownsRow_nil _ _ _ _, Below.refl _ _⟩
  · go_wp2_with fail
    go_loopw [5, 6] (fun v x wr => ∃ (k : Nat) (acc : List Lx.Tok), k ≤ s.size ∧ acc.length ≤ k ∧ x = .int .i64 k ∧ Lx.scan s.data.toList = Lx.after acc k (Lx.scan (s.data.toList.drop k)) ∧ wr.ownsRow w.heap.size 56 2 v acc.length (tokCells acc) ∧ Below w.heap.size w wr)
      (fun _ x _ => s.size - (intOf x).toNat)
    case atStart => exact ⟨0, [], by omega, by simp, rfl, by rw [List.drop_zero, Lx.after_nil], World.ownsRow_nil _ _ _ _, Below.refl _ _⟩
    case round =>
      obtain ⟨k, acc, hk, hacc, rfl, he, hown, hb⟩ := hrel
      have He := Lib.hid he
      clear he
      go_wp2_with fail
      obtain ⟨n, hn⟩ : ∃ n, Lx.skipN false (s.data.toList.drop k) = n := ⟨_, rfl⟩
      have hroom := round_room hn (by rw [size_list]; exact hk)
      rw [size_list] at hroom
      obtain ⟨f, hf⟩ : ∃ f, f = k + n := ⟨_, rfl⟩
      refine (skip_any _ _ f _ hk (by omega) (Lib.hid (by rw [hn, hf]))).mono ?_
      rintro e w' ⟨rfl, rfl⟩
      have Hn := Lib.hid hn
      clear hn
      have hfs : f ≤ s.size := by omega
      have hkf : k ≤ f := by omega
      have Hf := Lib.hid hf
      clear hf
      by_cases hend : f = s.size
      · subst hend
        have H := Lib.hid (scanT_ok (by rw [size_list]; exact h) (round_end He.out Hn.out (by rw [size_list]; have := Hf.out; omega)))
        go_wp2_with fail
        go_ret3
        refine ⟨_, by rw [H.out, str_extract, show s.size - k = n from by have := Hf.out; omega]; rfl, by rw [H.out]; exact hown, hb⟩
      · go_wp2_with fail
        obtain ⟨m, hm⟩ : ∃ m, Lx.tokN (s.data.toList.drop f) = m := ⟨_, rfl⟩
        have hm' : Lx.tokN (s.data.toList.drop (k + n)) = m := by rw [← Hf.out]; exact hm
        have hmore := round_more hm' (by rw [size_list]; exact hroom)
        rw [size_list] at hmore
        refine (end_any _ _ _ (by omega) (by omega) (endI f m) (Lib.hid (by rw [hm]))).mono ?_
        rintro e w1 ⟨rfl, hb1⟩
        have Hm := Lib.hid hm'
        clear hm hm'
        have hb2 := hb.trans (hb1.mono hb.size)
        by_cases h0 : m = 0
        · have H := Lib.hid (scanT_bad (by rw [size_list]; exact h) (round_bad He.out Hn.out (by rw [size_list]; have := Hf.out; omega) (Hm.out.trans h0)))
          subst h0
          rw [show endI f 0 = -1 from rfl]
          go_wp2_with fail
          go_ret3
          refine ⟨.slice none 0 0, ?_, ?_, hb2⟩
          · rw [H.out, ← Hf.out]; rfl
          · rw [H.out]; exact World.ownsRow_nil _ _ _ _
        · have H := Lib.hid (round_next He.out Hn.out (by rw [size_list]; have := Hf.out; omega) Hm.out (by omega))
          have hown1 := own_below hown hb1
          have hsz := hb2.size
          obtain ⟨g, hg⟩ : ∃ g, g = f + m := ⟨_, rfl⟩
          rw [show endI f m = (g : Int) from by rw [endI, if_neg h0, hg]]
          have hfg : f ≤ g := by omega
          have hgs : g ≤ s.size := by have := Hf.out; omega
          have Hg := Lib.hid hg
          clear hown hg
          go_wp2_with (at_builtin; refine wpList_append_own _ rfl _ _ 30 rfl w.heap.size 56 i0 _ 2 32 Tryd.underlying30 hi hz0 hz1 hz2 rfl (by decide) _ _ _ rfl (hown1.alloc _) ⟨w1.heap.size, 0, none⟩ 1 1 [.string (s.extract f g), .string (s.extract k f)] rfl rfl ?c1 ?c2 ?c3 ?c4 ?c5 ?_)
          case c1 => exact cells_two _ _ _ _
          case c2 => intro u hu; simp at hu; rcases hu with rfl | rfl <;> rfl
          case c3 => unfold maxLen; omega
          case c4 => omega
          case c5 => simp; omega
          intro v' w2 hown2 hg2 _
          have hb3 : Below w.heap.size w w2 := (hb2.alloc hsz _).grown hg2 (by simp; omega) (fun g hg => (hown1.lt g hg).1)
          clear hown1 hg2
          go_wp2_with fail
          go_roundw
          case rel =>
            have e1 := Hf.out
            have e2 := Hg.out
            refine ⟨k + n + m, _, hmore, ?_, by rw [e2, e1], H.out, ?_, hb3⟩
            · simp; omega
            · rw [tokCells_snoc, List.length_append]
              rw [str_extract, str_extract, show g - f = m from by omega, show f - k = n from by omega, e1] at hown2
              exact hown2
          case measure => have e1 := Hf.out; have e2 := Hg.out; simp [intOf]; omega
end Go.Proofs.YtjjdfccbkohlcaaDoor
