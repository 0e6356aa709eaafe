/- The walk of sorted. -/
import Derived.Test.YtflfachkoffiiaaSort
import Derived.Lib.SliceRun
namespace Go.Proofs.Ytflfachkoffiiaa
open Go.RowKit Go.Sort Go.Shelf Go.Lib

theorem eg55 : ∀ args w, (callFunc 55 args).run Try.prog w = .ok (.enter 55 args) w := enters_of Try.func55 (by kernel_rfl) rfl
theorem gives55 (A1 : Option Addr) (n1 c1 : Nat) (x : Int) (B : Nat) (W : World) (hc : W.cell? ⟨B, 0, none⟩ = some (.slice A1 n1 c1)) :
    FnGives Try.prog 55 #[.pointer (some ⟨B, 0, none⟩)] #[.int .i64 x] (.bool (inR n1 x)) W := by
  show Calls Try.prog 55 #[.int .i64 x, .pointer (some ⟨B, 0, none⟩)] W _
  by_cases h0 : x < 0
  · go_enter Try.func55, Try.ntmps55
    go_wp2_with fail
    go_ret
    exact ⟨by simp [inR, h0], 0, rfl⟩
  · go_enter Try.func55, Try.ntmps55
    go_wp2_with fail
    go_ret
    exact ⟨by rw [inR, decide_eq_false (by omega : ¬ x < 0)]; rfl, 0, rfl⟩
theorem pred55 (A1 : Option Addr) (n1 c1 B : Nat) (w : World) (hB : B < w.heap.size) (hc : w.cell? ⟨B, 0, none⟩ = some (.slice A1 n1 c1)) :
    PredAt Try.prog 55 #[.pointer (some ⟨B, 0, none⟩)] (Value.int .i64) (inR n1) w :=
  fun W x hb => gives55 A1 n1 c1 x B W ((hb.cell (p := ⟨B, 0, none⟩) hB).trans hc)
theorem over55 (A1 : Option Addr) (n1 c1 B blk off size : Nat) (w : World) (hB : B < w.heap.size) (hne : B ≠ blk) (hc : w.cell? ⟨B, 0, none⟩ = some (.slice A1 n1 c1)) :
    PredOver Try.prog 55 #[.pointer (some ⟨B, 0, none⟩)] (Value.int .i64) (inR n1) blk off size w :=
  fun n os dk x _ => gives55 A1 n1 c1 x B _ (by
    unfold sortWorld
    rw [cell?_grow _ _ _ (by show B < (putRow _ _ _ _ _).heap.size; rw [size_putRow]; exact hB), cell?_putRow_other _ _ blk off _ _ (Or.inl hne)]
    exact hc)

theorem idx0_any (a : Option Addr) (cap : Nat) (fv : Value) (w : World) : Calls Try.prog 63 #[.slice a 0 cap, fv] w (Ret (.int .i64 (-1)) w) := by
  go_enter Try.func63, Try.ntmps63
  go_wp2_with fail
  go_loopw [8] (fun x wr => x = .int .i64 0 ∧ wr = w) (fun _ _ => 0)
  case atStart => exact ⟨rfl, rfl⟩
  case round =>
    obtain ⟨rfl, rfl⟩ := hrel
    go_wp2_with fail
    go_ret
    exact Ret.mk
theorem del0_any (a : Option Addr) (cap : Nat) (fv : Value) (w : World) : Calls Try.prog 54 #[.slice a 0 cap, fv] w (Ret (.slice a 0 cap) w) := by
  go_enter Try.func54, Try.ntmps54
  go_wp2_with fail
  refine (idx0_any a cap fv w).mono ?_
  rintro e w' ⟨rfl, rfl⟩
  go_wp2_with fail
  go_ret
  exact Ret.mk

/-- a list of numbers that comes back -/
def IntsPost (xs : List Int) (w : World) : Ending → World → Prop := fun e w' => ∃ A c, e = .returned (.slice A xs.length c) ∧ Rd w' w'.heap.size 1 A xs.length (intCells xs) ∧ xs.length ≤ c ∧ Below w.heap.size w w'

theorem size3 (w : World) : (Go.sizeOf 3).run Try.prog w = .ok 1 w := by kernel_rfl
theorem zero3 (w : World) : (zeroValue 3).run Try.prog w = .ok (.int .i64 0) w := by kernel_rfl
theorem clone0_any (a : Addr) (c : Nat) (w : World) : Calls Try.prog 45 #[.slice (some a) 0 c] w fun e w' => ∃ a' c', e = .returned (.slice a' 0 c') ∧ Below w.heap.size w w' := by
  obtain ⟨i0, hi, hz0, hz1, hz2⟩ := info_parts info3
  have hnl := Lib.run_eql_slice_nil (P := Try.prog) w 22 3 (some a) 0 c 0 0 Try.underlying22
  have hown : (w.alloc (.cells #[] 3)).ownsRow w.heap.size 3 1 (.slice (some ⟨w.heap.size, 0, none⟩) 0 0) 0 [] := World.ownsRow_lit (base := w.heap.size) (e := 3) (size := 1) w #[] 0 (Nat.le_refl _) (by decide) rfl
  go_enter Try.func45, Try.ntmps45
  go_wp2_with (at_builtin; refine wpList_append_own _ rfl _ _ 22 rfl w.heap.size 3 i0 _ 1 8 Try.underlying22 hi hz0 hz1 hz2 rfl (by decide) _ 0 [] rfl hown a 0 c [] rfl rfl (fun j u h => by simp at h) (fun u h => by cases h) (by decide) (by decide) (by simp) ?_)
  intro v2 w2 hown2 hgrow hnil
  have hb : Below w.heap.size w w2 := (below_new w (.cells #[] 3)).grown hgrow (by simp) (fun g hg => (hown.lt g hg).1)
  obtain ⟨A', c', rfl, -⟩ := own_slice hown2
  clear hown2 hgrow hnil hown
  go_wp2_with fail
  go_ret
  exact ⟨_, _, rfl, hb⟩

set_option maxHeartbeats 2000000 in
theorem sorted_none (A1 : Option Addr) (n1 c1 : Nat) (A : Option Addr) (c : Nat) (w : World) : Calls Try.prog 37 #[.slice A1 n1 c1, .slice A 0 c] w (IntsPost [] w) := by
  have hcl : ∀ W : World, Calls Try.prog 45 #[.slice A 0 c] W fun e w' => ∃ a' c', e = .returned (.slice a' 0 c') ∧ Below W.heap.size W w' := fun W => by
    cases A with
    | none =>
      refine (Try.slices_Clone_nil 0 c W).mono ?_
      rintro e w' ⟨rfl, rfl⟩
      exact ⟨none, 0, rfl, Below.refl _ _⟩
    | some a => exact clone0_any a c W
  go_enter Try.func37, Try.ntmps37
  go_wp2_with fail
  refine (hcl _).mono ?_
  rintro e w1 ⟨a', c', rfl, b1⟩
  have HB := Lib.hid ((below_new w (.cells #[.slice A1 n1 c1] 23)).trans (b1.mono (by simp)))
  clear b1 hcl
  go_wp2_with fail
  refine (del0_any a' c' _ w1).mono ?_
  rintro e w2 ⟨rfl, rfl⟩
  go_wp2_with fail
  refine (Try.slices_Sort_int_none a' c' w1).mono ?_
  rintro e w2 ⟨rfl, rfl⟩
  go_wp2_with fail
  refine (Try.slices_Compact_int_empty a' c' w2).mono ?_
  rintro e w3 ⟨rfl, rfl⟩
  go_wp2_with fail
  go_ret
  exact ⟨a', c', rfl, Rd.nil, Nat.zero_le _, HB.out⟩

set_option maxHeartbeats 4000000 in
theorem sorted_some (A1 : Option Addr) (n1 c1 : Nat) (b off n c : Nat) (zs : List Int) (w : World) (hl : zs.length = n) (hn : n ≤ 100000) (hc : ∀ j u, (intCells zs)[j]? = some u → w.cell? ⟨b, off + j, none⟩ = some u) (hb : b < w.heap.size) :
    Calls Try.prog 37 #[.slice A1 n1 c1, .slice (some ⟨b, off, none⟩) n c] w (IntsPost (sortedTo zs n1) w) := by
  obtain ⟨i0, hi, hz0, hz1, hz2⟩ := info_parts info3
  obtain ⟨w1, hw1⟩ : ∃ w1, w1 = w.alloc (.cells #[.slice A1 n1 c1] 23) := ⟨_, rfl⟩
  have hb1 : Below w.heap.size w w1 := by rw [hw1]; exact below_new w _
  have hs1 : w1.heap.size = w.heap.size + 1 := by rw [hw1]; simp
  have hbox : w1.cell? ⟨w.heap.size, 0, none⟩ = some (.slice A1 n1 c1) := by rw [hw1, World.cell?_alloc_at _ _ _ _ rfl]; rfl
  have hcl := Try.slices_Clone i0 _ 1 8 hi hz0 hz1 hz2 rfl (by decide) size3 b off n c (intCells zs) w1 (by rw [intCells, List.length_map, hl, Nat.mul_one]) (by unfold maxLen; omega) (by omega)
    (fun j u hu => by rw [hb1.cell (p := ⟨b, off + j, none⟩) hb]; exact hc j u hu) (fun u hu => by
      rw [intCells, List.mem_map] at hu
      obtain ⟨z, _, rfl⟩ := hu
      rfl)
  have HB1 := Lib.hid hb1
  have HX := Lib.hid hbox
  have HL := Lib.hid hl
  clear hb1 hbox hl hc hi hz0 hz1 hz2
  go_enter Try.func37, Try.ntmps37
  go_wp2_with fail
  rw [← hw1]
  clear hw1
  refine hcl.mono ?_
  rintro e w2 ⟨v', rfl, hown, hnn, hb2⟩
  obtain ⟨g, cap, rfl, hg, hgl, hrow⟩ : ∃ g cap, v' = .slice (some ⟨g, 0, none⟩) n cap ∧ w1.heap.size ≤ g ∧ n ≤ cap ∧ Row w2 g cap zs := by
    rcases hown.2 with ⟨e, _⟩ | ⟨g, cap, cur, e, h1, h2, h3, h4, h5, h6⟩
    · exact absurd e hnn
    · subst e
      exact ⟨g, cap, rfl, h1, h3, Row.of_own hown⟩
  have HROW := Lib.hid hrow
  have HG := Lib.hid hg
  have HX2 := Lib.hid ((hb2.cell (p := ⟨w.heap.size, 0, none⟩) (by rw [hs1]; exact Nat.lt_succ_self _)).trans HX.out)
  have HB2 := Lib.hid (HB1.out.trans (hb2.mono HB1.out.size))
  have hl2 : w.heap.size < w2.heap.size := Nat.lt_of_lt_of_le (by rw [hs1]; exact Nat.lt_succ_self _) hb2.size
  obtain ⟨f, hf⟩ : ∃ f, f = zs.filter fun z => !inR n1 z := ⟨_, rfl⟩
  have hdel := AnyE.slices_DeleteFunc Try.delF (Value.int .i64) (fun _ => rfl) (inR n1) 55 #[.pointer (some ⟨w.heap.size, 0, none⟩)] eg55 0 zero3 g 0 cap zs.toArray w2
    (pred55 A1 n1 c1 w.heap.size w2 hl2 HX2.out) (over55 A1 n1 c1 w.heap.size g 0 _ w2 hl2 (by omega) HX2.out) hrow.holds (by simp; have := HL.out; omega) (by simp; have := HL.out; omega)
  change Calls Try.prog 54 _ _ _ at hdel
  rw [show zs.toArray.size = n by simp [HL.out], ← hf] at hdel
  have hfl : f.length ≤ n := by rw [hf, ← HL.out]; exact List.length_filter_le _ _
  have HF := Lib.hid hf
  clear hown hnn hb2 hrow hg hf hcl
  go_wp2_with fail
  refine hdel.mono ?_
  rintro e w3 ⟨rfl, q, rfl⟩
  have hr3 : Row (putRow encZ (Sort.ahead w2 q) g 0 (f ++ List.replicate (n - f.length) 0).toArray) g cap f := (HROW.out.put _ (by rw [List.length_append, List.length_replicate]; omega) q).cut
  have hg3 := put_grownBy w2 g q (f ++ List.replicate (n - f.length) 0).toArray
  generalize putRow encZ (Sort.ahead w2 q) g 0 (f ++ List.replicate (n - f.length) 0).toArray = w3 at *
  have HR3 := Lib.hid hr3
  have HB3 := Lib.hid (HB2.out.grown hg3 HB2.out.size (fun k hk => by injection hk with hk; have := HG.out; have := HB1.out.size; omega))
  have hsort := Try.slices_Sort_int g 0 cap f w3 hr3.holds hr3.lt (by omega)
  obtain ⟨s, hs⟩ : ∃ s, s = f.mergeSort fun x y => decide (x ≤ y) := ⟨_, rfl⟩
  rw [← hs] at hsort
  have hsl : s.length = f.length := by rw [hs, List.length_mergeSort]
  have HS := Lib.hid hs
  clear hr3 hg3 hdel hs
  go_wp2_with fail
  refine hsort.mono ?_
  rintro e w4 ⟨rfl, q2, os, rfl⟩
  have hr4 : Row (grow (putRow encZ (Sort.ahead w3 q2) g 0 s.toArray) os) g cap s := (HR3.out.put s (by omega) q2).grow os
  have hg4 : w3.grownBy (grow (putRow encZ (Sort.ahead w3 q2) g 0 s.toArray) os) (some g) := grownBy_sorted_i _
  generalize grow (putRow encZ (Sort.ahead w3 q2) g 0 s.toArray) os = w4 at *
  have HR4 := Lib.hid hr4
  have HB4 := Lib.hid (HB3.out.grown hg4 HB3.out.size (fun k hk => by injection hk with hk; have := HG.out; have := HB1.out.size; omega))
  have hcomp := Try.slices_Compact_int g 0 cap s w4 hr4.holds (by omega) (by omega)
  rw [hsl] at hcomp
  have hres : compact s = sortedTo zs n1 := by rw [HS.out, HF.out]; exact sorted_compact zs n1
  rw [hres] at hcomp
  have hrl : (sortedTo zs n1).length ≤ f.length := by rw [← hres, ← hsl]; exact compact_length_le s
  clear hr4 hg4 hsort hres
  go_wp2_with fail
  refine hcomp.mono ?_
  rintro e w5 ⟨rfl, q3, rfl⟩
  have hr5 : Row (putRow encZ (Sort.ahead w4 q3) g 0 (sortedTo zs n1 ++ List.replicate (f.length - (sortedTo zs n1).length) 0).toArray) g cap (sortedTo zs n1) := (HR4.out.put _ (by rw [List.length_append, List.length_replicate]; omega) q3).cut
  have hg5 := put_grownBy w4 g q3 (sortedTo zs n1 ++ List.replicate (f.length - (sortedTo zs n1).length) 0).toArray
  generalize putRow encZ (Sort.ahead w4 q3) g 0 (sortedTo zs n1 ++ List.replicate (f.length - (sortedTo zs n1).length) 0).toArray = w5 at *
  have HR5 := Lib.hid hr5
  have HB5 := Lib.hid (HB4.out.grown hg5 HB4.out.size (fun k hk => by injection hk with hk; have := HG.out; have := HB1.out.size; omega))
  clear hr5 hg5 hcomp
  go_wp2_with fail
  go_ret
  exact ⟨_, cap, rfl, HR5.out.rd, by omega, HB5.out⟩

theorem sorted_any (A1 : Option Addr) (n1 c1 : Nat) (A : Option Addr) (n c : Nat) (zs : List Int) (w : World) (h : Rd w w.heap.size 1 A n (intCells zs)) (hn : n ≤ 100000) :
    Calls Try.prog 37 #[.slice A1 n1 c1, .slice A n c] w (IntsPost (sortedTo zs n1) w) := by
  have hl := int_len h
  by_cases h0 : n = 0
  · subst h0
    obtain rfl : zs = [] := List.length_eq_zero_iff.1 hl
    have e : sortedTo [] n1 = [] := by
      rw [List.eq_nil_iff_forall_not_mem]
      intro x hx
      have := (sortedTo_mem [] n1 x).1 hx
      simp at this
    rw [e]
    exact sorted_none A1 n1 c1 A c w
  · obtain ⟨b, off, rfl, hb, hc⟩ := h.2 (by omega)
    exact sorted_some A1 n1 c1 b off n c zs w hl hn hc hb
end Go.Proofs.Ytflfachkoffiiaa
