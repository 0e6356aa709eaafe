/- The walk of LexErrors. -/
import Derived.Test.YtjjdfccbkohlcaaDoorLawScans
import Derived.Test.YtjjdfccbkohlcaaDoorMath2
import Derived.Test.YtjjdfccbkohlcaaDoorBlank
namespace Go.Proofs.YtjjdfccbkohlcaaDoor
open Go.RowKit

theorem scanT_err {l : Lx.Bs} {k : Nat} (h : ¬ 8192 < l.length) (hs : Lx.scan l = .error k) : k < l.length ∧ (∃ ts e, Lx.scanT (l.take k) = (ts, e, -1)) ∧ Lx.scanT (l.drop k) = ([], [], 0) := by
  obtain ⟨h1, ⟨ts, e, h2⟩, h3⟩ := Lx.scan_error hs
  refine ⟨h1, ⟨ts, e, scanT_ok (by rw [List.length_take]; omega) h2⟩, ?_⟩
  rw [scanT_bad (by rw [List.length_drop]; omega) h3]; rfl

theorem info5 : (Tryd.prog.info? 5).map (fun i => (i.zero, i.size, i.bytes)) = some (some (.int .u8 0), 1, 1) := by kernel_rfl
def fillTo (N k : Nat) : List Value := (List.range N).map fun i => .int .u8 (if i < k then 32 else 0)
theorem fill_zero (N : Nat) : List.replicate N (Value.int .u8 0) = fillTo N 0 := by
  apply List.ext_getElem <;> simp [fillTo]
theorem fill_step (N k : Nat) : (fillTo N k).set k (.int .u8 32) = fillTo N (k + 1) := by
  apply List.ext_getElem
  · simp [fillTo]
  · intro i h1 h2
    simp only [fillTo, List.getElem_set, List.getElem_map, List.getElem_range]
    by_cases e : k = i
    · subst e; rw [if_pos rfl, if_pos (by omega)]
    · rw [if_neg e]
      by_cases hl : i < k
      · rw [if_pos hl, if_pos (by omega)]
      · rw [if_neg hl, if_neg (by omega)]
def spaceN (N : Nat) : ByteArray := ⟨Array.replicate N 32⟩
theorem space_list (N : Nat) : (spaceN N).data.toList = List.replicate N 32 := by simp [spaceN]
theorem space_size (N : Nat) : (spaceN N).size = N := by simp [spaceN, ByteArray.size]
theorem skip_spaces (N : Nat) : Lx.skipN false (List.replicate N 32) = N := by
  induction N with
  | zero => rfl
  | succ n ih => rw [List.replicate_succ, Lx.skipN, ih]; simp
theorem space_short {N : Nat} (h : N ≤ 8192) : Lx.scanT (spaceN N).data.toList = ([], List.replicate N 32, -1) := by
  rw [space_list]
  exact scanT_ok (by simp; omega) (Lx.scan_end (by rw [skip_spaces]; simp))
theorem space_long {N : Nat} (h : 8192 < N) : Lx.scanT (spaceN N).data.toList = ([], [], 8192) := by
  rw [space_list]
  exact scanT_long (by simp; omega)
theorem space_blank (N : Nat) : blankB (spaceN N).data.toList = decide (N ≤ 8192) := by
  rw [space_list, blankB, skip_spaces]; simp

/-- the filled slice as a string, in every later world -/
theorem space_back {W W' : World} {g N : Nat} {C : Array Value} (hB : Blk W g 5 C) (hC : C.toList = fillTo N N) (hb : Below W.heap.size W W') (c : Nat) :
    (convert 24 9 (.slice (some ⟨g, 0, none⟩) N c)).run Tryd.prog W' = .ok (.string (spaceN N)) W' := by
  have h := Lib.run_convert_whole (P := Tryd.prog) W' 24 5 9 Tryd.underlying24 Tryd.underlying5 Tryd.underlying9 g 0 (spaceN N) (fun i hi => by
    rw [space_size] at hi
    rw [Nat.zero_add, (hB.below hb hB.lt).cell i]
    have h1 : C[i]? = (fillTo N N)[i]? := by rw [← hC]; simp
    rw [h1]
    have h2 := at_byte (spaceN N) i (by rw [space_size]; exact hi)
    rw [space_list, List.getElem?_replicate, if_pos hi] at h2
    rw [← Option.some.inj h2]
    simp [fillTo, hi]) c
  rw [space_size] at h
  exact h

/-- a row of strings that was just laid, as a list of strings -/
theorem rd_strs (w : World) (L : List ByteArray) (n : Nat) (hn : L.length = n) : Rd (w.alloc (.cells (L.map Value.string).toArray 9)) (w.heap.size + 1) 1 (some ⟨w.heap.size, 0, none⟩) n (L.map Value.string) := by
  have := Rd.lit w 9 (L.map Value.string)
  rw [World.size_alloc, List.length_map, hn] at this
  exact this
/-- string k of such a row -/
theorem Rd.ba {w : World} {B n g : Nat} {L : List ByteArray} (h : Rd w B 1 (some ⟨g, 0, none⟩) n (L.map Value.string)) {k : Nat} (hk : k < n) (hl : k < L.length) : w.cell? ⟨g, k, none⟩ = some (.string L[k]) := by
  obtain ⟨b, o, u, e, _, hu, x1⟩ := h.at1 hk
  injection e with e
  injection e with e1 e2
  subst e1 e2
  rw [List.getElem?_map, List.getElem?_eq_getElem hl] at hu
  rw [Nat.zero_add] at x1
  rw [x1, ← Option.some.inj hu]
theorem ext_size (s : ByteArray) (a b : Nat) : (s.extract a b).size ≤ s.size := by rw [ByteArray.size_extract]; omega
/-- the three ends of a Scan -/
theorem scanT_three (l : Lx.Bs) : (8192 < l.length ∧ Lx.scanT l = ([], [], 8192)) ∨ (¬ 8192 < l.length ∧ ∃ ts e, Lx.scan l = .ok (ts, e) ∧ Lx.scanT l = (ts, e, -1)) ∨ (¬ 8192 < l.length ∧ ∃ k : Nat, Lx.scan l = .error k ∧ Lx.scanT l = ([], [], (k : Int))) := by
  by_cases h : 8192 < l.length
  · exact .inl ⟨h, scanT_long h⟩
  · cases hs : Lx.scan l with
    | ok p => obtain ⟨ts, e⟩ := p; exact .inr (.inl ⟨h, ts, e, rfl, scanT_ok h hs⟩)
    | error k => exact .inr (.inr ⟨h, k, rfl, scanT_bad h hs⟩)

set_option maxHeartbeats 2000000 in
set_option maxRecDepth 100000 in
theorem lexErrors_walk (A : Option Addr) (n c : Nat) (zs : List Int) (raw : ByteArray) (long : Int) (w : World) (h1 : Rd w w.heap.size 1 A n (intCells zs)) (hf : Fits zs)
    (hr : raw.size ≤ 140737488355328) (l1 : -9223372036854775808 ≤ long) (l2 : long ≤ 9223372036854775807) (ht : Tabs w) (hkw : Kw w) :
    Calls Tryd.prog 5 #[.slice A n c, .string raw, .int .i64 long] w (RetB (.bool true) w) := by
  obtain ⟨i0, hi, hz0, hz1, hz2⟩ := info_parts info5
  obtain ⟨r, hr0, hr1⟩ := around_nat long 5 (by omega)
  have R := Lib.hid hr0
  clear hr0
  have hmk : ∀ W : World, ∃ C0 : Array Value, (Instr.makeSlice 24 (.int .i64 (8190 + (r : Int))) (.int .i64 (8190 + (r : Int)))).run Tryd.prog W = .ok (.slice (some ⟨W.heap.size, 0, none⟩) (8190 + r) (8190 + r)) (W.alloc (.cells C0 5)) ∧ C0.toList = fillTo (8190 + r) 0 := fun W => by
    have h := run_make_rowN (P := Tryd.prog) 24 5 i0 _ Tryd.underlying24 hi hz0 .i64 .i64 (8190 + r) (8190 + r) (Nat.le_refl _) (by rw [hz2]; omega) (by omega) W
    rw [show ((8190 + r : Nat) : Int) = 8190 + (r : Int) from by omega] at h
    exact ⟨_, h, by rw [hz1, Nat.mul_one, ← fill_zero]; exact made_list _ _⟩
  have HM := Lib.hid hmk
  clear hmk hi hz0 hz1 hz2
  go_enter Tryd.func5, Tryd.ntmps5
  go_wp2_with fail
  refine (sample_any _ _ _ _ _ h1 hf).mono ?_
  rintro e w1 ⟨s1, rfl, hs1, b1⟩
  have x1 : ¬ 9223372036854775807 < s1.size + 1 := by omega
  go_wp2_with fail
  refine (sample_any _ _ _ _ _ (h1.go b1) hf).mono ?_
  rintro e w2 ⟨s2, rfl, hs2, b2⟩
  have b1 := below_go b1 b2
  clear b2
  have x2 : ¬ 9223372036854775807 < s2.size + 2 := by omega
  have x3 : ¬ 9223372036854775807 < s2.size + 2 + raw.size := by omega
  go_wp2_with fail
  have hL : ∀ p ∈ [s1 ++ ⟨#[63]⟩, raw, s2 ++ ⟨#[32, 62]⟩ ++ raw], p.size ≤ 9223372036854775000 := by
    intro p hp
    simp only [List.mem_cons, List.not_mem_nil, or_false] at hp
    rcases hp with rfl | rfl | rfl
    · rw [ByteArray.size_append]; show _ + 1 ≤ _; omega
    · omega
    · rw [ByteArray.size_append, ByteArray.size_append]; show _ + 2 + _ ≤ _; omega
  have q1 := rd_strs w2 [s1 ++ ⟨#[63]⟩, raw, s2 ++ ⟨#[32, 62]⟩ ++ raw] 3 rfl
  have hs3 : w2.heap.size + 1 ≤ (w2.alloc (.cells ([s1 ++ ⟨#[63]⟩, raw, s2 ++ ⟨#[32, 62]⟩ ++ raw].map Value.string).toArray 9)).heap.size := by rw [World.size_alloc]; omega
  have b3 := below_go b1 (below_new w2 (.cells ([s1 ++ ⟨#[63]⟩, raw, s2 ++ ⟨#[32, 62]⟩ ++ raw].map Value.string).toArray 9))
  obtain ⟨L, hLd⟩ : ∃ L : List ByteArray, L = [s1 ++ ⟨#[63]⟩, raw, s2 ++ ⟨#[32, 62]⟩ ++ raw] := ⟨_, rfl⟩
  have hLl : L.length = 3 := by rw [hLd]; rfl
  have Q1 := Lib.hid q1
  have HL := Lib.hid hL
  rw [← hLd] at Q1 HL hs3 b3
  have HLl := Lib.hid hLl
  have hg := b1.size
  have hWd : w2.alloc (.cells #[.string (s1 ++ ⟨#[63]⟩), .string raw, .string (s2 ++ ⟨#[32, 62]⟩ ++ raw)] 9) = w2.alloc (.cells (L.map Value.string).toArray 9) := by rw [hLd]; rfl
  rw [hWd]
  clear hLd hLl x1 x2 x3 q1 hL hWd
  generalize w2.alloc (.cells (L.map Value.string).toArray 9) = w3 at *
  go_loopw [8] (fun x wr => ∃ k : Nat, k ≤ 3 ∧ x = .int .i64 k ∧ Rd wr (w2.heap.size + 1) 1 (some ⟨w2.heap.size, 0, none⟩) 3 (L.map Value.string) ∧ Below w.heap.size w wr ∧ w2.heap.size + 1 ≤ wr.heap.size) (fun x _ => 3 - (intOf x).toNat)
  case atStart => exact ⟨0, by omega, rfl, Q1.out, b3, hs3⟩
  case round =>
    obtain ⟨k, hk3, rfl, hrd, hb, hsz⟩ := hrel
    by_cases hlt : k < 3
    · have hkl : k < L.length := by rw [HLl.out]; exact hlt
      have x1 := hrd.ba hlt hkl
      have hp := HL.out _ (List.getElem_mem hkl)
      generalize L[k] = p at *
      rcases scanT_three p.data.toList with ⟨_, hT⟩ | ⟨_, ts, E, _, hT⟩ | ⟨hlen, N, hsc, hT⟩
      · have HT := Lib.hid hT
        clear hT
        go_wp2_with fail
        refine (scan_any p _ hp (tabs_go ht hb)).mono ?_
        rintro e w5 h5
        obtain ⟨A5, c5, rfl, -, -, b5⟩ := h5.open_ HT.out
        clear h5
        go_wp2_with fail
        go_roundw
        case rel => exact ⟨k + 1, by omega, by go_num, hrd.below (b5.mono hsz), below_go hb b5, Nat.le_trans hsz b5.size⟩
        case measure => simp [intOf]; omega
      · have HT := Lib.hid hT
        clear hT
        go_wp2_with fail
        refine (scan_any p _ hp (tabs_go ht hb)).mono ?_
        rintro e w5 h5
        obtain ⟨A5, c5, rfl, -, -, b5⟩ := h5.open_ HT.out
        clear h5
        go_wp2_with fail
        go_roundw
        case rel => exact ⟨k + 1, by omega, by go_num, hrd.below (b5.mono hsz), below_go hb b5, Nat.le_trans hsz b5.size⟩
        case measure => simp [intOf]; omega
      · have HT := Lib.hid hT
        clear hT
        rw [list_size] at hlen
        obtain ⟨hN, ⟨ts', E', hT1⟩, hT2⟩ := scanT_err (by rw [list_size]; exact hlen) hsc
        rw [list_size] at hN
        have HT1 : Hid (Lx.scanT (p.extract 0 N).data.toList = (ts', E', -1)) := Lib.hid (by rw [Lib.extract_data]; simpa using hT1)
        have HT2 : Hid (Lx.scanT (p.extract N p.size).data.toList = ([], [], 0)) := Lib.hid (by rw [Lib.extract_to_end]; exact hT2)
        clear hT1 hT2 hsc
        have t1 : ((N : Int) == -1) = false := by simp
        have t2 : ((N : Int) == 8192) = false := by simp; omega
        go_wp2_with fail
        refine (scan_any p _ hp (tabs_go ht hb)).mono ?_
        rintro e w5 h5
        obtain ⟨A5, c5, rfl, -, -, b5⟩ := h5.open_ HT.out
        clear h5
        have hrd2 := hrd.below (b5.mono hsz)
        have hsz2 : w2.heap.size + 1 ≤ w5.heap.size := Nat.le_trans hsz b5.size
        have hb := below_go hb b5
        clear x1 b5 hrd hsz
        go_wp2_with fail
        refine (scan_any _ _ (Nat.le_trans (ext_size _ _ _) hp) (tabs_go ht hb)).mono ?_
        rintro e w6 h6
        obtain ⟨A6, c6, rfl, -, -, b6⟩ := h6.open_ HT1.out
        clear h6
        have hrd3 := hrd2.below (b6.mono hsz2)
        have hsz3 : w2.heap.size + 1 ≤ w6.heap.size := Nat.le_trans hsz2 b6.size
        have hb := below_go hb b6
        clear b6 hrd2 hsz2
        go_wp2_with fail
        refine (scan_any _ _ (Nat.le_trans (ext_size _ _ _) hp) (tabs_go ht hb)).mono ?_
        rintro e w7 h7
        obtain ⟨A7, c7, rfl, -, -, b7⟩ := h7.open_ HT2.out
        clear h7
        have hrd4 := hrd3.below (b7.mono hsz3)
        have hsz4 : w2.heap.size + 1 ≤ w7.heap.size := Nat.le_trans hsz3 b7.size
        have hb := below_go hb b7
        clear b7 hrd3 hsz3
        go_wp2_with fail
        go_roundw
        case rel => exact ⟨k + 1, by omega, by go_num, hrd4, hb, hsz4⟩
        case measure => simp [intOf]; omega
    · go_wp2_with fail
      refine (around_any _ _ _ l1 l2 (by omega) (by omega) r R).mono ?_
      rintro e w' ⟨rfl, rfl⟩
      obtain ⟨C0, hm, hC0⟩ := HM.out wr
      have HC0 := Lib.hid hC0
      clear hC0 hrd hsz
      have hB0 := Blk.new wr 5 C0
      have b4 := below_go hb (below_new wr (.cells C0 5))
      go_wp2_with fail
      obtain ⟨g, hg2⟩ : ∃ g, g = wr.heap.size := ⟨_, rfl⟩
      have hgg : w.heap.size ≤ g := by rw [hg2]; exact hb.size
      rw [← hg2] at hB0 ⊢
      generalize wr.alloc (.cells C0 5) = w4 at *
      obtain ⟨N, hN⟩ : ∃ N, N = 8190 + r := ⟨_, rfl⟩
      rw [← hN] at HC0 ⊢
      have e1 : (8190 + (r : Int)) = (N : Int) := by omega
      rw [e1]
      have n1 : N ≤ 8194 := by omega
      clear e1 hN hm hg2 hb
      go_loopw [21] (fun x wr => ∃ (k : Nat) (C : Array Value), k ≤ N ∧ x = .int .i64 k ∧ C.toList = fillTo N k ∧ Blk wr g 5 C ∧ Below w.heap.size w wr) (fun x _ => N - (intOf x).toNat)
      case atStart => exact ⟨0, C0, by omega, rfl, HC0.out, hB0, b4⟩
      case round =>
        obtain ⟨k, C, hk, rfl, hC, hB, hb⟩ := hrel
        have Hc := Lib.hid hC
        clear hC HM
        by_cases hlt : k < N
        · have cc : wr.cell? ⟨g, k, none⟩ = C[k]? := hB.cell k
          have cf : wr.frozen? ⟨g, k, none⟩ = false := hB.frozen k
          have hCs : C.size = N := by have := congrArg List.length Hc.out; simpa [fillTo] using this
          rw [Array.getElem?_eq_getElem (by omega)] at cc
          generalize C[k]'(by omega) = old at cc
          clear hCs
          go_wp2_with fail
          go_roundw
          case rel =>
            refine ⟨k + 1, C.setIfInBounds k (.int .u8 32), by omega, by go_num, ?_, hB.set_ k _, hb.setCell hgg _⟩
            rw [← fill_step, ← Hc.out]
            simp
          case measure => simp [intOf]; omega
        · obtain rfl : k = N := by omega
          obtain ⟨S, hS⟩ : ∃ S, S = spaceN k := ⟨_, rfl⟩
          have HCV : ∀ W', Below wr.heap.size wr W' → (convert 24 9 (.slice (some ⟨g, 0, none⟩) k k)).run Tryd.prog W' = .ok (.string S) W' := fun W' hb' => by rw [hS]; exact space_back hB Hc.out hb' k
          have hcv := HCV wr (Below.refl _ _)
          have hss : S.size ≤ 9223372036854775000 := by rw [hS, space_size]; omega
          by_cases hN : k ≤ 8192
          · have t1 : (((-1 : Int)) == 8192) = false := by decide
            have d1 : decide (8192 < (k : Int)) = false := by simp; omega
            have d2 : decide ((k : Int) ≤ 8192) = true := by simp; omega
            have HT : Hid (Lx.scanT S.data.toList = ([], S.data.toList, -1)) := Lib.hid (by rw [hS, space_short hN, space_list])
            have HB : Hid (blankB S.data.toList = true) := Lib.hid (by rw [hS, space_blank]; simpa using hN)
            clear hS
            go_wp2_with fail
            refine (scan_any _ _ hss (tabs_go ht hb)).mono ?_
            rintro e w5 h5
            obtain ⟨A5, c5, rfl, -, -, b5⟩ := h5.open_ HT.out
            clear h5
            have hb := below_go hb b5
            have hcv5 := HCV w5 b5
            obtain ⟨L5, hL5⟩ : ∃ L5, L5 = S.data.toList := ⟨_, rfl⟩
            have t3 : L5 = S.toList := by rw [hL5]; exact (ByteArray.toList_eq S).symm
            rw [← hL5]
            clear hL5
            go_wp2_with fail
            refine (blank_any _ _ (by omega) true HB).mono ?_
            rintro e w6 ⟨rfl, rfl⟩
            go_wp2_with fail
            refine (lives_any _ (tabs_go ht hb) (kw_go hkw hb)).mono ?_
            rintro e w6 ⟨rfl, b6⟩
            go_wp2_with fail
            go_ret
            exact ⟨rfl, below_go hb b6⟩
          · have t1 : (((8192 : Int)) == -1) = false := by decide
            have d1 : decide (8192 < (k : Int)) = true := by simp; omega
            have d2 : decide ((k : Int) ≤ 8192) = false := by simp; omega
            have HT : Hid (Lx.scanT S.data.toList = ([], [], 8192)) := Lib.hid (by rw [hS, space_long (by omega)])
            have HB : Hid (blankB S.data.toList = false) := Lib.hid (by rw [hS, space_blank]; simpa using hN)
            clear hS
            go_wp2_with fail
            refine (scan_any _ _ hss (tabs_go ht hb)).mono ?_
            rintro e w5 h5
            obtain ⟨A5, c5, rfl, -, -, b5⟩ := h5.open_ HT.out
            clear h5
            have hb := below_go hb b5
            have hcv5 := HCV w5 b5
            go_wp2_with fail
            refine (blank_any _ _ (by omega) false HB).mono ?_
            rintro e w6 ⟨rfl, rfl⟩
            go_wp2_with fail
            refine (lives_any _ (tabs_go ht hb) (kw_go hkw hb)).mono ?_
            rintro e w6 ⟨rfl, b6⟩
            go_wp2_with fail
            go_ret
            exact ⟨rfl, below_go hb b6⟩
end Go.Proofs.YtjjdfccbkohlcaaDoor
