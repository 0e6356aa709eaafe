/- The walk of DiskKeepsWhatWasFlushed. -/
import Derived.Test.YtibhnjnfifpepaaCalm
import Derived.Test.YtibhnjnfifpepaaLawRots
namespace Go.Proofs.Ytibhnjnfifpepaa
open Go.RowKit Go.Maps

def zeroTo (m k : Nat) : List Bs := List.replicate k zeroBs ++ List.replicate (m - k) []
theorem zeroTo_end (m : Nat) : zeroTo m m = List.replicate m zeroBs := by rw [zeroTo, Nat.sub_self, List.replicate_zero, List.append_nil]
theorem zeroTo_start (m : Nat) : strCells (zeroTo m 0) = List.replicate m (str []) := by
  rw [zeroTo, List.replicate_zero, List.nil_append, Nat.sub_zero, strCells, List.map_replicate]
theorem zeroTo_step (m k : Nat) (h : k < m) : strCells (zeroTo m (k + 1)) = (strCells (zeroTo m k)).set k (str zeroBs) := by
  unfold strCells
  rw [← List.map_set]
  congr 1
  rw [zeroTo, zeroTo, List.set_append_right _ _ (by rw [List.length_replicate]; omega), List.length_replicate, Nat.sub_self, show m - k = (m - (k + 1)) + 1 by omega, List.replicate_succ', List.append_assoc, List.replicate_succ (n := m - (k + 1)), List.set_cons_zero]
  rfl
theorem zeroTo_length (m k : Nat) (h : k ≤ m) : (zeroTo m k).length = m := by
  rw [zeroTo, List.length_append, List.length_replicate, List.length_replicate]; omega
theorem Blk.keep {F : List Nat} {w w' : World} {g : Nat} {t : TypeId} {cs : Array Value} (h : Blk w g t cs) (k : Keep F w w') (hF : g ∉ F) : Blk w' g t cs := (k.block g h.lt hF).trans h
theorem cur_length (l : List Sec) : (curOf l).length = l.length := by simp [curOf]
theorem strCells_set (l : List Bs) (i : Nat) (b : Bs) : strCells (l.set i b) = (strCells l).set i (str b) := by unfold strCells; rw [List.map_set]

set_option maxRecDepth 100000 in
theorem keeps_small (w : World) (i : Int) (h1 : -9223372036854775808 ≤ i) (h2 : i ≤ 9223372036854775807) (h : i < 1 ∨ 64 < i) (A : Option Addr) (n c : Nat) (v : Value) :
    Calls Try.prog 4 #[.int .i64 i, .slice A n c, v] w (RetB (.bool true) w) := by
  rcases h with h | h
  · go_enter Try.func4, Try.ntmps4
    go_wp2_with fail
    refine (sanity_any _).mono ?_
    rintro e w1 ⟨rfl, b1⟩
    go_wp2_with fail
    refine (start_bad _ i h1 h2 (.inl h)).mono ?_
    rintro e w2 ⟨rfl, rfl⟩
    go_wp2_with fail
    go_ret
    exact ⟨rfl, b1⟩
  · go_enter Try.func4, Try.ntmps4
    go_wp2_with fail
    refine (sanity_any _).mono ?_
    rintro e w1 ⟨rfl, b1⟩
    go_wp2_with fail
    refine (start_bad _ i h1 h2 (.inr h)).mono ?_
    rintro e w2 ⟨rfl, rfl⟩
    go_wp2_with fail
    go_ret
    exact ⟨rfl, b1⟩

set_option maxRecDepth 100000 in
theorem keeps_long (w : World) (m : Nat) (h1 : 1 ≤ m) (h2 : m ≤ 64) (A : Option Addr) (n c : Nat) (v : Value) (hn : 60 < n) (_hn2 : n ≤ 9223372036854775807) :
    Calls Try.prog 4 #[.int .i64 m, .slice A n c, v] w (RetB (.bool true) w) := by
  go_enter Try.func4, Try.ntmps4
  go_wp2_with fail
  refine (sanity_any _).mono ?_
  rintro e w1 ⟨rfl, b1⟩
  go_wp2_with fail
  refine (start_any _ m h1 h2).mono ?_
  rintro e w2 ⟨g, gb, gp, gw, r, gs, cap, ext, rfl, -, -, b2, -⟩
  go_wp2_with fail
  go_ret
  exact ⟨rfl, b1.trans (b2.mono b1.size)⟩

theorem op_block {F : List Nat} {W W3 : World} {u0 u1 u2 u3 u4 : Value} (hk : Keep F (W.alloc (.cells #[u0, u1, u2, u3, u4] 44)) W3) (hF : ∀ x ∈ F, x < W.heap.size) : Blk W3 W.heap.size 44 #[u0, u1, u2, u3, u4] :=
  (Blk.new W 44 _).keep hk fun e => by have := hF _ e; omega
theorem five_of {W : World} {b : Nat} {u0 u1 u2 u3 u4 : Value} (h : Blk W b 44 #[u0, u1, u2, u3, u4]) : W.cell? ⟨b, 0, none⟩ = some u0 ∧ W.cell? ⟨b, 1, none⟩ = some u1 ∧ W.cell? ⟨b, 2, none⟩ = some u2 ∧ W.cell? ⟨b, 3, none⟩ = some u3 ∧ W.cell? ⟨b, 4, none⟩ = some u4 :=
  ⟨h.cell 0, h.cell 1, h.cell 2, h.cell 3, h.cell 4⟩

theorem Blk.setOther {w : World} {g : Nat} {t : TypeId} {cs : Array Value} (h : Blk w g t cs) {a : Addr} (ha : g ≠ a.block) (u : Value) : Blk (w.setCell a u) g t cs := (Below.heap_setCell _ _ _ _ ha).trans h
theorem set_keep (w : World) {F : List Nat} {a : Addr} (ha : a.block ∈ F) (u : Value) : Keep F w (w.setCell a u) := (Keep.refl F w).setCell ha u
theorem doE_write (S : St) (o : OpV) (h : o.k = 1) : doE S o = writeE S o.i (padB o.t.data.toList) := by rw [doE, if_pos h]
theorem writeE_ok {T : RSt} (h : Calm T) {i : Int} {b : Bs} (he : rWriteE T i b = 0) : 0 ≤ i ∧ i < T.s.length := by
  rw [h.writeE] at he
  by_cases hc : rIs T i = true ∧ b.length = 64
  · exact is_range hc.1
  · rw [if_neg hc] at he; cases he

set_option maxHeartbeats 4000000 in
set_option maxRecDepth 100000 in
theorem keeps_main (w : World) (m : Nat) (h1 : 1 ≤ m) (h2 : m ≤ 64)
    (A : Option Addr) (n c : Nat) (os : List OpV) (hS : Script w w.heap.size A n os) (hn : n ≤ 60)
    (A2 : Option Addr) (n2 c2 : Nat) (ps : List Int) (hP : Rd w w.heap.size 1 A2 n2 (intCells ps)) (hn2 : n2 ≤ 9223372036854775807) :
    Calls Try.prog 4 #[.int .i64 m, .slice A n c, .slice A2 n2 c2] w (RetB (.bool true) w) := by
  have HS := Lib.hid hS
  have HP := Lib.hid hP
  have HN2 := Lib.hid hn2
  have FX : ∀ W : World, Calls Try.prog 13 #[.int .u8 0] W (RetB (str zeroBs) W) := fun W => full_any W 0
  obtain ⟨i0, hi, hz0, hz1, hz2⟩ := info_parts info9
  have hmk := fun W => run_make_rowN (P := Try.prog) 27 9 i0 _ Try.underlying27 hi hz0 .i64 .i64 m m (Nat.le_refl _) (by rw [hz2]; omega) (by omega) W
  have hC0 : (madeCells (Value.string ⟨#[]⟩).cells (m * i0.size)).toList = strCells (zeroTo m 0) := by
    rw [zeroTo_start, hz1, Nat.mul_one]; exact made_list _ _
  generalize madeCells (Value.string ⟨#[]⟩).cells (m * i0.size) = C0 at *
  have HC0 := Lib.hid hC0
  clear hS hP hn2 hC0 hz0 hz1 hz2 hi
  go_enter Try.func4, Try.ntmps4
  go_wp2_with fail
  refine (sanity_any _).mono ?_
  rintro e w1 ⟨rfl, q1⟩
  have Q1 := Lib.hid q1
  clear q1
  go_wp2_with fail
  refine (start_any _ m h1 h2).mono ?_
  rintro e w2 ⟨g, gb, gp, gw, r, gs, cap, ext, rfl, d2, -, q2, hge, -⟩
  have D2 := Lib.hid d2
  have Q2 := Lib.hid (Q1.out.trans (q2.mono Q1.out.size))
  have GE := Lib.hid (show ∀ b ∈ [g, gb, gp, gw], w.heap.size ≤ b by
    have := Q1.out.size
    intro b hb
    simp only [List.mem_cons, List.not_mem_nil, or_false] at hb
    rcases hb with rfl | rfl | rfl | rfl <;> omega)
  have GL := Lib.hid (show ∀ b ∈ [g, gb, gp, gw], b < w2.heap.size by
    have := d2.lt
    intro b hb
    simp only [List.mem_cons, List.not_mem_nil, or_false] at hb
    rcases hb with rfl | rfl | rfl | rfl <;> omega)
  have hm2 := hmk w2
  clear d2 q2 hge hmk
  go_wp2_with fail
  go_loopw [12] (fun x wr => ∃ (k : Nat) (C : Array Value), k ≤ m ∧ x = .int .i64 k ∧ C.toList = strCells (zeroTo m k) ∧ Blk wr w2.heap.size 9 C ∧ Below w2.heap.size w2 wr) (fun x _ => m - (intOf x).toNat)
  case atStart => exact ⟨0, C0, by omega, rfl, HC0.out, Blk.new _ _ _, Below.alloc (Below.refl _ _) (Nat.le_refl _) _⟩
  case round =>
    obtain ⟨k, C, hk, rfl, hC, hB, hb⟩ := hrel
    have hCs : C.size = m := by have := congrArg List.length hC; simpa [strCells, zeroTo_length m k hk] using this
    by_cases hlt : k < m
    · have HC := Lib.hid hC
      have HB := Lib.hid hB
      have HBW := Lib.hid hb
      have HCs := Lib.hid hCs
      have hzl := hB.lt
      clear hC hB hb hCs
      go_wp2_with fail
      refine (FX _).mono ?_
      rintro e w3 ⟨rfl, b3⟩
      have hB3 := HB.out.below b3 HB.out.lt
      have cc : w3.cell? ⟨w2.heap.size, k, none⟩ = C[k]? := hB3.cell k
      have cf : w3.frozen? ⟨w2.heap.size, k, none⟩ = false := hB3.frozen k
      rw [Array.getElem?_eq_getElem (by have := HCs.out; omega)] at cc
      generalize C[k]'(by have := HCs.out; omega) = old at cc
      have HB3 := Lib.hid hB3
      have HBW3 := Lib.hid (HBW.out.trans (b3.mono HBW.out.size))
      have j1 : (k : Int) < (m : Int) := by omega
      have j0 : (0 : Int) ≤ (k : Int) := by omega
      clear b3 hB3
      go_wp2_with fail
      have e9 := HC.out
      refine ⟨⟨k + 1, C.setIfInBounds k (str zeroBs), by omega, by go_num, ?_, HB3.out.set_ k _, HBW3.out.setCell (Nat.le_refl _) _⟩, by simp [intOf]; omega⟩
      rw [Array.toList_setIfInBounds, HC.out, zeroTo_step m k hlt]
    · obtain rfl : k = m := by omega
      rw [zeroTo_end] at hC
      have hst : C.toList = strCells (curOf (newR k cap ext).s) := by rw [(calm_new k cap ext).2, hC]
      have HB := Lib.hid hB
      have D3 := Lib.hid (D2.out.below hb)
      have ST := Lib.hid hst
      have HBW := Lib.hid hb
      have hzl := hB.lt
      have ZN := Lib.hid (show w2.heap.size ∉ [g, gb, gp, gw] from fun e => by have := GL.out _ e; omega)
      have ZL := Lib.hid Q2.out.size
      have Q3 := Lib.hid (Q2.out.trans (hb.mono Q2.out.size))
      clear hB hb hC hst hCs HC0 D2 hm2 FX GL
      go_wp2_with fail
      clear HBW Q2
      generalize w2.heap.size = z at *
      go_loopw [13] (fun x wq => ∃ (q : Nat) (S : St) (T : RSt) (C' : Array Value), q ≤ n ∧ x = .int .i64 q ∧ Hid (S.bl.length = k) ∧ Hid (Sim S T) ∧ Hid (Calm T) ∧ Hid (DiskAt wq g gb gp gw q S) ∧ Hid (C'.toList = strCells (curOf T.s)) ∧ Hid (Blk wq z 9 C') ∧ Hid (Below w.heap.size w wq)) (fun x _ => n - (intOf x).toNat)
      case atStart => exact ⟨0, newS k, newR k cap ext, C, by omega, rfl, Lib.hid List.length_replicate, Lib.hid (sim_new k cap ext h1), Lib.hid (calm_new k cap ext).1, D3, ST, HB, Q3⟩
      case round =>
        obtain ⟨q, S, T, C', hq, rfl, LN, SM, CM, D, ST', B, Q⟩ := hrel
        by_cases hlq : q < n
        · obtain ⟨b, off, o, rfl, hb, ho, hoa, c0, c1, c2, c3, c4⟩ := (HS.out.keep (w' := wr) (fun p hp => Q.out.cell hp)).op hlq
          have HO := Lib.hid ho
          have HOA := Lib.hid (hoa.more Q.out.size)
          have i1 : (q : Int) < (n : Int) := by omega
          clear ho hoa
          have GLT := Lib.hid (show ∀ x ∈ [g, gb, gp, gw], x < wr.heap.size by
            have := D.out.lt
            intro x hx
            simp only [List.mem_cons, List.not_mem_nil, or_false] at hx
            rcases hx with rfl | rfl | rfl | rfl <;> omega)
          by_cases hsk : o.k = 6 ∨ o.k = 7 ∨ o.k = 4 ∨ o.k = 5
          · obtain ⟨kk, i, bit, t, A', n', c', ps'⟩ := o
            dsimp only at hsk c0 c1 c2 c3 c4
            rcases hsk with rfl | rfl | rfl | rfl
            all_goals
              go_wp2_with fail
              go_roundw
              case rel => exact ⟨q + 1, S, T, C', by omega, by go_num, LN, SM, CM, Lib.hid ((D.out.below (below_new _ _)).mono (by omega)), ST', Lib.hid (B.out.below (below_new _ _) B.out.lt), Lib.hid (Q.out.alloc Q.out.size _)⟩
              case measure => simp [intOf]; omega
          · have ht : tame o.k := by unfold tame; omega
            obtain ⟨hc1, hcur⟩ := CM.out.do_ SM.out o ht
            have SM' := Lib.hid (SM.out.do_ o)
            have CM' := Lib.hid hc1
            have LN' := Lib.hid ((tame_do S o).len.trans LN.out)
            have CUR := Lib.hid hcur
            have HPK := Lib.hid (HS.out.picks HO.out GE.out)
            clear hc1 hcur ht
            by_cases h1k : o.k = 1
            · have WE := Lib.hid ((doE_write S o h1k).trans (SM.out.writeE o.i (padB o.t.data.toList)))
              obtain ⟨kk, i, bit, t, A', n', c', ps'⟩ := o
              obtain rfl : kk = 1 := h1k
              dsimp only at c0 c1 c2 c3 c4 hsk
              have HT := Lib.hid HOA.out.t2
              obtain ⟨E, hE⟩ : ∃ E, E = doE S ⟨1, i, bit, t, A', n', c', ps'⟩ := ⟨_, rfl⟩
              have HE := Lib.hid hE
              go_wp2_with fail
              refine (do_any _ g gb gp gw q S (D.out.below (below_new _ _)) (by omega) SM.out.pendOK ⟨1, i, bit, t, A', n', c', ps'⟩ ((HOA.out.keep (fun p hp => (below_new _ _).cell hp)).more (by simp)) HPK.out).mono ?_
              rintro e w3 ⟨rfl, d3, k3⟩
              have D3 := Lib.hid d3
              have B3 := Lib.hid ((B.out.below (below_new _ _) B.out.lt).keep k3 ZN.out)
              have OB := op_block k3 GLT.out
              obtain ⟨f0, f1, f2, f3, f4⟩ := five_of OB
              have HOB := Lib.hid OB
              have Q3' := Lib.hid ((Q.out.alloc Q.out.size (.cells #[.int .i64 1, .int .i64 i, .int .i64 bit, .string t, .slice A' n' c'] 44)).trans (k3.below (by have := Q.out.size; simp; omega) GE.out))
              have OLT := Lib.hid (show wr.heap.size < w3.heap.size from OB.lt)
              rw [← hE]
              clear d3 k3 OB hE
              unfold StrErr
              by_cases hE0 : E = 0
              · subst hE0
                have hrg := writeE_ok CM.out (WE.out ▸ HE.out.symm)
                obtain ⟨p, rfl⟩ : ∃ p : Nat, i = p := ⟨i.toNat, by omega⟩
                have hpm : p < k := by have := SM.out.len; have := LN.out; omega
                have HPM := Lib.hid hpm
                have CS := Lib.hid (show C'.size = k by have := congrArg List.length ST'.out; rw [strCells, List.length_map, cur_length, SM.out.len, LN.out] at this; simpa using this)
                have j1 : (p : Int) < (k : Int) := by omega
                have j0 : (0 : Int) ≤ (p : Int) := by omega
                have zne : Hid (wr.heap.size ≠ z) := Lib.hid (by have := B.out.lt; omega)
                clear hrg
                go_wp2_with fail
                go_region_held3 (fun W => W.cell? ⟨wr.heap.size, 0, none⟩ = some (.int .i64 1) ∧ W.cell? ⟨wr.heap.size, 1, none⟩ = some (.int .i64 (p : Int)) ∧ W.cell? ⟨wr.heap.size, 2, none⟩ = some (.int .i64 bit) ∧ W.cell? ⟨wr.heap.size, 3, none⟩ = some (.string t) ∧ W.cell? ⟨wr.heap.size, 4, none⟩ = some (.slice A' n' c'))
                  (first | exact ⟨f0, f1, f2, f3, f4⟩ | exact F5.out | exact F6.out | go_keep)
                  (first
                    | (go_at_call 21
                       refine (text_any _ 1 (p : Int) bit t _ HT.out).mono ?_
                       rintro e w5 ⟨rfl, b5⟩
                       have hB5 := (show Blk w3.drew z 9 C' from B3.out).below b5 B3.out.lt
                       have hO5 := (show Blk w3.drew wr.heap.size 44 #[.int .i64 1, .int .i64 (p : Int), .int .i64 bit, .string t, .slice A' n' c'] from HOB.out).below b5 OLT.out
                       have F5 := Lib.hid (five_of hO5)
                       have F6 := Lib.hid (five_of (hO5.setOther (a := ⟨z, p, none⟩) zne.out (str (padB t.data.toList))))
                       have cc : w5.cell? ⟨z, p, none⟩ = C'[p]? := hB5.cell p
                       have cf : w5.frozen? ⟨z, p, none⟩ = false := hB5.frozen p
                       rw [Array.getElem?_eq_getElem (by have := CS.out; have := HPM.out; omega)] at cc
                       generalize C'[p]'(by have := CS.out; have := HPM.out; omega) = old at cc
                       have B5 := Lib.hid b5
                       have HB5 := Lib.hid hB5
                       clear b5 hB5 hO5))
                all_goals go_wp2_with fail
                all_goals go_roundw
                all_goals first
                  | (simp [intOf]; omega)
                  | (refine ⟨q + 1, _, _, C'.setIfInBounds p (str (padB t.data.toList)), by omega, by go_num, LN', SM', CM', Lib.hid ?_, Lib.hid ?_, Lib.hid (HB5.out.set_ p _), Lib.hid ?_⟩
                     · refine DiskAt.keep (F := [z]) (w := w5) ?_ (set_keep w5 (by simp) _) (fun x hx => ?_)
                       · exact (D3.out.same (w' := w3.drew) rfl rfl rfl rfl).below B5.out
                       · obtain rfl : x = z := by simpa using hx
                         have := ZN.out
                         simp only [List.mem_cons, List.not_mem_nil, or_false, not_or] at this
                         exact this
                     · rw [CUR.out, if_pos ⟨by first | rfl | trivial, WE.out ▸ HE.out.symm⟩, strCells_set, ← ST'.out, Array.toList_setIfInBounds, Int.toNat_natCast]
                     · exact ((Q3'.out.drew).trans (B5.out.mono Q3'.out.size)).setCell ZL.out _)
              · have hEb : (E == 0) = false := beq_eq_false_iff_ne.2 hE0
                go_wp2_with fail
                go_roundw
                case rel =>
                  refine ⟨q + 1, _, _, C', by omega, by go_num, LN', SM', CM', D3, Lib.hid ?_, B3, Q3'⟩
                  rw [CUR.out, if_neg (fun e => hE0 (by rw [HE.out, WE.out]; exact e.2))]
                  exact ST'.out
                case measure => simp [intOf]; omega
            · obtain ⟨kk, i, bit, t, A', n', c', ps'⟩ := o
              dsimp only at c0 c1 c2 c3 c4 hsk h1k
              have p1 := beq_eq_false_iff_ne.2 h1k
              have p4 := beq_eq_false_iff_ne.2 (show kk ≠ 4 by omega)
              have p5 := beq_eq_false_iff_ne.2 (show kk ≠ 5 by omega)
              have p6 := beq_eq_false_iff_ne.2 (show kk ≠ 6 by omega)
              have p7 := beq_eq_false_iff_ne.2 (show kk ≠ 7 by omega)
              go_wp2_with fail
              refine (do_any _ g gb gp gw q S (D.out.below (below_new _ _)) (by omega) SM.out.pendOK ⟨kk, i, bit, t, A', n', c', ps'⟩ ((HOA.out.keep (fun p hp => (below_new _ _).cell hp)).more (by simp)) HPK.out).mono ?_
              rintro e w3 ⟨rfl, d3, k3⟩
              have D3 := Lib.hid d3
              have B3 := Lib.hid ((B.out.below (below_new _ _) B.out.lt).keep k3 ZN.out)
              have OB := op_block k3 GLT.out
              obtain ⟨f0, f1, f2, f3, f4⟩ := five_of OB
              have Q3' := Lib.hid ((Q.out.alloc Q.out.size (.cells #[.int .i64 kk, .int .i64 i, .int .i64 bit, .string t, .slice A' n' c'] 44)).trans (k3.below (by have := Q.out.size; simp; omega) GE.out))
              clear d3 k3 OB
              unfold StrErr
              go_wp2_with fail
              go_roundw
              case rel =>
                refine ⟨q + 1, _, _, C', by omega, by go_num, LN', SM', CM', D3, Lib.hid ?_, B3, Q3'⟩
                rw [CUR.out, if_neg (fun e => h1k e.1)]
                exact ST'.out
              case measure => simp [intOf]; omega
        · obtain rfl : q = n := by omega
          have DN := Lib.hid (CM.out.done SM.out ps)
          have PO := Lib.hid SM.out.pendOK
          have PO2 := Lib.hid SM.out.flush.pendOK
          have LF := Lib.hid ((tame_flush S).len.trans LN.out)
          have LM := Lib.hid ((tame_mount (flushS S) ps).len.trans LF.out)
          have LC := Lib.hid (show (curOf T.s).length = k by rw [cur_length, SM.out.len, LN.out])
          have LR := Lib.hid (Rd.blk B.out k (by have := congrArg List.length ST'.out; rw [strCells, List.length_map, LC.out] at this; simpa using this))
          have NL : Hid (∀ b o, some (⟨z, 0, none⟩ : Addr) = some ⟨b, o, none⟩ → b ∉ [g, gb, gp, gw]) := Lib.hid (fun b o e => by injection e with e; injection e with e; rw [← e]; exact ZN.out)
          have HPK := Lib.hid (show 0 < n2 → ∀ b x, A2 = some ⟨b, x, none⟩ → b ∉ [g, gb, gp, gw] from fun h0 b x e hb => by
            obtain ⟨b', _, e', hlt', _⟩ := HP.out.2 h0
            rw [e] at e'
            injection e' with e'; injection e' with e'
            have := GE.out b hb
            omega)
          rw [ST'.out] at LR
          clear HS
          go_wp2_with fail
          refine (flush_any _ g gb gp gw q S D.out (by omega) PO.out).mono ?_
          rintro e w3 ⟨rfl, d3, k3⟩
          rw [DN.out.2.1]
          have D3 := Lib.hid d3
          have L3 := Lib.hid (LR.out.kept k3 NL.out)
          have Q3' := Lib.hid (Q.out.trans (k3.below Q.out.size GE.out))
          clear d3 k3
          go_wp2_with fail
          refine (image_m _ g gb gp gw q k _ D3.out LF.out).mono ?_
          rintro e w4 ⟨A4, cp4, rfl, r4, l4, b4, n4⟩
          rw [DN.out.1] at r4
          have R4 := Lib.hid r4
          have D4 := Lib.hid (D3.out.below b4)
          have L4 := Lib.hid (L3.out.go b4)
          have Q4 := Lib.hid (Q3'.out.trans (b4.mono Q3'.out.size))
          clear r4 l4 b4 n4
          go_wp2_with fail
          refine (sameTexts_any A4 (some ⟨z, 0, none⟩) k k cp4 k (curOf T.s) (curOf T.s) _ R4.out L4.out LC.out LC.out (by omega) true (Lib.hid (by simp))).mono ?_
          rintro e w5 ⟨rfl, b5⟩
          have D5 := Lib.hid (D4.out.below b5)
          have L5 := Lib.hid (L4.out.go b5)
          have Q5 := Lib.hid (Q4.out.trans (b5.mono Q4.out.size))
          clear b5
          go_wp2_with fail
          refine (mount_gen _ g gb gp gw q _ D5.out (by omega) PO2.out A2 n2 c2 ps (HP.out.go Q5.out) HN2.out HPK.out).mono ?_
          rintro e w6 ⟨rfl, d6, k6⟩
          have D6 := Lib.hid d6
          have L6 := Lib.hid (L5.out.kept k6 NL.out)
          have Q6 := Lib.hid (Q5.out.trans (k6.below Q5.out.size GE.out))
          clear d6 k6
          go_wp2_with fail
          refine (image_m _ g gb gp gw q k _ D6.out LM.out).mono ?_
          rintro e w7 ⟨A7, cp7, rfl, r7, l7, b7, n7⟩
          rw [DN.out.2.2] at r7
          have R7 := Lib.hid r7
          have L7 := Lib.hid (L6.out.go b7)
          have Q7 := Lib.hid (Q6.out.trans (b7.mono Q6.out.size))
          clear r7 l7 b7 n7
          go_wp2_with fail
          refine (sameTexts_any A7 (some ⟨z, 0, none⟩) k k cp7 k (curOf T.s) (curOf T.s) _ R7.out L7.out LC.out LC.out (by omega) true (Lib.hid (by simp))).mono ?_
          rintro e w8 ⟨rfl, b8⟩
          have Q8 := Lib.hid (Q7.out.trans (b8.mono Q7.out.size))
          clear b8
          go_wp2_with fail
          go_ret
          exact ⟨rfl, Q8.out⟩
end Go.Proofs.Ytibhnjnfifpepaa
