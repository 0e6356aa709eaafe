/- The reference's Pack; a journal in memory; its writing. -/
import Derived.Test.YtddpjahoeldleaaGreatDoorMSmall
import Derived.Test.YtddpjahoeldleaaGreatDoorMDFlush
import Derived.Test.YtddpjahoeldleaaGreatDoorMDRot
import Derived.Test.YtddpjahoeldleaaGreatDoorMSame

namespace Go.Proofs.YtddpjahoeldleaaGreatDoor
open Go.RowKit

/-- the sectors of a record as strings -/
def PackPost (ss : List Bs) (er : Int) (w : World) : Ending → World → Prop := fun e w' => ∃ v, e = .returned (.tuple #[v, .int .i64 er]) ∧ w'.ownsRow w.heap.size 9 1 v ss.length (strCells ss) ∧ Below w.heap.size w w'
theorem count_le {n : Nat} (h : n ≤ 8000) {k : Nat} (hk : k < countN n) : 48 * k ≤ n := by
  unfold countN at hk
  rw [if_neg (by omega)] at hk
  split at hk <;> omega
theorem countI_nat (n : Nat) : countI (n : Int) = countN n := by unfold countI; rw [if_neg (by omega), Int.toNat_natCast]
def padTo (rest : Bs) (i : Nat) : Bs := rest.take i ++ List.replicate (i - rest.length) 0
theorem pad_step (rest : Bs) (i : Nat) : padTo rest (i + 1) = padTo rest i ++ [rest.getD i 0] := by
  unfold padTo
  by_cases h : i < rest.length
  · rw [List.take_succ_eq_append_getElem h, show i - rest.length = 0 by omega, show i + 1 - rest.length = 0 by omega, List.replicate_zero, List.append_nil, List.append_nil, List.getD_eq_getElem?_getD, List.getElem?_eq_getElem h]; rfl
  · rw [List.take_of_length_le (by omega), List.take_of_length_le (by omega), show i + 1 - rest.length = (i - rest.length) + 1 by omega, List.replicate_succ', List.append_assoc, List.getD_eq_getElem?_getD, List.getElem?_eq_none (by omega)]; rfl

theorem small4 (n : Nat) (w : World) (hn : n ≤ 1000000000) : Calls Tryz.prog 84 #[.int .i64 (n : Int), .int .i64 4] w (OwnPost w.heap.size 5 1 4 (byteCells (leN n 4)) w) := small_any n 4 w hn (by omega)
theorem small2 (n : Nat) (w : World) (hn : n ≤ 1000000000) : Calls Tryz.prog 84 #[.int .i64 (n : Int), .int .i64 2] w (OwnPost w.heap.size 5 1 2 (byteCells (leN n 2)) w) := small_any n 2 w hn (by omega)
theorem own_src {w : World} {base : Nat} {e : TypeId} {v : Value} {n : Nat} {b : Bs} (h : w.ownsRow base e 1 v n (byteCells b)) (hn : 0 < n) : ∃ g c, v = .slice (some ⟨g, 0, none⟩) n c ∧ g < w.heap.size ∧ ∀ j u, (byteCells b)[j]? = some u → w.cell? ((⟨g, 0, none⟩ : Addr).add j) = some u := by
  rcases h.2 with ⟨_, h0⟩ | ⟨g, cap, cur, hv, _, hg, _⟩
  · omega
  · subst hv
    exact ⟨g, cap, rfl, (Array.getElem?_eq_some_iff.1 hg).1, fun j u hu => h.cells (g := g) rfl j u hu⟩
section
variable {ops : Array Oper} {rest : List Oper} {o : Oper} {a : Act} {Q : Exit → Act → World → Prop} {w0 w : World}
/-- append(l, s): one string -/
theorem wpList_app_str (hgd : o.guard = none) (s x : Operand) (ho : o.op = .call { callee := .builtin .append, args := #[s, x], argTypes := #[28, 28] })
    (hb : Below w0.heap.size w0 w) (v : Value) (n : Nat) (l : List Bs) (hs : a.eval s = v) (hown : w.ownsRow w0.heap.size 9 1 v n (strCells l)) (y : Bs)
    (hx : a.eval x = .slice (some ⟨w.heap.size, 0, none⟩) 1 1) (hn : n ≤ 100000)
    (h : ∀ v' w', w'.ownsRow w0.heap.size 9 1 v' (n + 1) (strCells (l ++ [y])) → Below w0.heap.size w0 w' → wpList Tryz.prog ops Q rest (a.put o.dst v') w') :
    wpList Tryz.prog ops Q (o :: rest) a (w.alloc (.cells #[.string ⟨y.toArray⟩] 9)) := by
  obtain ⟨i0, hi, hz0, hz1, hz2⟩ := info_parts info9
  refine wpList_append_own _ hgd _ _ 28 ho w0.heap.size 9 i0 _ 1 16 Tryz.underlying28 hi hz0 hz1 hz2 rfl (by decide) v n (strCells l) hs (hown.alloc _) ⟨w.heap.size, 0, none⟩ 1 1 [.string ⟨y.toArray⟩] hx rfl (cells_one _ _ _) (fun u hu => by simp at hu; subst hu; rfl) (by unfold maxLen; omega) (by omega) (by have := hb.size; simp; omega) ?_
  intro v' w2 hown1 hgrow _
  rw [← strCells_snoc] at hown1
  exact h v' w2 hown1 ((hb.alloc hb.size _).grown hgrow (by have := hb.size; simp; omega) (fun g hg => (hown.lt g hg).1))
end

set_option maxHeartbeats 4000000 in
set_option maxRecDepth 100000 in
theorem rpack_any (number : Int) (s : ByteArray) (w : World) (hk : RConsts w) (h0 : 1 ≤ number) (h1 : number ≤ 4096) (h2 : s.size ≤ 8000) :
    Calls Tryz.prog 53 #[.int .i64 number, .string s] w (PackPost (packB number.toNat s.data.toList) 0 w) := by
  obtain ⟨nb, rfl⟩ := Int.eq_ofNat_of_zero_le (show 0 ≤ number by omega)
  obtain ⟨t, ht⟩ : ∃ t, t = s.data.toList := ⟨_, rfl⟩
  have hl : t.length = s.size := by rw [ht, list_size]
  have HT := Lib.hid ht
  have HK := Lib.hid hk
  obtain ⟨N, hN⟩ : ∃ N, N = countN s.size := ⟨_, rfl⟩
  have hcnt : ∀ w, Calls Tryz.prog 57 #[.int .i64 (s.size : Int)] w (Ret (.int .i64 (N : Int)) w) := fun w => by
    have := rcount_any (s.size : Int) w
    rwa [countI_nat, ← hN] at this
  have HCN := Lib.hid hcnt
  have HN := Lib.hid hN
  rw [Int.toNat_natCast]
  have hNb : N ≤ 200 := by rw [hN]; unfold countN; split <;> (try split) <;> omega
  have n1 : (1 : Int) ≤ (nb : Int) := h0
  have n2 : (nb : Int) ≤ 4096 := h1
  have s1 : (s.size : Int) ≤ 8000 := by omega
  rw [← ht]
  clear hk hcnt hN ht h0 h1
  go_enter Tryz.func53, Tryz.ntmps53
  go_wp2_with fail
  go_loopw [6, 7] (fun v x wr => ∃ k : Nat, k ≤ N ∧ x = .int .i64 k ∧ wr.ownsRow w.heap.size 9 1 v k (strCells ((List.range k).map (sectB nb t))) ∧ Below w.heap.size w wr) (fun _ x _ => N - (intOf x).toNat)
  case atStart => exact ⟨0, by omega, rfl, World.ownsRow_nil _ _ _ _, Below.refl _ _⟩
  case round =>
    obtain ⟨k, hkN, rfl, hown, hb⟩ := hrel
    obtain ⟨A, cc, rfl, hcc⟩ := own_slice hown
    obtain ⟨Wr, hWr⟩ : ∃ Wr, Wr = wr := ⟨_, rfl⟩
    subst hWr
    have HO := Lib.hid hown
    have HB := Lib.hid hb
    clear hown hb
    by_cases hlt : k < N
    · have k0 : (0 : Int) ≤ (k : Int) := by omega
      have k1 : (k : Int) < (N : Int) := by omega
      have k2 : 48 * k ≤ s.size := count_le h2 (by rw [← HN.out]; exact hlt)
      have k3 : (48 * (k : Int)) ≤ (s.size : Int) := by omega
      have k4 : k ≤ 200 := by omega
      obtain ⟨sr, hsr⟩ : ∃ sr, s.extract (48 * k) s.size = sr := ⟨_, rfl⟩
      obtain ⟨m, hm⟩ : ∃ m, m = s.size - 48 * k := ⟨_, rfl⟩
      have zr : sr.size = m := by rw [← hsr, ByteArray.size_extract, hm]; omega
      have HRL := Lib.hid (show sr.data.toList = t.drop (48 * k) by rw [← hsr, Lib.extract_data, HT.out, List.take_of_length_le]; rw [List.length_drop, list_size]; omega)
      have HM := Lib.hid hm
      have hm8 : m ≤ 8000 := by omega
      clear hm hlt
      go_wp2_with (go_at_call 57; refine (HCN.out _).mono ?_; rintro e w2 ⟨rfl, rfl⟩)
      refine (small4 nb Wr (by omega)).mono ?_
      rintro e W1 ⟨v1, rfl, o1, b1⟩
      obtain ⟨A1, c1, rfl, _⟩ := own_slice o1
      rw [hsr]
      have O1 := Lib.hid o1
      have B1 := Lib.hid b1
      clear o1 b1
      go_wp2_with fail
      refine (small2 k W1 (by omega)).mono ?_
      rintro e W2 ⟨v2, rfl, o2, b2⟩
      obtain ⟨g2, c2, rfl, _, src2⟩ := own_src o2 (by omega)
      have SRC2 := Lib.hid src2
      have B2 := Lib.hid (below_go B1.out b2)
      have O1' := Lib.hid (own_below O1.out b2)
      clear o2 b2 src2
      go_wp2_with (at_builtin; refine wpList_app_bytes rfl _ _ rfl B2.out (.slice A1 4 c1) 4 (leN nb 4) (by rfl) O1'.out (leN k 2) ⟨g2, 0, none⟩ 2 c2 (by rfl) (le_len 2 k).symm SRC2.out (by omega) ?_; intro v3 W3 o3 b3; obtain ⟨A3, c3, rfl, _⟩ := own_slice o3; have O3 := Lib.hid o3; have B3 := Lib.hid b3; clear o3 b3)
      refine (small2 m W3 (by omega)).mono ?_
      rintro e W4 ⟨v4, rfl, o4, b4⟩
      obtain ⟨g4, c4, rfl, _, src4⟩ := own_src o4 (by omega)
      have SRC4 := Lib.hid src4
      have B4 := Lib.hid (below_go B3.out b4)
      have O3' := Lib.hid (own_below O3.out b4)
      clear o4 b4 src4
      go_wp2_with (at_builtin; refine wpList_app_bytes rfl _ _ rfl B4.out (.slice A3 6 c3) 6 (leN nb 4 ++ leN k 2) (by rfl) O3'.out (leN m 2) ⟨g4, 0, none⟩ 2 c4 (by rfl) (le_len 2 m).symm SRC4.out (by omega) ?_; intro v5 W5 o5 b5; obtain ⟨A5, c5, rfl, _⟩ := own_slice o5; have O5 := Lib.hid o5; have B5 := Lib.hid b5; clear o5 b5)
      go_loopw [9, 10] (fun v x wr => ∃ i : Nat, i ≤ 48 ∧ x = .int .i64 i ∧ Hid (wr.ownsRow Wr.heap.size 5 1 v (8 + i) (byteCells (leN nb 4 ++ leN k 2 ++ leN m 2 ++ padTo (t.drop (48 * k)) i))) ∧ Hid (Below Wr.heap.size Wr wr)) (fun _ x _ => 48 - (intOf x).toNat)
      case atStart =>
        refine ⟨0, by omega, rfl, Lib.hid ?_, B5⟩
        have e : padTo (t.drop (48 * k)) 0 = [] := by simp [padTo]
        rw [e, List.append_nil]
        exact O5.out
      case round =>
        obtain ⟨i, hi, rfl, oi, bi⟩ := hrel
        obtain ⟨Ai, ci, rfl, hci⟩ := own_slice oi.out
        by_cases hi48 : i < 48
        · have HP := Lib.hid (pad_step (t.drop (48 * k)) i)
          have i0 : (0 : Int) ≤ (i : Int) := by omega
          have i1 : (i : Int) < 48 := by omega
          have ib : i ≤ 48 := hi
          by_cases him : i < m
          · have i2 : (i : Int) < (m : Int) := by omega
            have hiz : i < sr.size := by omega
            obtain ⟨y, hy⟩ : ∃ y, y = sr[i]'hiz := ⟨_, rfl⟩
            have hx : (sr[i]'hiz).toNat = y.toNat := by rw [hy]
            have HY := Lib.hid (show (t.drop (48 * k)).getD i 0 = y by
              rw [← HRL.out, hy, List.getD_eq_getElem?_getD, List.getElem?_eq_getElem (by rw [list_size]; exact hiz)]; rfl)
            clear hy hi hi48 him
            go_wp2_with (at_builtin; refine wpList_app_byte rfl _ _ rfl bi.out (.slice Ai (8 + i) ci) (8 + i) _ (by rfl) oi.out y (by rfl) (by omega) ?_; intro v7 w7 o7 b7; have O7 := Lib.hid o7; have B7 := Lib.hid b7; clear o7 b7; obtain ⟨A7, c7, rfl, _⟩ := own_slice O7.out)
            go_roundw
            case rel => exact ⟨i + 1, by omega, by go_num, Lib.hid (by rw [HP.out, HY.out, ← List.append_assoc]; exact O7.out), B7⟩
            case measure => simp [intOf]; omega
          · have i2 : (m : Int) ≤ (i : Int) := by omega
            have HY := Lib.hid (show (t.drop (48 * k)).getD i 0 = 0 by
              rw [← HRL.out, List.getD_eq_getElem?_getD, List.getElem?_eq_none (by rw [list_size]; omega)]; rfl)
            clear hi hi48 him
            go_wp2_with (at_builtin; refine wpList_app_byte rfl _ _ rfl bi.out (.slice Ai (8 + i) ci) (8 + i) _ (by rfl) oi.out 0 (by rfl) (by omega) ?_; intro v7 w7 o7 b7; have O7 := Lib.hid o7; have B7 := Lib.hid b7; clear o7 b7; obtain ⟨A7, c7, rfl, _⟩ := own_slice O7.out)
            go_roundw
            case rel => exact ⟨i + 1, by omega, by go_num, Lib.hid (by rw [HP.out, HY.out, ← List.append_assoc]; exact O7.out), B7⟩
            case measure => simp [intOf]; omega
        · obtain rfl : i = 48 := by omega
          have HBD := Lib.hid (show leN nb 4 ++ leN k 2 ++ leN m 2 ++ padTo (t.drop (48 * k)) 48 = bodyB nb k (t.drop (48 * k)) by
            rw [bodyB, padTo, ← HRL.out, list_size, zr])
          have O8 := Lib.hid (show wr.ownsRow Wr.heap.size 5 1 (.slice Ai 56 ci) 56 (byteCells (bodyB nb k (t.drop (48 * k)))) by rw [← HBD.out]; exact oi.out)
          have HCH := Lib.hid (fun hkw => checked_any Ai ci (bodyB nb k (t.drop (48 * k))) wr (Rd.of_own O8.out) hkw)
          have BW := Lib.hid (below_go HB.out bi.out)
          have HOW := Lib.hid (own_below HO.out bi.out)
          clear hi hi48
          go_wp2_with (first
            | (go_at_call 83; refine (HCH.out (HK.out.below BW.out)).mono ?_; rintro e w9 ⟨rfl, b9⟩; have BW9 := Lib.hid (below_go BW.out b9); have HOW9 := Lib.hid (own_below HOW.out b9); clear b9)
            | (at_builtin; refine wpList_app_str rfl _ _ rfl BW9.out (.slice A k cc) k _ (by rfl) HOW9.out (checkedB (bodyB nb k (t.drop (48 * k)))) (by rfl) (by omega) ?_; intro v10 w10 o10 b10; have O10 := Lib.hid o10; have B10 := Lib.hid b10; clear o10 b10; obtain ⟨A10, c10, rfl, _⟩ := own_slice O10.out))
          refine ⟨⟨k + 1, by omega, by go_num, ?_, B10.out⟩, by simp [intOf]; omega⟩
          rw [List.range_succ, List.map_append]
          exact O10.out
    · obtain rfl : k = N := by omega
      go_wp2_with (go_at_call 57; refine (HCN.out _).mono ?_; rintro e w2 ⟨rfl, rfl⟩)
      go_ret2
      have e1 : (packB nb t).length = k := by rw [packB, List.length_map, List.length_range, hl, HN.out]
      refine ⟨_, rfl, ?_, HB.out⟩
      rw [e1, packB, hl, ← HN.out]
      exact HO.out
theorem rpack_bad (number : Int) (s : ByteArray) (w : World) (h : number < 1 ∨ 4096 < number) : Calls Tryz.prog 53 #[.int .i64 number, .string s] w (PackPost [] 1 w) := by
  rcases h with h | h
  · go_enter Tryz.func53, Tryz.ntmps53
    go_wp2_with fail
    go_ret2
    exact ⟨_, rfl, World.ownsRow_nil _ _ _ _, Below.refl _ _⟩
  · go_enter Tryz.func53, Tryz.ntmps53
    go_wp2_with fail
    go_ret2
    exact ⟨_, rfl, World.ownsRow_nil _ _ _ _, Below.refl _ _⟩
theorem rpack_long (number : Int) (s : ByteArray) (w : World) (h0 : 1 ≤ number) (h1 : number ≤ 4096) (h : 8000 < s.size) : Calls Tryz.prog 53 #[.int .i64 number, .string s] w (PackPost [] 4 w) := by
  have h2 : (8000 : Int) < (s.size : Int) := by omega
  go_enter Tryz.func53, Tryz.ntmps53
  go_wp2_with fail
  go_ret2
  exact ⟨_, rfl, World.ownsRow_nil _ _ _ _, Below.refl _ _⟩
/-- what Pack gives, and its error -/
def packE (number : Int) (t : Bs) : Int := if number < 1 ∨ 4096 < number then 1 else if 8000 < t.length then 4 else 0
def packV (number : Int) (t : Bs) : List Bs := if packE number t = 0 then packB number.toNat t else []
theorem rpackV_any (number : Int) (s : ByteArray) (w : World) (hk : RConsts w) : Calls Tryz.prog 53 #[.int .i64 number, .string s] w (PackPost (packV number s.data.toList) (packE number s.data.toList) w) := by
  have hl := list_size s
  unfold packV packE
  by_cases h : number < 1 ∨ 4096 < number
  · rw [if_pos h, if_neg (by decide)]; exact rpack_bad number s w h
  · rw [if_neg h]
    by_cases h2 : 8000 < s.data.toList.length
    · rw [if_pos h2, if_neg (by decide)]; exact rpack_long number s w (by omega) (by omega) (by omega)
    · rw [if_neg h2, if_pos rfl]; exact rpack_any number s w hk (by omega) (by omega) (by omega)
end Go.Proofs.YtddpjahoeldleaaGreatDoor

namespace Go.Proofs.YtddpjahoeldleaaGreatDoor
open Go.RowKit Go.Maps

theorem add_at (b off j : Nat) : (⟨b, off, none⟩ : Addr).add j = ⟨b, off + j, none⟩ := by unfold Addr.add; split <;> simp_all

theorem cloneI_any (A : Option Addr) (n c : Nat) (zs : List Int) (w : World) (h : Rd w w.heap.size 1 A n (intCells zs)) (hn : n ≤ 100000) : Calls Tryz.prog 67 #[.slice A n c] w (OwnPost w.heap.size 3 1 n (intCells zs) w) := by
  cases A with
  | none =>
    have h0 : n = 0 := by
      rcases Nat.eq_zero_or_pos n with h0 | h0
      · exact h0
      · obtain ⟨_, _, e, _⟩ := h.2 h0; cases e
    subst h0
    have e0 : intCells zs = [] := List.eq_nil_of_length_eq_zero (by have := h.1; omega)
    have hnl := Lib.run_eql_slice_nil (P := Tryz.prog) w 23 3 none 0 c 0 0 Tryz.underlying23
    rw [e0]
    clear h e0
    go_enter Tryz.func67, Tryz.ntmps67
    go_wp2_with fail
    go_ret
    exact ⟨_, rfl, World.ownsRow_nil _ _ _ _, Below.refl _ _⟩
  | some a =>
    obtain ⟨i0, hi, hz0, hz1, hz2⟩ := info_parts info3
    have hnl := Lib.run_eql_slice_nil (P := Tryz.prog) w 23 3 (some a) n c 0 0 Tryz.underlying23
    have hown : (w.alloc (.cells #[] 3)).ownsRow w.heap.size 3 1 (.slice (some ⟨w.heap.size, 0, none⟩) 0 0) 0 [] := World.ownsRow_lit (base := w.heap.size) (e := 3) (size := 1) w #[] 0 (Nat.le_refl _) (by decide) rfl
    have hsrc : ∀ j u, (intCells zs)[j]? = some u → (w.alloc (.cells #[] 3)).cell? (a.add j) = some u := fun j u hu => by
      have hj : j < n := by have := (List.getElem?_eq_some_iff.1 hu).1; have := h.1; omega
      obtain ⟨b, off, e, hb, hc⟩ := h.2 (by omega)
      obtain rfl := Option.some.inj e
      rw [add_at]
      exact ((below_new w _).cell (p := ⟨b, off + j, none⟩) hb).trans (hc j u hu)
    have hl : (intCells zs).length = n * 1 := h.1
    have HS := Lib.hid hsrc
    have HL := Lib.hid hl
    clear h hsrc hl
    go_enter Tryz.func67, Tryz.ntmps67
    go_wp2_with (at_builtin; refine wpList_append_own _ rfl _ _ 23 rfl w.heap.size 3 i0 _ 1 8 Tryz.underlying23 hi hz0 hz1 hz2 rfl (by decide) _ 0 [] rfl hown a n c (intCells zs) rfl HL.out HS.out (fun u hu => by simp [intCells] at hu; obtain ⟨z, _, rfl⟩ := hu; rfl) (by unfold maxLen; omega) (by omega) (by simp) ?_)
    intro v2 w2 hown2 hgrow hnil
    have hb : Below w.heap.size w w2 := (below_new w (.cells #[] 3)).grown hgrow (by simp) (fun g hg => (hown.lt g hg).1)
    obtain ⟨A', c', rfl, -⟩ := own_slice hown2
    have HO := Lib.hid hown2
    clear hown2 hgrow hnil hown
    go_wp2_with fail
    go_ret
    exact ⟨_, rfl, HO.out, hb⟩

theorem cloneS_any (A : Option Addr) (n c : Nat) (zs : List Bs) (w : World) (h : Rd w w.heap.size 1 A n (strCells zs)) (hn : n ≤ 100000) : Calls Tryz.prog 48 #[.slice A n c] w (OwnPost w.heap.size 9 1 n (strCells zs) w) := by
  cases A with
  | none =>
    have h0 : n = 0 := by
      rcases Nat.eq_zero_or_pos n with h0 | h0
      · exact h0
      · obtain ⟨_, _, e, _⟩ := h.2 h0; cases e
    subst h0
    have e0 : strCells zs = [] := List.eq_nil_of_length_eq_zero (by have := h.1; omega)
    have hnl := Lib.run_eql_slice_nil (P := Tryz.prog) w 28 9 none 0 c 0 0 Tryz.underlying28
    rw [e0]
    clear h e0
    go_enter Tryz.func48, Tryz.ntmps48
    go_wp2_with fail
    go_ret
    exact ⟨_, rfl, World.ownsRow_nil _ _ _ _, Below.refl _ _⟩
  | some a =>
    obtain ⟨i0, hi, hz0, hz1, hz2⟩ := info_parts info9
    have hnl := Lib.run_eql_slice_nil (P := Tryz.prog) w 28 9 (some a) n c 0 0 Tryz.underlying28
    have hown : (w.alloc (.cells #[] 9)).ownsRow w.heap.size 9 1 (.slice (some ⟨w.heap.size, 0, none⟩) 0 0) 0 [] := World.ownsRow_lit (base := w.heap.size) (e := 9) (size := 1) w #[] 0 (Nat.le_refl _) (by decide) rfl
    have hsrc : ∀ j u, (strCells zs)[j]? = some u → (w.alloc (.cells #[] 9)).cell? (a.add j) = some u := fun j u hu => by
      have hj : j < n := by have := (List.getElem?_eq_some_iff.1 hu).1; have := h.1; omega
      obtain ⟨b, off, e, hb, hc⟩ := h.2 (by omega)
      obtain rfl := Option.some.inj e
      rw [add_at]
      exact ((below_new w _).cell (p := ⟨b, off + j, none⟩) hb).trans (hc j u hu)
    have hl : (strCells zs).length = n * 1 := h.1
    have HS := Lib.hid hsrc
    have HL := Lib.hid hl
    clear h hsrc hl
    go_enter Tryz.func48, Tryz.ntmps48
    go_wp2_with (at_builtin; refine wpList_append_own _ rfl _ _ 28 rfl w.heap.size 9 i0 _ 1 16 Tryz.underlying28 hi hz0 hz1 hz2 rfl (by decide) _ 0 [] rfl hown a n c (strCells zs) rfl HL.out HS.out (fun u hu => by simp [strCells] at hu; obtain ⟨z, _, rfl⟩ := hu; rfl) (by unfold maxLen; omega) (by omega) (by simp) ?_)
    intro v2 w2 hown2 hgrow hnil
    have hb : Below w.heap.size w w2 := (below_new w (.cells #[] 9)).grown hgrow (by simp) (fun g hg => (hown.lt g hg).1)
    obtain ⟨A', c', rfl, -⟩ := own_slice hown2
    have HO := Lib.hid hown2
    clear hown2 hgrow hnil hown
    go_wp2_with fail
    go_ret
    exact ⟨_, rfl, HO.out, hb⟩

/-- a journal's value -/
structure JV where
  nums : List Int
  bad : List Int
  texts : List Bs
  next : Int
  fin : Int
  closed : Bool
/-- the journal J lies at block j: its disk's struct at g, its lists at vn, vb, vt -/
structure JAt (w : World) (j g : Nat) (vn vb vt : Value) (J : JV) : Prop where
  head : Blk w j 75 #[.pointer (some ⟨g, 0, none⟩), vn, vb, vt, .int .i64 J.next, .int .i64 J.fin, .bool J.closed]
  nums : w.ownsRow 0 3 1 vn J.nums.length (intCells J.nums)
  bad : w.ownsRow 0 3 1 vb J.bad.length (intCells J.bad)
  texts : w.ownsRow 0 9 1 vt J.texts.length (strCells J.texts)
  apart : ∀ k, vn.ownBlock = some k → vb.ownBlock ≠ some k
theorem own_block {w : World} {base : Nat} {e : TypeId} {s : Nat} {v : Value} {n : Nat} {xs : List Value} (h : w.ownsRow base e s v n xs) {k : Nat} (hk : v.ownBlock = some k) : ∃ cs fr, w.heap[k]? = some (.cells cs e fr) := by
  rcases h.2 with ⟨rfl, _⟩ | ⟨g, cap, cur, rfl, _, hg, _⟩
  · simp [Value.ownBlock] at hk
  · have : g = k := by simpa [Value.ownBlock] using hk
    subst this
    exact ⟨cur, (0, 0), hg⟩
theorem own_keepF {w w' : World} {F : List Nat} {base : Nat} {e : TypeId} {s : Nat} {v : Value} {n : Nat} {xs : List Value} (h : w.ownsRow base e s v n xs) (hk : Keep F w w') (hF : ∀ k, v.ownBlock = some k → k ∉ F) : w'.ownsRow base e s v n xs := by
  refine ⟨h.1, ?_⟩
  rcases h.2 with hn | ⟨g, cap, cur, rfl, hb, hg, rest⟩
  · exact .inl hn
  · exact .inr ⟨g, cap, cur, rfl, hb, (hk.block g (Array.getElem?_eq_some_iff.1 hg).1 (hF g (by simp [Value.ownBlock]))).trans hg, rest⟩
section
variable {w w' : World} {j g : Nat} {vn vb vt : Value} {J : JV} {F : List Nat}
theorem JAt.keep (h : JAt w j g vn vb vt J) (hk : Keep F w w') (h0 : j ∉ F) (h1 : ∀ k, vn.ownBlock = some k → k ∉ F) (h2 : ∀ k, vb.ownBlock = some k → k ∉ F) (h3 : ∀ k, vt.ownBlock = some k → k ∉ F) : JAt w' j g vn vb vt J :=
  ⟨(hk.block j h.head.lt h0).trans h.head, own_keepF h.nums hk h1, own_keepF h.bad hk h2, own_keepF h.texts hk h3, h.apart⟩
theorem JAt.below (h : JAt w j g vn vb vt J) (hb : Below w.heap.size w w') : JAt w' j g vn vb vt J :=
  h.keep (Keep.of_below hb []) (by simp) (by simp) (by simp) (by simp)
/-- what a disk's change leaves -/
theorem JAt.disk (h : JAt w j g vn vb vt J) {gb gp gw K : Nat} {S : Dk.St} (hd : Dk.DiskAt w g gb gp gw K S) (hk : Keep [g, gb, gp, gw] w w') : JAt w' j g vn vb vt J := by
  have key : ∀ (k : Nat) (e : TypeId) (cs : Array Value) (fr : Nat × Nat), w.heap[k]? = some (.cells cs e fr) → e ≠ 92 → e ≠ 99 → k ∉ [g, gb, gp, gw] := fun k e cs fr hb h1 h2 hm => by
    obtain ⟨e1, c1, m1⟩ := Dk.ownsMap_obj hd.pend
    obtain ⟨e2, c2, m2⟩ := Dk.ownsMap_obj hd.worn
    simp only [List.mem_cons, List.not_mem_nil, or_false] at hm
    rcases hm with rfl | rfl | rfl | rfl
    · have := hd.head; rw [hb] at this; injection this with this; injection this with _ this; exact h1 this
    · have := hd.rows; rw [hb] at this; injection this with this; injection this with _ this; exact h2 this
    · rw [hb] at m1; cases m1
    · rw [hb] at m2; cases m2
  refine h.keep hk (key j _ _ _ h.head (by decide) (by decide)) (fun k hq => ?_) (fun k hq => ?_) (fun k hq => ?_)
  · obtain ⟨cs, fr, hb⟩ := own_block h.nums hq; exact key k _ _ _ hb (by decide) (by decide)
  · obtain ⟨cs, fr, hb⟩ := own_block h.bad hq; exact key k _ _ _ hb (by decide) (by decide)
  · obtain ⟨cs, fr, hb⟩ := own_block h.texts hq; exact key k _ _ _ hb (by decide) (by decide)
theorem JAt.cells (h : JAt w j g vn vb vt J) : w.cell? ⟨j, 0, none⟩ = some (.pointer (some ⟨g, 0, none⟩)) ∧ w.cell? ⟨j, 1, none⟩ = some vn ∧ w.cell? ⟨j, 2, none⟩ = some vb ∧ w.cell? ⟨j, 3, none⟩ = some vt ∧ w.cell? ⟨j, 4, none⟩ = some (.int .i64 J.next) ∧ w.cell? ⟨j, 5, none⟩ = some (.int .i64 J.fin) ∧ w.cell? ⟨j, 6, none⟩ = some (.bool J.closed) :=
  ⟨h.head.cell 0, h.head.cell 1, h.head.cell 2, h.head.cell 3, h.head.cell 4, h.head.cell 5, h.head.cell 6⟩
end
section
variable (w : World) (j g : Nat) (vn vb vt : Value) (J : JV)
theorem next_any (h : JAt w j g vn vb vt J) : Calls Tryz.prog 37 #[.pointer (some ⟨j, 0, none⟩)] w (Ret (.int .i64 J.next) w) := by
  obtain ⟨_, _, _, _, c4, _, _⟩ := h.cells
  clear h
  go_enter Tryz.func37, Tryz.ntmps37
  go_wp2_with fail
  go_ret
  exact Ret.mk
theorem numbers_any (h : JAt w j g vn vb vt J) (hn : J.nums.length ≤ 100000) : Calls Tryz.prog 42 #[.pointer (some ⟨j, 0, none⟩)] w (OwnPost w.heap.size 3 1 J.nums.length (intCells J.nums) w) := by
  obtain ⟨_, c1, _, _, _, _, _⟩ := h.cells
  obtain ⟨A, c, rfl, _⟩ := own_slice h.nums
  have HC := Lib.hid (cloneI_any A J.nums.length c J.nums w (Rd.of_own h.nums) hn)
  clear h
  go_enter Tryz.func42, Tryz.ntmps42
  go_wp2_with fail
  refine HC.out.mono ?_
  rintro e w' ⟨v, rfl, ho, hb⟩
  obtain ⟨A', c', rfl, _⟩ := own_slice ho
  go_wp2_with fail
  go_ret
  exact ⟨_, rfl, ho, hb⟩
theorem bad_any (h : JAt w j g vn vb vt J) (hn : J.bad.length ≤ 100000) : Calls Tryz.prog 35 #[.pointer (some ⟨j, 0, none⟩)] w (OwnPost w.heap.size 3 1 J.bad.length (intCells J.bad) w) := by
  obtain ⟨_, _, c2, _, _, _, _⟩ := h.cells
  obtain ⟨A, c, rfl, _⟩ := own_slice h.bad
  have HC := Lib.hid (cloneI_any A J.bad.length c J.bad w (Rd.of_own h.bad) hn)
  clear h
  go_enter Tryz.func35, Tryz.ntmps35
  go_wp2_with fail
  refine HC.out.mono ?_
  rintro e w' ⟨v, rfl, ho, hb⟩
  obtain ⟨A', c', rfl, _⟩ := own_slice ho
  go_wp2_with fail
  go_ret
  exact ⟨_, rfl, ho, hb⟩
theorem jtexts_any (h : JAt w j g vn vb vt J) (hn : J.texts.length ≤ 100000) : Calls Tryz.prog 11 #[.pointer (some ⟨j, 0, none⟩)] w (OwnPost w.heap.size 9 1 J.texts.length (strCells J.texts) w) := by
  obtain ⟨_, _, _, c3, _, _, _⟩ := h.cells
  obtain ⟨A, c, rfl, _⟩ := own_slice h.texts
  have HC := Lib.hid (cloneS_any A J.texts.length c J.texts w (Rd.of_own h.texts) hn)
  clear h
  go_enter Tryz.func11, Tryz.ntmps11
  go_wp2_with fail
  refine HC.out.mono ?_
  rintro e w' ⟨v, rfl, ho, hb⟩
  obtain ⟨A', c', rfl, _⟩ := own_slice ho
  go_wp2_with fail
  go_ret
  exact ⟨_, rfl, ho, hb⟩
/-- Room draws its order: the world is as it was but for the draw -/
theorem room_any (h : JAt w j g vn vb vt J) {gb gp gw K : Nat} {S : Dk.St} (hd : Dk.DiskAt w g gb gp gw K S) (h0 : 0 ≤ J.fin) (h1 : J.fin ≤ 4096) : Calls Tryz.prog 38 #[.pointer (some ⟨j, 0, none⟩)] w (RetB (.int .i64 ((S.bl.length : Int) - J.fin)) w) := by
  obtain ⟨c0, _, _, _, _, c5, _⟩ := h.cells
  have HL : Hid (∀ n, Calls Tryz.prog 43 #[.pointer (some ⟨g, 0, none⟩)] (w.drewN n) (fun e w' => e = .returned (.int .i64 (S.bl.length : Int)) ∧ w' = w.drewN n)) := Lib.hid (fun n => (Dk.len_any (w.drewN n) g gb gp gw K S (hd.same rfl rfl rfl rfl)).mono (fun _ _ hq => ⟨hq.1, hq.2.symm⟩))
  have n2 : (S.bl.length : Int) ≤ 4096 := by have := hd.n2; omega
  have n1 : (0 : Int) ≤ (S.bl.length : Int) := by omega
  clear h hd
  go_enter Tryz.func38, Tryz.ntmps38
  go_wp2_with fail
  go_quiet ((go_at_call 43; with_reducible exact Calls.quiet_of_same (HL.out _)))
  go_wp2_with fail
  go_ret
  exact ⟨rfl, below_drewN' (Below.refl _ _) _⟩
end
end Go.Proofs.YtddpjahoeldleaaGreatDoor

namespace Go.Proofs.YtddpjahoeldleaaGreatDoor.Dk
open Go.RowKit Go.Maps

theorem mem_insert {H : Type} (x y : Lit × DataW H) : ∀ l, y ∈ DataW.insert x l → y = x ∨ y ∈ l
  | [], h => by
    rw [DataW.insert] at h
    simpa using h
  | a :: r, h => by
    rw [DataW.insert] at h
    split at h
    · simpa using h
    · rcases List.mem_cons.1 h with e | h
      · exact .inr (by simp [e])
      · rcases mem_insert x y r h with e | h
        · exact .inl e
        · exact .inr (List.mem_cons_of_mem _ h)
theorem mem_keysOf (D : Dt) (z : Int) : z ∈ keysOf D ↔ z ∈ intKeys D := (List.mergeSort_perm _ _).mem_iff
theorem keys_put (D : Dt) (i : Int) (v : Dt) (z : Int) (h : z ∈ keysOf (D.put (kI i) v)) : z = i ∨ z ∈ keysOf D := by
  rw [mem_keysOf] at h ⊢
  cases D with
  | map es =>
    obtain ⟨p, hp, rfl⟩ := List.mem_map.1 h
    rcases mem_insert _ _ _ hp with e | hp
    · left; rw [e]; rfl
    · exact .inr (List.mem_map.2 ⟨p, (List.mem_filter.1 hp).1, rfl⟩)
  | _ => exact .inr h
theorem keys_del (D : Dt) (k : Lit) (z : Int) (h : z ∈ keysOf (D.del k)) : z ∈ keysOf D := by
  rw [mem_keysOf] at h ⊢
  cases D with
  | map es =>
    obtain ⟨p, hp, rfl⟩ := List.mem_map.1 h
    exact List.mem_map.2 ⟨p, (List.mem_filter.1 hp).1, rfl⟩
  | _ => exact h
/-- S' has as many sectors as S, and its pending ones are of S or in range -/
structure Tame (S S' : St) : Prop where
  len : S'.bl.length = S.bl.length
  keys : ∀ z ∈ keysOf S'.pend, z ∈ keysOf S.pend ∨ (0 ≤ z ∧ z < (S.bl.length : Int))
theorem Tame.refl (S : St) : Tame S S := ⟨rfl, fun _ h => .inl h⟩
theorem Tame.trans {S S' S'' : St} (h : Tame S S') (k : Tame S' S'') : Tame S S'' := by
  refine ⟨k.len.trans h.len, fun z hz => ?_⟩
  rcases k.keys z hz with hz | hz
  · exact h.keys z hz
  · exact .inr (by rw [h.len] at hz; exact hz)
theorem Tame.ok {S S' : St} (h : Tame S S') (hP : PendOK S) : PendOK S' := fun z hz => by
  rw [h.len]
  rcases h.keys z hz with hz | hz
  · exact hP z hz
  · exact hz
theorem tame_step (S : St) : Tame S (stepS S) := by
  obtain ⟨h1, h2, _⟩ := step_len S
  exact ⟨h1, fun z hz => .inl (by rw [h2] at hz; exact hz)⟩
theorem tame_settle (S : St) (i : Nat) (p : Int) : Tame S (settleS S i p) := by
  refine ⟨settleS_len S i p, fun z hz => .inl ?_⟩
  unfold settleS at hz
  split at hz
  · exact keys_del _ _ _ hz
  · exact keys_del _ _ _ hz
theorem tame_settleK (S : St) (ks : List Int) (pf : Nat → Int) : ∀ m, Tame S (settleK S ks pf m)
  | 0 => Tame.refl S
  | m + 1 => (tame_settleK S ks pf m).trans (tame_settle _ _ _)
theorem tame_flush (S : St) : Tame S (flushS S) := by
  unfold flushS
  split
  · exact Tame.refl S
  · split
    · exact tame_step S
    · exact (tame_step S).trans (tame_settleK _ _ _ _)
theorem tame_write (S : St) (i : Int) (b : Bs) : Tame S (writeS S i b) := by
  unfold writeS
  split
  · exact Tame.refl S
  · rename_i hc
    split
    · exact tame_step S
    · have hs := tame_step S
      refine ⟨hs.len, fun z hz => ?_⟩
      rcases keys_put _ _ _ _ hz with rfl | hz
      · right
        have h0 : checkE S z = 0 := Decidable.byContradiction fun e => hc (.inl e)
        unfold checkE at h0
        split at h0
        · cases h0
        · split at h0
          · assumption
          · cases h0
      · exact hs.keys z hz
theorem tame_rot (S : St) (i bit : Int) : Tame S (rotS S i bit) := by
  unfold rotS
  split
  · exact ⟨List.length_set, fun _ h => .inl h⟩
  · exact Tame.refl S
theorem tame_wear (S : St) (i : Int) : Tame S (wearS S i) := by
  unfold wearS
  split
  · exact ⟨rfl, fun _ h => .inl h⟩
  · exact Tame.refl S
theorem pendOK_new (n : Nat) : PendOK (newS n) := fun z hz => by
  rw [mem_keysOf] at hz
  cases hz
end Go.Proofs.YtddpjahoeldleaaGreatDoor.Dk

namespace Go.Proofs.YtddpjahoeldleaaGreatDoor
open Go.RowKit Go.Maps

/-- sectors written one after the other: the error, the disk -/
def wrRun : Dk.St → Int → List Bs → Int × Dk.St
  | S, _, [] => (0, S)
  | S, a, s :: r => if Dk.writeE S a s ≠ 0 then (Dk.writeE S a s, Dk.writeS S a s) else wrRun (Dk.writeS S a s) (a + 1) r
/-- sectors read again: the error, whether they are the same -/
def rdRun (S : Dk.St) : Int → List Bs → Bool → Int × Bool
  | _, [], b => (0, b)
  | a, s :: r, b => if Dk.checkE S a ≠ 0 then (Dk.checkE S a, false) else rdRun S (a + 1) r (b && decide (s = Dk.readB S a))
structure WrV where
  err : Int
  same : Bool
  S : Dk.St
def writeR (S : Dk.St) (a : Int) (l : List Bs) : WrV :=
  if (wrRun S a l).1 ≠ 0 then ⟨(wrRun S a l).1, false, (wrRun S a l).2⟩
  else if Dk.flushE (wrRun S a l).2 ≠ 0 then ⟨Dk.flushE (wrRun S a l).2, false, Dk.flushS (wrRun S a l).2⟩
  else ⟨(rdRun (Dk.flushS (wrRun S a l).2) a l true).1, (rdRun (Dk.flushS (wrRun S a l).2) a l true).2, Dk.flushS (wrRun S a l).2⟩
theorem tame_wrRun : ∀ (l : List Bs) (S : Dk.St) (a : Int), Dk.Tame S (wrRun S a l).2
  | [], S, _ => Dk.Tame.refl S
  | s :: r, S, a => by
    rw [wrRun]
    split
    · exact Dk.tame_write _ _ _
    · exact (Dk.tame_write _ _ _).trans (tame_wrRun r _ _)
theorem tame_writeR (S : Dk.St) (a : Int) (l : List Bs) : Dk.Tame S (writeR S a l).S := by
  unfold writeR
  split
  · exact tame_wrRun l S a
  · split
    · exact (tame_wrRun l S a).trans (Dk.tame_flush _)
    · exact (tame_wrRun l S a).trans (Dk.tame_flush _)
theorem Rd.keepF {w w' : World} {B size n : Nat} {A : Option Addr} {xs : List Value} {F : List Nat} (h : Rd w B size A n xs) (hk : Keep F w w') (hB : B ≤ w.heap.size) (hA : ∀ b off, A = some ⟨b, off, none⟩ → b ∉ F) : Rd w' B size A n xs :=
  ⟨h.1, fun hn => by
    obtain ⟨b, off, e, hb, hc⟩ := h.2 hn
    exact ⟨b, off, e, hb, fun j u hu => (hk.cell (p := ⟨b, off + j, none⟩) (by show b < _; omega) (hA b off e)).trans (hc j u hu)⟩⟩

set_option maxHeartbeats 4000000 in
set_option maxRecDepth 100000 in
theorem jwrite_any (w : World) (j g : Nat) (vn vb vt : Value) (J : JV) (gb gp gw K : Nat) (S : Dk.St) (hJ : JAt w j g vn vb vt J) (hd : Dk.DiskAt w g gb gp gw K S) (hP : Dk.PendOK S) (at_ : Int) (a0 : 0 ≤ at_) (a1 : at_ ≤ 4096)
    (A : Option Addr) (n c : Nat) (ss : List Bs) (hl : ss.length = n) (hn : n ≤ 200) (hK : K + n ≤ 100000) (h : Rd w w.heap.size 1 A n (strCells ss)) (hA : ∀ b off, A = some ⟨b, off, none⟩ → b ∉ [g, gb, gp, gw]) (h64 : ∀ s ∈ ss, s.length ≤ 1000000) :
    Calls Tryz.prog 49 #[.pointer (some ⟨j, 0, none⟩), .int .i64 at_, .slice A n c] w (Dk.DPost (.tuple #[.int .i64 (writeR S at_ ss).err, .bool (writeR S at_ ss).same]) g gb gp gw (K + n) (writeR S at_ ss).S w) := by
  have HJ := Lib.hid hJ
  have HD := Lib.hid hd
  have HP := Lib.hid hP
  have HR := Lib.hid h
  have HA := Lib.hid hA
  have HL := Lib.hid hl
  have H64 := Lib.hid h64
  clear hJ hd hP h hA hl h64
  go_enter Tryz.func49, Tryz.ntmps49
  go_wp2_with fail
  go_loopw [19] (fun x wr => ∃ (k : Nat) (T : Dk.St), k ≤ n ∧ x = .int .i64 k ∧ Hid (Dk.DiskAt wr g gb gp gw (K + k) T) ∧ Hid (Keep [g, gb, gp, gw] w wr) ∧ Hid (Dk.PendOK T) ∧ Hid (wrRun S at_ ss = wrRun T (at_ + k) (ss.drop k))) (fun x _ => n - (intOf x).toNat)
  case atStart => exact ⟨0, S, by omega, rfl, HD, Lib.hid (Keep.refl _ _), HP, Lib.hid (by rw [List.drop_zero]; congr 1; omega)⟩
  case round =>
    obtain ⟨k, T, hk, rfl, dT, kT, pT, eT⟩ := hrel
    have JT := Lib.hid (HJ.out.disk HD.out kT.out)
    have c0 := JT.out.cells.1
    by_cases hlt : k < n
    · have k0 : (0 : Int) ≤ (k : Int) := by omega
      have k1 : (k : Int) < (n : Int) := by omega
      obtain ⟨b, off, rfl, hbl, hcell⟩ := HR.out.str HL.out hlt
      have hcw := (kT.out.cell (p := ⟨b, off + k, none⟩) hbl (HA.out b off rfl)).trans hcell
      have hkl : k < ss.length := by rw [HL.out]; exact hlt
      obtain ⟨sk, hsk⟩ : ∃ sk : ByteArray, sk = ⟨ss[k].toArray⟩ := ⟨_, rfl⟩
      rw [← hsk] at hcw
      have HSK := Lib.hid (show ss.drop k = sk.data.toList :: ss.drop (k + 1) by rw [List.drop_eq_getElem_cons hkl, hsk])
      have HZ := Lib.hid (show sk.size ≤ 9223372036854775807 by
        have := H64.out ss[k] (List.getElem_mem hkl)
        rw [hsk, mk_size]; omega)
      have w1 : IntKind.i64.wrap (at_ + (k : Int)) = at_ + (k : Int) := IntWalk.i64_in _ (by omega)
      have HKN := Lib.hid (And.intro hk hlt)
      clear hcell hsk hk hlt hkl
      go_wp2_with fail
      refine (Dk.write_any wr g gb gp gw (K + k) T dT.out (by omega) (at_ + (k : Int)) (by omega) (by omega) sk HZ.out).mono ?_
      rintro e w2 ⟨rfl, d2, k2⟩
      obtain ⟨E, hE⟩ : ∃ E, E = Dk.writeE T (at_ + (k : Int)) sk.data.toList := ⟨_, rfl⟩
      rw [← hE]
      have D2 := Lib.hid d2
      have K2 := Lib.hid (kT.out.trans k2)
      have HE := Lib.hid hE
      clear d2 k2 hE c0 hcw
      by_cases h0 : E = 0
      · subst h0
        go_wp2_with fail
        go_roundw
        case rel =>
          refine ⟨k + 1, _, by have := HKN.out.2; omega, by go_num, D2, K2, Lib.hid ((Dk.tame_write T _ _).ok pT.out), Lib.hid ?_⟩
          rw [eT.out, HSK.out, wrRun, if_neg (by rw [← HE.out]; decide)]
          congr 1
          omega
        case measure => have := HKN.out.2; simp [intOf]; omega
      · have hb : (E == 0) = false := beq_eq_false_iff_ne.2 h0
        have HW := Lib.hid (show wrRun S at_ ss = (E, Dk.writeS T (at_ + (k : Int)) sk.data.toList) by rw [eT.out, HSK.out, wrRun, if_pos (by rw [← HE.out]; exact h0), ← HE.out])
        have HRR := Lib.hid (show writeR S at_ ss = ⟨E, false, Dk.writeS T (at_ + (k : Int)) sk.data.toList⟩ by rw [writeR, HW.out, if_pos (by exact h0)])
        clear h0
        go_wp2_with fail
        go_ret2
        rw [HRR.out]
        exact ⟨rfl, D2.out.mono (by have := HKN.out.2; omega), K2.out⟩
    · obtain rfl : k = n := by omega
      have HW := Lib.hid (show wrRun S at_ ss = (0, T) by rw [eT.out, List.drop_eq_nil_of_le (by rw [HL.out]; exact Nat.le_refl _), wrRun])
      go_wp2_with fail
      refine (Dk.flush_any wr g gb gp gw (K + k) T dT.out hK pT.out).mono ?_
      rintro e w2 ⟨rfl, d2, k2⟩
      obtain ⟨E, hE⟩ : ∃ E, E = Dk.flushE T := ⟨_, rfl⟩
      rw [← hE]
      have D2 := Lib.hid d2
      have K2 := Lib.hid (kT.out.trans k2)
      have HE := Lib.hid hE
      clear d2 k2 hE c0
      by_cases h0 : E = 0
      · subst h0
        have HRR := Lib.hid (show writeR S at_ ss = ⟨(rdRun (Dk.flushS T) at_ ss true).1, (rdRun (Dk.flushS T) at_ ss true).2, Dk.flushS T⟩ by rw [writeR, HW.out, if_neg (fun h => h rfl), if_neg (by rw [← HE.out]; exact fun h => h rfl)])
        have c0 := (HJ.out.disk HD.out K2.out).cells.1
        go_wp2_with fail
        obtain ⟨R, hR⟩ : ∃ R, R = Dk.flushS T := ⟨_, rfl⟩
        rw [← hR] at D2 HRR
        clear hR
        go_loopw [12, 47] (fun bv x wr => ∃ (i : Nat) (b : Bool), i ≤ k ∧ x = .int .i64 i ∧ bv = .bool b ∧ Hid (Dk.DiskAt wr g gb gp gw (K + k) R) ∧ Hid (Keep [g, gb, gp, gw] w wr) ∧ Hid (rdRun R at_ ss true = rdRun R (at_ + i) (ss.drop i) b)) (fun _ x _ => k - (intOf x).toNat)
        case atStart => exact ⟨0, true, by omega, rfl, rfl, D2, K2, Lib.hid (by rw [List.drop_zero]; congr 1; omega)⟩
        case round =>
          obtain ⟨i, b, hi, rfl, rfl, dR, kR, eR⟩ := hrel
          have JR := Lib.hid (HJ.out.disk HD.out kR.out)
          have c0 := JR.out.cells.1
          by_cases hik : i < k
          · have k0 : (0 : Int) ≤ (i : Int) := by omega
            have k1 : (i : Int) < (k : Int) := by omega
            obtain ⟨bb, off, rfl, hbl, hcell⟩ := HR.out.str HL.out hik
            have hcw := (kR.out.cell (p := ⟨bb, off + i, none⟩) hbl (HA.out bb off rfl)).trans hcell
            have hkl : i < ss.length := by rw [HL.out]; exact hik
            obtain ⟨sk, hsk⟩ : ∃ sk : ByteArray, sk = ⟨ss[i].toArray⟩ := ⟨_, rfl⟩
            rw [← hsk] at hcw
            have HSK := Lib.hid (show ss.drop i = sk.data.toList :: ss.drop (i + 1) by rw [List.drop_eq_getElem_cons hkl, hsk])
            have w1 : IntKind.i64.wrap (at_ + (i : Int)) = at_ + (i : Int) := IntWalk.i64_in _ (by omega)
            have HKN := Lib.hid (And.intro hi hik)
            clear hcell hsk hi hik hkl
            go_wp2_with fail
            refine (Dk.read_any wr g gb gp gw (K + k) R dR.out (at_ + (i : Int)) (by omega) (by omega)).mono ?_
            rintro e w3 ⟨rfl, b3⟩
            obtain ⟨E, hE⟩ : ∃ E, E = Dk.checkE R (at_ + (i : Int)) := ⟨_, rfl⟩
            obtain ⟨tt, htt⟩ : ∃ tt : ByteArray, tt = ⟨(Dk.readB R (at_ + (i : Int))).toArray⟩ := ⟨_, rfl⟩
            rw [Dk.StrErr, ← hE, ← htt]
            have D3 := Lib.hid (dR.out.below b3)
            have K3 := Lib.hid (kR.out.trans (Keep.of_below b3 _))
            have HE := Lib.hid hE
            have HTT := Lib.hid (show (sk.toList == tt.toList) = decide (sk.data.toList = Dk.readB R (at_ + (i : Int))) by
              rw [Lib.toList_data, Lib.toList_data, htt]
              by_cases e : sk.data.toList = Dk.readB R (at_ + (i : Int))
              · rw [decide_eq_true e, e]; exact beq_self_eq_true _
              · rw [decide_eq_false e]; exact beq_eq_false_iff_ne.2 e)
            clear b3 hE htt c0 hcw
            by_cases h0 : E = 0
            · subst h0
              have HST := Lib.hid (show rdRun R at_ ss true = rdRun R (at_ + ((i + 1 : Nat) : Int)) (ss.drop (i + 1)) (b && (sk.toList == tt.toList)) by
                rw [eR.out, HSK.out, rdRun, if_neg (by rw [← HE.out]; exact fun h => h rfl), HTT.out]
                congr 1
                omega)
              cases b
              · go_wp2_with fail
                go_roundw
                case rel => exact ⟨i + 1, _, by have := HKN.out.2; omega, by go_num, rfl, D3, K3, Lib.hid (by rw [HST.out]; rfl)⟩
                case measure => have := HKN.out.2; simp [intOf]; omega
              · cases hx : sk.toList == tt.toList
                · have HST2 := Lib.hid (show rdRun R at_ ss true = rdRun R (at_ + ((i + 1 : Nat) : Int)) (ss.drop (i + 1)) false by rw [HST.out, hx]; rfl)
                  go_wp2_with fail
                  go_roundw
                  case rel => exact ⟨i + 1, _, by have := HKN.out.2; omega, by go_num, rfl, D3, K3, HST2⟩
                  case measure => have := HKN.out.2; simp [intOf]; omega
                · have HST2 := Lib.hid (show rdRun R at_ ss true = rdRun R (at_ + ((i + 1 : Nat) : Int)) (ss.drop (i + 1)) true by rw [HST.out, hx]; rfl)
                  go_wp2_with fail
                  go_roundw
                  case rel => exact ⟨i + 1, _, by have := HKN.out.2; omega, by go_num, rfl, D3, K3, HST2⟩
                  case measure => have := HKN.out.2; simp [intOf]; omega
            · have hb : (E == 0) = false := beq_eq_false_iff_ne.2 h0
              have HRD := Lib.hid (show rdRun R at_ ss true = (E, false) by rw [eR.out, HSK.out, rdRun, if_pos (by rw [← HE.out]; exact h0), ← HE.out])
              clear h0
              go_wp2_with fail
              go_ret2
              rw [HRR.out, HRD.out]
              exact ⟨rfl, D3.out, K3.out⟩
          · obtain rfl : i = k := by omega
            have HRD := Lib.hid (show rdRun R at_ ss true = (0, b) by rw [eR.out, List.drop_eq_nil_of_le (by rw [HL.out]; exact Nat.le_refl _), rdRun])
            go_wp2_with fail
            go_ret2
            rw [HRR.out, HRD.out]
            exact ⟨rfl, dR.out, kR.out⟩
      · have hb : (E == 0) = false := beq_eq_false_iff_ne.2 h0
        have HRR := Lib.hid (show writeR S at_ ss = ⟨E, false, Dk.flushS T⟩ by rw [writeR, HW.out, if_neg (fun h => h rfl), if_pos (by rw [← HE.out]; exact h0), ← HE.out])
        clear h0
        go_wp2_with fail
        go_ret2
        rw [HRR.out]
        exact ⟨rfl, D2.out, K2.out⟩
end Go.Proofs.YtddpjahoeldleaaGreatDoor
