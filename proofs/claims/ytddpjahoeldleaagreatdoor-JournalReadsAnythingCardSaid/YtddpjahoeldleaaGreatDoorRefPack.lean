/- The reference's Pack. -/
import Derived.Test.YtddpjahoeldleaaGreatDoorSmall
namespace Go.Proofs.YtddpjahoeldleaaGreatDoor
open Go.RowKit

/-- the sectors of a record as strings -/
def PackPost (ss : List Bs) (er : Int) (w : World) : Ending → World → Prop := fun e w' => ∃ v, e = .returned (.tuple #[v, .int .i64 er]) ∧ w'.ownsRow w.heap.size 9 1 v ss.length (strCells ss) ∧ Below w.heap.size w w'
theorem count_le {n : Nat} (h : n ≤ 8000) {k : Nat} (hk : k < countN n) : 48 * k ≤ n := by
  unfold countN at hk
  rw [if_neg (by omega)] at hk
  split at hk <;> omega
theorem countI_nat (n : Nat) : countI (n : Int) = countN n := by unfold countI; rw [if_neg (by omega), Int.toNat_natCast]
def padTo (rest : Bs) (i : Nat) : Bs := rest.take i ++ List.replicate (i - rest.length) 0
theorem pad_step (rest : Bs) (i : Nat) : padTo rest (i + 1) = padTo rest i ++ [rest.getD i 0] := by
  unfold padTo
  by_cases h : i < rest.length
  · rw [List.take_succ_eq_append_getElem h, show i - rest.length = 0 by omega, show i + 1 - rest.length = 0 by omega, List.replicate_zero, List.append_nil, List.append_nil, List.getD_eq_getElem?_getD, List.getElem?_eq_getElem h]; rfl
  · rw [List.take_of_length_le (by omega), List.take_of_length_le (by omega), show i + 1 - rest.length = (i - rest.length) + 1 by omega, List.replicate_succ', List.append_assoc, List.getD_eq_getElem?_getD, List.getElem?_eq_none (by omega)]; rfl

theorem small4 (n : Nat) (w : World) (hn : n ≤ 1000000000) : Calls Tryz.prog 84 #[.int .i64 (n : Int), .int .i64 4] w (OwnPost w.heap.size 5 1 4 (byteCells (leN n 4)) w) := small_any n 4 w hn (by omega)
theorem small2 (n : Nat) (w : World) (hn : n ≤ 1000000000) : Calls Tryz.prog 84 #[.int .i64 (n : Int), .int .i64 2] w (OwnPost w.heap.size 5 1 2 (byteCells (leN n 2)) w) := small_any n 2 w hn (by omega)
theorem own_src {w : World} {base : Nat} {e : TypeId} {v : Value} {n : Nat} {b : Bs} (h : w.ownsRow base e 1 v n (byteCells b)) (hn : 0 < n) : ∃ g c, v = .slice (some ⟨g, 0, none⟩) n c ∧ g < w.heap.size ∧ ∀ j u, (byteCells b)[j]? = some u → w.cell? ((⟨g, 0, none⟩ : Addr).add j) = some u := by
  rcases h.2 with ⟨_, h0⟩ | ⟨g, cap, cur, hv, _, hg, _⟩
  · omega
  · subst hv
    exact ⟨g, cap, rfl, (Array.getElem?_eq_some_iff.1 hg).1, fun j u hu => h.cells (g := g) rfl j u hu⟩
section
variable {ops : Array Oper} {rest : List Oper} {o : Oper} {a : Act} {Q : Exit → Act → World → Prop} {w0 w : World}
/-- append(l, s): one string -/
theorem wpList_app_str (hgd : o.guard = none) (s x : Operand) (ho : o.op = .call { callee := .builtin .append, args := #[s, x], argTypes := #[28, 28] })
    (hb : Below w0.heap.size w0 w) (v : Value) (n : Nat) (l : List Bs) (hs : a.eval s = v) (hown : w.ownsRow w0.heap.size 9 1 v n (strCells l)) (y : Bs)
    (hx : a.eval x = .slice (some ⟨w.heap.size, 0, none⟩) 1 1) (hn : n ≤ 100000)
    (h : ∀ v' w', w'.ownsRow w0.heap.size 9 1 v' (n + 1) (strCells (l ++ [y])) → Below w0.heap.size w0 w' → wpList Tryz.prog ops Q rest (a.put o.dst v') w') :
    wpList Tryz.prog ops Q (o :: rest) a (w.alloc (.cells #[.string ⟨y.toArray⟩] 9)) := by
  obtain ⟨i0, hi, hz0, hz1, hz2⟩ := info_parts info9
  refine wpList_append_own _ hgd _ _ 28 ho w0.heap.size 9 i0 _ 1 16 Tryz.underlying28 hi hz0 hz1 hz2 rfl (by decide) v n (strCells l) hs (hown.alloc _) ⟨w.heap.size, 0, none⟩ 1 1 [.string ⟨y.toArray⟩] hx rfl (cells_one _ _ _) (fun u hu => by simp at hu; subst hu; rfl) (by unfold maxLen; omega) (by omega) (by have := hb.size; simp; omega) ?_
  intro v' w2 hown1 hgrow _
  rw [← strCells_snoc] at hown1
  exact h v' w2 hown1 ((hb.alloc hb.size _).grown hgrow (by have := hb.size; simp; omega) (fun g hg => (hown.lt g hg).1))
end

set_option maxHeartbeats 4000000 in
set_option maxRecDepth 100000 in
theorem rpack_any (number : Int) (s : ByteArray) (w : World) (hk : RConsts w) (h0 : 1 ≤ number) (h1 : number ≤ 4096) (h2 : s.size ≤ 8000) :
    Calls Tryz.prog 53 #[.int .i64 number, .string s] w (PackPost (packB number.toNat s.data.toList) 0 w) := by
  obtain ⟨nb, rfl⟩ := Int.eq_ofNat_of_zero_le (show 0 ≤ number by omega)
  obtain ⟨t, ht⟩ : ∃ t, t = s.data.toList := ⟨_, rfl⟩
  have hl : t.length = s.size := by rw [ht, list_size]
  have HT := Lib.hid ht
  have HK := Lib.hid hk
  obtain ⟨N, hN⟩ : ∃ N, N = countN s.size := ⟨_, rfl⟩
  have hcnt : ∀ w, Calls Tryz.prog 57 #[.int .i64 (s.size : Int)] w (Ret (.int .i64 (N : Int)) w) := fun w => by
    have := rcount_any (s.size : Int) w
    rwa [countI_nat, ← hN] at this
  have HCN := Lib.hid hcnt
  have HN := Lib.hid hN
  rw [Int.toNat_natCast]
  have hNb : N ≤ 200 := by rw [hN]; unfold countN; split <;> (try split) <;> omega
  have n1 : (1 : Int) ≤ (nb : Int) := h0
  have n2 : (nb : Int) ≤ 4096 := h1
  have s1 : (s.size : Int) ≤ 8000 := by omega
  rw [← ht]
  clear hk hcnt hN ht h0 h1
  go_enter Tryz.func53, Tryz.ntmps53
  go_wp2_with fail
  go_loopw [6, 7] (fun v x wr => ∃ k : Nat, k ≤ N ∧ x = .int .i64 k ∧ wr.ownsRow w.heap.size 9 1 v k (strCells ((List.range k).map (sectB nb t))) ∧ Below w.heap.size w wr) (fun _ x _ => N - (intOf x).toNat)
  case atStart => exact ⟨0, by omega, rfl, World.ownsRow_nil _ _ _ _, Below.refl _ _⟩
  case round =>
    obtain ⟨k, hkN, rfl, hown, hb⟩ := hrel
    obtain ⟨A, cc, rfl, hcc⟩ := own_slice hown
    obtain ⟨Wr, hWr⟩ : ∃ Wr, Wr = wr := ⟨_, rfl⟩
    subst hWr
    have HO := Lib.hid hown
    have HB := Lib.hid hb
    clear hown hb
    by_cases hlt : k < N
    · have k0 : (0 : Int) ≤ (k : Int) := by omega
      have k1 : (k : Int) < (N : Int) := by omega
      have k2 : 48 * k ≤ s.size := count_le h2 (by rw [← HN.out]; exact hlt)
      have k3 : (48 * (k : Int)) ≤ (s.size : Int) := by omega
      have k4 : k ≤ 200 := by omega
      obtain ⟨sr, hsr⟩ : ∃ sr, s.extract (48 * k) s.size = sr := ⟨_, rfl⟩
      obtain ⟨m, hm⟩ : ∃ m, m = s.size - 48 * k := ⟨_, rfl⟩
      have zr : sr.size = m := by rw [← hsr, ByteArray.size_extract, hm]; omega
      have HRL := Lib.hid (show sr.data.toList = t.drop (48 * k) by rw [← hsr, Lib.extract_data, HT.out, List.take_of_length_le]; rw [List.length_drop, list_size]; omega)
      have HM := Lib.hid hm
      have hm8 : m ≤ 8000 := by omega
      clear hm hlt
      go_wp2_with (go_at_call 57; refine (HCN.out _).mono ?_; rintro e w2 ⟨rfl, rfl⟩)
      refine (small4 nb Wr (by omega)).mono ?_
      rintro e W1 ⟨v1, rfl, o1, b1⟩
      obtain ⟨A1, c1, rfl, _⟩ := own_slice o1
      rw [hsr]
      have O1 := Lib.hid o1
      have B1 := Lib.hid b1
      clear o1 b1
      go_wp2_with fail
      refine (small2 k W1 (by omega)).mono ?_
      rintro e W2 ⟨v2, rfl, o2, b2⟩
      obtain ⟨g2, c2, rfl, _, src2⟩ := own_src o2 (by omega)
      have SRC2 := Lib.hid src2
      have B2 := Lib.hid (below_go B1.out b2)
      have O1' := Lib.hid (own_below O1.out b2)
      clear o2 b2 src2
      go_wp2_with (at_builtin; refine wpList_app_bytes rfl _ _ rfl B2.out (.slice A1 4 c1) 4 (leN nb 4) (by rfl) O1'.out (leN k 2) ⟨g2, 0, none⟩ 2 c2 (by rfl) (le_len 2 k).symm SRC2.out (by omega) ?_; intro v3 W3 o3 b3; obtain ⟨A3, c3, rfl, _⟩ := own_slice o3; have O3 := Lib.hid o3; have B3 := Lib.hid b3; clear o3 b3)
      refine (small2 m W3 (by omega)).mono ?_
      rintro e W4 ⟨v4, rfl, o4, b4⟩
      obtain ⟨g4, c4, rfl, _, src4⟩ := own_src o4 (by omega)
      have SRC4 := Lib.hid src4
      have B4 := Lib.hid (below_go B3.out b4)
      have O3' := Lib.hid (own_below O3.out b4)
      clear o4 b4 src4
      go_wp2_with (at_builtin; refine wpList_app_bytes rfl _ _ rfl B4.out (.slice A3 6 c3) 6 (leN nb 4 ++ leN k 2) (by rfl) O3'.out (leN m 2) ⟨g4, 0, none⟩ 2 c4 (by rfl) (le_len 2 m).symm SRC4.out (by omega) ?_; intro v5 W5 o5 b5; obtain ⟨A5, c5, rfl, _⟩ := own_slice o5; have O5 := Lib.hid o5; have B5 := Lib.hid b5; clear o5 b5)
      go_loopw [9, 10] (fun v x wr => ∃ i : Nat, i ≤ 48 ∧ x = .int .i64 i ∧ Hid (wr.ownsRow Wr.heap.size 5 1 v (8 + i) (byteCells (leN nb 4 ++ leN k 2 ++ leN m 2 ++ padTo (t.drop (48 * k)) i))) ∧ Hid (Below Wr.heap.size Wr wr)) (fun _ x _ => 48 - (intOf x).toNat)
      case atStart =>
        refine ⟨0, by omega, rfl, Lib.hid ?_, B5⟩
        have e : padTo (t.drop (48 * k)) 0 = [] := by simp [padTo]
        rw [e, List.append_nil]
        exact O5.out
      case round =>
        obtain ⟨i, hi, rfl, oi, bi⟩ := hrel
        obtain ⟨Ai, ci, rfl, hci⟩ := own_slice oi.out
        by_cases hi48 : i < 48
        · have HP := Lib.hid (pad_step (t.drop (48 * k)) i)
          have i0 : (0 : Int) ≤ (i : Int) := by omega
          have i1 : (i : Int) < 48 := by omega
          have ib : i ≤ 48 := hi
          by_cases him : i < m
          · have i2 : (i : Int) < (m : Int) := by omega
            have hiz : i < sr.size := by omega
            obtain ⟨y, hy⟩ : ∃ y, y = sr[i]'hiz := ⟨_, rfl⟩
            have hx : (sr[i]'hiz).toNat = y.toNat := by rw [hy]
            have HY := Lib.hid (show (t.drop (48 * k)).getD i 0 = y by
              rw [← HRL.out, hy, List.getD_eq_getElem?_getD, List.getElem?_eq_getElem (by rw [list_size]; exact hiz)]; rfl)
            clear hy hi hi48 him
            go_wp2_with (at_builtin; refine wpList_app_byte rfl _ _ rfl bi.out (.slice Ai (8 + i) ci) (8 + i) _ (by rfl) oi.out y (by rfl) (by omega) ?_; intro v7 w7 o7 b7; have O7 := Lib.hid o7; have B7 := Lib.hid b7; clear o7 b7; obtain ⟨A7, c7, rfl, _⟩ := own_slice O7.out)
            go_roundw
            case rel => exact ⟨i + 1, by omega, by go_num, Lib.hid (by rw [HP.out, HY.out, ← List.append_assoc]; exact O7.out), B7⟩
            case measure => simp [intOf]; omega
          · have i2 : (m : Int) ≤ (i : Int) := by omega
            have HY := Lib.hid (show (t.drop (48 * k)).getD i 0 = 0 by
              rw [← HRL.out, List.getD_eq_getElem?_getD, List.getElem?_eq_none (by rw [list_size]; omega)]; rfl)
            clear hi hi48 him
            go_wp2_with (at_builtin; refine wpList_app_byte rfl _ _ rfl bi.out (.slice Ai (8 + i) ci) (8 + i) _ (by rfl) oi.out 0 (by rfl) (by omega) ?_; intro v7 w7 o7 b7; have O7 := Lib.hid o7; have B7 := Lib.hid b7; clear o7 b7; obtain ⟨A7, c7, rfl, _⟩ := own_slice O7.out)
            go_roundw
            case rel => exact ⟨i + 1, by omega, by go_num, Lib.hid (by rw [HP.out, HY.out, ← List.append_assoc]; exact O7.out), B7⟩
            case measure => simp [intOf]; omega
        · obtain rfl : i = 48 := by omega
          have HBD := Lib.hid (show leN nb 4 ++ leN k 2 ++ leN m 2 ++ padTo (t.drop (48 * k)) 48 = bodyB nb k (t.drop (48 * k)) by
            rw [bodyB, padTo, ← HRL.out, list_size, zr])
          have O8 := Lib.hid (show wr.ownsRow Wr.heap.size 5 1 (.slice Ai 56 ci) 56 (byteCells (bodyB nb k (t.drop (48 * k)))) by rw [← HBD.out]; exact oi.out)
          have HCH := Lib.hid (fun hkw => checked_any Ai ci (bodyB nb k (t.drop (48 * k))) wr (Rd.of_own O8.out) hkw)
          have BW := Lib.hid (below_go HB.out bi.out)
          have HOW := Lib.hid (own_below HO.out bi.out)
          clear hi hi48
          go_wp2_with (first
            | (go_at_call 83; refine (HCH.out (HK.out.below BW.out)).mono ?_; rintro e w9 ⟨rfl, b9⟩; have BW9 := Lib.hid (below_go BW.out b9); have HOW9 := Lib.hid (own_below HOW.out b9); clear b9)
            | (at_builtin; refine wpList_app_str rfl _ _ rfl BW9.out (.slice A k cc) k _ (by rfl) HOW9.out (checkedB (bodyB nb k (t.drop (48 * k)))) (by rfl) (by omega) ?_; intro v10 w10 o10 b10; have O10 := Lib.hid o10; have B10 := Lib.hid b10; clear o10 b10; obtain ⟨A10, c10, rfl, _⟩ := own_slice O10.out))
          refine ⟨⟨k + 1, by omega, by go_num, ?_, B10.out⟩, by simp [intOf]; omega⟩
          rw [List.range_succ, List.map_append]
          exact O10.out
    · obtain rfl : k = N := by omega
      go_wp2_with (go_at_call 57; refine (HCN.out _).mono ?_; rintro e w2 ⟨rfl, rfl⟩)
      go_ret2
      have e1 : (packB nb t).length = k := by rw [packB, List.length_map, List.length_range, hl, HN.out]
      refine ⟨_, rfl, ?_, HB.out⟩
      rw [e1, packB, hl, ← HN.out]
      exact HO.out
theorem rpack_bad (number : Int) (s : ByteArray) (w : World) (h : number < 1 ∨ 4096 < number) : Calls Tryz.prog 53 #[.int .i64 number, .string s] w (PackPost [] 1 w) := by
  rcases h with h | h
  · go_enter Tryz.func53, Tryz.ntmps53
    go_wp2_with fail
    go_ret2
    exact ⟨_, rfl, World.ownsRow_nil _ _ _ _, Below.refl _ _⟩
  · go_enter Tryz.func53, Tryz.ntmps53
    go_wp2_with fail
    go_ret2
    exact ⟨_, rfl, World.ownsRow_nil _ _ _ _, Below.refl _ _⟩
theorem rpack_long (number : Int) (s : ByteArray) (w : World) (h0 : 1 ≤ number) (h1 : number ≤ 4096) (h : 8000 < s.size) : Calls Tryz.prog 53 #[.int .i64 number, .string s] w (PackPost [] 4 w) := by
  have h2 : (8000 : Int) < (s.size : Int) := by omega
  go_enter Tryz.func53, Tryz.ntmps53
  go_wp2_with fail
  go_ret2
  exact ⟨_, rfl, World.ownsRow_nil _ _ _ _, Below.refl _ _⟩
/-- what Pack gives, and its error -/
def packE (number : Int) (t : Bs) : Int := if number < 1 ∨ 4096 < number then 1 else if 8000 < t.length then 4 else 0
def packV (number : Int) (t : Bs) : List Bs := if packE number t = 0 then packB number.toNat t else []
theorem rpackV_any (number : Int) (s : ByteArray) (w : World) (hk : RConsts w) : Calls Tryz.prog 53 #[.int .i64 number, .string s] w (PackPost (packV number s.data.toList) (packE number s.data.toList) w) := by
  have hl := list_size s
  unfold packV packE
  by_cases h : number < 1 ∨ 4096 < number
  · rw [if_pos h, if_neg (by decide)]; exact rpack_bad number s w h
  · rw [if_neg h]
    by_cases h2 : 8000 < s.data.toList.length
    · rw [if_pos h2, if_neg (by decide)]; exact rpack_long number s w (by omega) (by omega) (by omega)
    · rw [if_neg h2, if_pos rfl]; exact rpack_any number s w hk (by omega) (by omega) (by omega)
end Go.Proofs.YtddpjahoeldleaaGreatDoor
