/- Count; the reference's small, number and Checked. -/
import Derived.Test.YtddpjahoeldleaaGreatDoorHashSum
namespace Go.Proofs.YtddpjahoeldleaaGreatDoor
open Go.RowKit

theorem countI_neg {n : Int} (h : n < 0) : countI n = 0 := by unfold countI; rw [if_pos h]
theorem countI_big {n : Int} (h : 8000 < n) : countI n = 0 := by unfold countI countN; rw [if_neg (by omega), if_pos (by omega)]
theorem countI_zero : countI 0 = 1 := rfl
theorem countI_mid {n : Int} (h0 : 0 < n) (h : n ≤ 8000) : (countI n : Int) = (n + 47) / 48 := by
  unfold countI countN; rw [if_neg (by omega), if_neg (by omega), if_neg (by omega)]; omega
set_option maxHeartbeats 1000000 in
theorem rcount_any (n : Int) (w : World) : Calls Tryz.prog 57 #[.int .i64 n] w (Ret (.int .i64 (countI n : Int)) w) := by
  by_cases h0 : n < 0
  · have H := Lib.hid (countI_neg h0)
    go_enter Tryz.func57, Tryz.ntmps57
    go_wp2_with fail
    go_ret
    exact Ret.int (by rw [H.out]; rfl)
  · by_cases h1 : 8000 < n
    · have H := Lib.hid (countI_big h1)
      go_enter Tryz.func57, Tryz.ntmps57
      go_wp2_with fail
      go_ret
      exact Ret.int (by rw [H.out]; rfl)
    · by_cases h2 : n = 0
      · subst h2
        go_enter Tryz.func57, Tryz.ntmps57
        go_wp2_with fail
        go_ret
        exact Ret.int rfl
      · have H := Lib.hid (countI_mid (n := n) (by omega) (by omega))
        have j0 : 0 ≤ n := by omega
        have j1 : n ≤ 8000 := by omega
        go_enter Tryz.func57, Tryz.ntmps57
        go_wp2_with fail
        go_ret
        exact Ret.int (by rw [H.out])
set_option maxHeartbeats 1000000 in
theorem count_any (n : Int) (w : World) : Calls Tryz.prog 34 #[.int .i64 n] w (Ret (.int .i64 (countI n : Int)) w) := by
  by_cases h0 : n < 0
  · have H := Lib.hid (countI_neg h0)
    go_enter Tryz.func34, Tryz.ntmps34
    go_wp2_with fail
    go_ret
    exact Ret.int (by rw [H.out]; rfl)
  · by_cases h1 : 8000 < n
    · have H := Lib.hid (countI_big h1)
      go_enter Tryz.func34, Tryz.ntmps34
      go_wp2_with fail
      go_ret
      exact Ret.int (by rw [H.out]; rfl)
    · by_cases h2 : n = 0
      · subst h2
        go_enter Tryz.func34, Tryz.ntmps34
        go_wp2_with fail
        go_ret
        exact Ret.int rfl
      · have H := Lib.hid (countI_mid (n := n) (by omega) (by omega))
        have j0 : 0 ≤ n := by omega
        have j1 : n ≤ 8000 := by omega
        go_enter Tryz.func34, Tryz.ntmps34
        go_wp2_with fail
        go_ret
        exact Ret.int (by rw [H.out]; omega)

theorem le_snoc : ∀ (j n : Nat), leN n (j + 1) = leN n j ++ [UInt8.ofNat (n / 256 ^ j % 256)]
  | 0, n => by simp [leN]
  | j + 1, n => by
    rw [leN, le_snoc j (n / 256), leN, Nat.div_div_eq_div_mul, Nat.pow_succ, Nat.mul_comm 256]
    rfl
theorem byte_mod (n : Nat) : (n : Int) % 256 = ((UInt8.ofNat (n % 256)).toNat : Int) := by
  rw [UInt8.toNat_ofNat', Nat.mod_eq_of_lt (by omega), Int.natCast_emod]; rfl

set_option maxHeartbeats 1000000 in
theorem small_any (n many : Nat) (w : World) (hn : n ≤ 1000000000) (hm : many ≤ 8) :
    Calls Tryz.prog 84 #[.int .i64 (n : Int), .int .i64 (many : Int)] w (OwnPost w.heap.size 5 1 many (byteCells (leN n many)) w) := by
  go_enter Tryz.func84, Tryz.ntmps84
  go_wp2_with fail
  go_loopw [0, 5, 6] (fun x v k wr => ∃ j : Nat, j ≤ many ∧ k = .int .i64 j ∧ x = .int .i64 ((n / 256 ^ j : Nat) : Int) ∧ wr.ownsRow w.heap.size 5 1 v j (byteCells (leN n j)) ∧ Below w.heap.size w wr) (fun _ _ k _ => many - (intOf k).toNat)
  case atStart => exact ⟨0, by omega, rfl, by rw [Nat.pow_zero, Nat.div_one], World.ownsRow_nil _ _ _ _, Below.refl _ _⟩
  case round =>
    obtain ⟨j, hj, rfl, rfl, hown, hb⟩ := hrel
    obtain ⟨A, cc, rfl, hcc⟩ := own_slice hown
    by_cases hlt : j < many
    · have j0 : (0 : Int) ≤ (j : Int) := by omega
      have j1 : (j : Int) < (many : Int) := by omega
      have hjn : j ≤ 100000 := by omega
      obtain ⟨x, hx⟩ : ∃ x, x = n / 256 ^ j := ⟨_, rfl⟩
      have hx2 : x ≤ 1000000000 := by rw [hx]; exact Nat.le_trans (Nat.div_le_self _ _) hn
      have hx3 : n / 256 ^ (j + 1) = x / 256 := by rw [hx, Nat.pow_succ, Nat.div_div_eq_div_mul]
      have HL := Lib.hid (show leN n (j + 1) = leN n j ++ [UInt8.ofNat (x % 256)] by rw [hx]; exact le_snoc j n)
      have HX3 := Lib.hid hx3
      rw [← hx]
      obtain ⟨y, hy⟩ : ∃ y, y = UInt8.ofNat (x % 256) := ⟨_, rfl⟩
      have hy2 : (x : Int) % 256 = (y.toNat : Int) := by rw [hy]; exact byte_mod x
      rw [← hy] at HL
      have k0 : (0 : Int) ≤ (x : Int) := by omega
      clear hy hx hx3
      go_wp2_with (at_builtin; refine wpList_app_byte rfl _ _ rfl hb (.slice A j cc) j (leN n j) (by rfl) hown y (by rfl) hjn ?_; intro v3 w3 hown3 hb3)
      go_roundw
      case rel => exact ⟨j + 1, by omega, by go_num, by rw [HX3.out]; go_num, by rw [HL.out]; exact hown3, hb3⟩
      case measure => simp [intOf]; omega
    · obtain rfl : j = many := by omega
      go_wp2_with fail
      go_ret
      exact ⟨_, rfl, hown, hb⟩

theorem num_cons {l : Bs} {j : Nat} (h : j < l.length) : numB (l.drop j) = (l[j]).toNat + 256 * numB (l.drop (j + 1)) := by
  rw [List.drop_eq_getElem_cons h, numB]
theorem num_lt : ∀ l : Bs, numB l < 256 ^ l.length
  | [] => by decide
  | x :: r => by
    have := num_lt r
    have hx := x.toNat_lt
    rw [numB, List.length_cons, Nat.pow_succ]
    omega

set_option maxHeartbeats 1000000 in
theorem number_any (s : ByteArray) (w : World) (hs : s.size ≤ 4) :
    Calls Tryz.prog 82 #[.string s] w (Ret (.int .i64 (numB s.data.toList : Int)) w) := by
  have hl := list_size s
  have HN := Lib.hid (num_lt s.data.toList)
  go_enter Tryz.func82, Tryz.ntmps82
  go_wp2_with fail
  go_loopw [3, 4] (fun x k wr => ∃ j : Nat, j ≤ s.size ∧ k = .int .i64 ((j : Int) - 1) ∧ x = .int .i64 (numB (s.data.toList.drop j) : Int) ∧ w = wr) (fun _ k _ => (intOf k + 1).toNat)
  case atStart => exact ⟨s.size, Nat.le_refl _, by go_num, by rw [List.drop_of_length_le (by omega)]; rfl, rfl⟩
  case round =>
    obtain ⟨j, hj, rfl, rfl, rfl⟩ := hrel
    by_cases h0 : j = 0
    · subst h0
      go_wp2_with fail
      go_ret
      exact Ret.int (by rw [List.drop_zero])
    · obtain ⟨i, rfl⟩ : ∃ i, j = i + 1 := ⟨j - 1, by omega⟩
      have hi : i < s.size := by omega
      have e := num_cons (l := s.data.toList) (j := i) (by omega)
      obtain ⟨a, ha⟩ : ∃ a, a = numB (s.data.toList.drop (i + 1)) := ⟨_, rfl⟩
      obtain ⟨y, hy⟩ : ∃ y, y = (s.data.toList[i]'(by omega)).toNat := ⟨_, rfl⟩
      have hal : a < 16777216 := by
        have := num_lt (s.data.toList.drop (i + 1))
        rw [← ha] at this
        refine Nat.lt_of_lt_of_le this ?_
        have : (s.data.toList.drop (i + 1)).length ≤ 3 := by rw [List.length_drop]; omega
        exact Nat.pow_le_pow_right (by decide) this
      have hyl : y < 256 := by rw [hy]; exact UInt8.toNat_lt _
      rw [← ha, ← hy] at e
      have HE := Lib.hid e
      have j0 : ((i + 1 : Nat) : Int) - 1 = (i : Int) := by omega
      rw [j0, ← ha]
      have j1 : (0 : Int) ≤ (i : Int) := by omega
      have j2 : (i : Int) < (s.size : Int) := by omega
      have hx : (s[i]'hi).toNat = y := by rw [hy]; rfl
      have k0 : (0 : Int) ≤ (a : Int) := by omega
      have k1 : (a : Int) < 16777216 := by omega
      have k2 : (0 : Int) ≤ (y : Int) := by omega
      have k3 : (y : Int) < 256 := by omega
      clear e ha hy j0
      go_wp2_with fail
      refine ⟨⟨i, by omega, rfl, by rw [HE.out]; go_num, trivial⟩, by simp [intOf]⟩

theorem below_drewN' {B : Nat} {a w : World} (h : Below B a w) (n : Nat) : Below B a (w.drewN n) := ⟨h.os, h.tape, h.output, h.size, h.block⟩
/-- the first 8 bytes of a hash in memory -/
theorem rd_front {w : World} {q : Nat} {T : TypeId} {s : Bs} (h : Blk w q T (rowB 32 s)) (n : Nat) (hs : s.length = 32) : Rd (w.drewN n) (w.drewN n).heap.size 1 (some ⟨q, 0, none⟩) 8 (byteCells (s.take 8)) := by
  refine ⟨by rw [byteCells_len, List.length_take, hs]; rfl, fun _ => ⟨q, 0, rfl, h.lt, fun j u hu => ?_⟩⟩
  have hj : j < 8 := by have := (List.getElem?_eq_some_iff.1 hu).1; rw [byteCells_len, List.length_take] at this; omega
  rw [Nat.zero_add]
  refine ((h.drewN n).cell j).trans ?_
  rw [rowB_get (by omega)]
  rw [byteCells, List.getElem?_map, List.getElem?_take, if_pos hj, List.getElem?_eq_getElem (by omega)] at hu
  rw [byteN, List.getD_eq_getElem?_getD, List.getElem?_eq_getElem (by omega)]
  exact hu
theorem checked_len {b : Bs} (h : b.length = 56) : (checkedB b).length = 64 := by rw [checkedB, List.length_append, h, List.length_take, sha_len]; rfl
set_option maxHeartbeats 1000000 in
set_option maxRecDepth 100000 in
theorem checked_any (A : Option Addr) (c : Nat) (b : Bs) (w : World) (h : Rd w w.heap.size 1 A 56 (byteCells b)) (hk : RConsts w) :
    Calls Tryz.prog 83 #[.slice A 56 c] w (RetB (str (checkedB b)) w) := by
  obtain ⟨hz, hsz⟩ := zero_of_info info32b
  have hbl : b.length = 56 := by have := h.1; rw [byteCells_len] at this; omega
  obtain ⟨Z, hZ⟩ : ∃ Z, Z = rowB 32 [] := ⟨_, rfl⟩
  rw [← hZ] at hz
  obtain ⟨V, hV⟩ : ∃ V, V = rowB 32 (sha56 b) := ⟨_, rfl⟩
  have hVs : V.size = 32 := by rw [hV]; exact rowB_size (by rw [sha_len]; exact Nat.le_refl _)
  have HI := Lib.hid (show (Tryz.prog.info? 125).map (·.size) = some V.size by rw [hVs]; exact hsz)
  have HZs := Lib.hid (show Z.size = V.size by rw [hVs, hZ]; rfl)
  have HO := Lib.hid (show V.all (·.oneCell') = true by rw [hV]; exact rowB_one _ _)
  have H := Lib.hid h
  have HV := Lib.hid hV
  have HB := Lib.hid hbl
  go_enter Tryz.func83, Tryz.ntmps83
  go_wp2_with fail
  refine (rsum_any A c b w h hk).mono ?_
  rintro e w2 ⟨rfl, hb2⟩
  rw [← hV]
  clear h hk hsz hbl hZ hV hVs
  obtain ⟨q, hq⟩ : ∃ q, q = w2.heap.size := ⟨_, rfl⟩
  have Bq := Blk.new w2 125 Z
  rw [← hq] at Bq
  have HM := Lib.hid (show (w2.alloc (.cells Z 125)).heap[q]? = some (.cells Z 125 (0, 0)) from Bq)
  obtain ⟨w3, hw3⟩ : ∃ w3, w3 = (w2.alloc (.cells Z 125)).setRow q V := ⟨_, rfl⟩
  have M := Lib.hid (show Blk w3 q 125 (rowB 32 (sha56 b)) by rw [hw3, ← HV.out]; exact Bq.put V)
  have hb3 : Below w.heap.size w w3 := by rw [hw3]; exact below_row (hb2.alloc hb2.size _) (by rw [hq]; exact hb2.size) V
  have HB3 := Lib.hid hb3
  have HQ := Lib.hid hq
  obtain ⟨s1, hs1⟩ : ∃ s1 : ByteArray, s1 = ⟨b.toArray⟩ := ⟨_, rfl⟩
  obtain ⟨s2, hs2⟩ : ∃ s2 : ByteArray, s2 = ⟨((sha56 b).take 8).toArray⟩ := ⟨_, rfl⟩
  have hcv1 : ∀ n, (convert 84 9 (.slice A 56 c)).run Tryz.prog (w3.drewN n) = .ok (.string s1) (w3.drewN n) := fun n => by rw [hs1]; exact conv_rd (H.out.go (below_drewN' hb3 n)) (by omega) c
  have hcv2 : ∀ n, (convert 84 9 (.slice (some ⟨q, 0, none⟩) 8 32)).run Tryz.prog (w3.drewN n) = .ok (.string s2) (w3.drewN n) := fun n => by rw [hs2]; exact conv_rd (rd_front M.out n (sha_len b)) (by omega) 32
  have z1 : s1.size = 56 := by rw [hs1, mk_size, HB.out]
  have z2 : s2.size = 8 := by rw [hs2, mk_size, List.length_take, sha_len]; rfl
  have HS := Lib.hid (show (s1 ++ s2).data.toList = checkedB b by rw [ByteArray.data_append, Array.toList_append, hs1, hs2, checkedB])
  have HW3 := Lib.hid hw3
  clear hb2 Bq hb3 hq hw3 hs1 hs2
  go_wp2_with (first
    | (rw [← HQ.out]; refine wpList_store_row rfl 125 _ _ rfl q V rfl rfl 125 Z HM.out HI.out HZs.out HO.out ?_; rw [← HW3.out]))
  dsimp only [Act.put]
  go_quiet (fail)
  go_wp2_with fail
  go_ret
  exact ⟨congrArg Ending.returned (str_of HS.out), below_drewN' HB3.out _⟩
end Go.Proofs.YtddpjahoeldleaaGreatDoor
