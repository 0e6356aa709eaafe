/- One element more in a list of the call's own; the padded message of 56 bytes. -/
import Derived.Test.YtddpjahoeldleaaGreatDoorRound
namespace Go.Proofs.YtddpjahoeldleaaGreatDoor
open Go.RowKit

theorem byteCells_snoc (l : Bs) (x : UInt8) : byteCells (l ++ [x]) = byteCells l ++ [.int .u8 (x.toNat : Int)] := by simp [byteCells]
theorem byteCells_app (l m : Bs) : byteCells (l ++ m) = byteCells l ++ byteCells m := by simp [byteCells]
section
variable {ops : Array Oper} {rest : List Oper} {o : Oper} {a : Act} {Q : Exit → Act → World → Prop} {w0 w : World}
/-- append(l, x): one byte, in a block of its own -/
theorem wpList_app_byte (hgd : o.guard = none) (s x : Operand) (ho : o.op = .call { callee := .builtin .append, args := #[s, x], argTypes := #[84, 84] })
    (hb : Below w0.heap.size w0 w) (v : Value) (n : Nat) (l : Bs) (hs : a.eval s = v) (hown : w.ownsRow w0.heap.size 5 1 v n (byteCells l)) (y : UInt8)
    (hx : a.eval x = .slice (some ⟨w.heap.size, 0, none⟩) 1 1) (hn : n ≤ 100000)
    (h : ∀ v' w', w'.ownsRow w0.heap.size 5 1 v' (n + 1) (byteCells (l ++ [y])) → Below w0.heap.size w0 w' → wpList Tryz.prog ops Q rest (a.put o.dst v') w') :
    wpList Tryz.prog ops Q (o :: rest) a (w.alloc (.cells #[.int .u8 (y.toNat : Int)] 5)) := by
  obtain ⟨i0, hi, hz0, hz1, hz2⟩ := info_parts info5b
  refine wpList_append_own _ hgd _ _ 84 ho w0.heap.size 5 i0 _ 1 1 Tryz.underlying84 hi hz0 hz1 hz2 rfl (by decide) v n (byteCells l) hs (hown.alloc _) ⟨w.heap.size, 0, none⟩ 1 1 [.int .u8 (y.toNat : Int)] hx rfl (cells_one _ _ _) (fun u hu => by simp at hu; subst hu; rfl) (by unfold maxLen; omega) (by omega) (by have := hb.size; simp; omega) ?_
  intro v' w2 hown1 hgrow _
  rw [← byteCells_snoc] at hown1
  exact h v' w2 hown1 ((hb.alloc hb.size _).grown hgrow (by have := hb.size; simp; omega) (fun g hg => (hown.lt g hg).1))
/-- append([]byte{}, b...) -/
theorem wpList_app_bytes (hgd : o.guard = none) (s x : Operand) (ho : o.op = .call { callee := .builtin .append, args := #[s, x], argTypes := #[84, 84] })
    (hb : Below w0.heap.size w0 w) (v : Value) (n : Nat) (l : Bs) (hs : a.eval s = v) (hown : w.ownsRow w0.heap.size 5 1 v n (byteCells l)) (b : Bs) (ad : Addr) (m c : Nat)
    (hx : a.eval x = .slice (some ad) m c) (hm : m = b.length) (hc : ∀ j u, (byteCells b)[j]? = some u → w.cell? (ad.add j) = some u) (hn : n + m ≤ 100000)
    (h : ∀ v' w', w'.ownsRow w0.heap.size 5 1 v' (n + m) (byteCells (l ++ b)) → Below w0.heap.size w0 w' → wpList Tryz.prog ops Q rest (a.put o.dst v') w') :
    wpList Tryz.prog ops Q (o :: rest) a w := by
  obtain ⟨i0, hi, hz0, hz1, hz2⟩ := info_parts info5b
  refine wpList_append_own _ hgd _ _ 84 ho w0.heap.size 5 i0 _ 1 1 Tryz.underlying84 hi hz0 hz1 hz2 rfl (by decide) v n (byteCells l) hs hown ad m c (byteCells b) hx (by rw [byteCells_len, hm, Nat.mul_one]) hc (fun u hu => by simp [byteCells] at hu; obtain ⟨z, _, rfl⟩ := hu; rfl) (by unfold maxLen; omega) (by omega) hb.size ?_
  intro v' w2 hown1 hgrow _
  rw [← byteCells_app] at hown1
  exact h v' w2 hown1 (hb.grown hgrow hb.size (fun g hg => (hown.lt g hg).1))
end
/-- the first j bytes behind the message -/
def zerosB (b : Bs) (j : Nat) : Bs := b ++ [128] ++ List.replicate j 0
def lenB (j : Nat) : Bs := ([0, 0, 0, 0, 0, 0, 1, 192] : Bs).take j
theorem pad_all (b : Bs) : zerosB b 63 ++ lenB 8 = block1 b ++ block2 := by
  unfold zerosB lenB block1 block2
  rw [show (63 : Nat) = 7 + 56 from rfl, List.replicate_append_replicate.symm, show (62 : Nat) = 56 + 6 from rfl, List.replicate_append_replicate.symm]
  simp only [List.append_assoc]
  rfl
theorem zeros_step (b : Bs) (j : Nat) : zerosB b (j + 1) = zerosB b j ++ [0] := by
  unfold zerosB; rw [List.replicate_succ', ← List.append_assoc]
theorem byte_shift (n k : Nat) : (n : Int) / 2 ^ k % 256 = ((UInt8.ofNat (n / 2 ^ k % 256)).toNat : Int) := by
  rw [UInt8.toNat_ofNat', Nat.mod_eq_of_lt (by omega), Int.natCast_emod, Int.natCast_ediv, Int.natCast_pow]; rfl
theorem len_step : ∀ i : Fin 8, lenB (i.val + 1) = lenB i.val ++ [UInt8.ofNat (448 / 2 ^ (56 - 8 * i.val) % 256)] := by decide

set_option maxHeartbeats 2000000 in
set_option maxRecDepth 100000 in
theorem padded_any (A : Option Addr) (c : Nat) (b : Bs) (w : World) (h : Rd w w.heap.size 1 A 56 (byteCells b)) :
    Calls Tryz.prog 107 #[.slice A 56 c] w (OwnPost w.heap.size 5 1 128 (byteCells (block1 b ++ block2)) w) := by
  obtain ⟨ga, oa, rfl, hga, hcell⟩ := h.2 (by omega)
  have hbl : b.length = 56 := by have := h.1; rw [byteCells_len] at this; omega
  have H := Lib.hid h
  have hown : (w.alloc (.cells #[] 5)).ownsRow w.heap.size 5 1 (.slice (some ⟨w.heap.size, 0, none⟩) 0 0) 0 (byteCells []) := World.ownsRow_lit (base := w.heap.size) (e := 5) (size := 1) w #[] 0 (Nat.le_refl _) (by decide) rfl
  have hsrc : ∀ j u, (byteCells b)[j]? = some u → (w.alloc (.cells #[] 5)).cell? ((⟨ga, oa, none⟩ : Addr).add j) = some u := fun j u hu => by
    rw [show (⟨ga, oa, none⟩ : Addr).add j = ⟨ga, oa + j, none⟩ by unfold Addr.add; split <;> simp_all]
    exact ((below_new w _).cell (p := ⟨ga, oa + j, none⟩) hga).trans (hcell j u hu)
  have HS := Lib.hid hsrc
  have HN := Lib.hid hbl.symm
  clear h hcell hsrc hbl
  go_enter Tryz.func107, Tryz.ntmps107
  go_wp2_with (first
    | (at_builtin; refine wpList_app_bytes rfl _ _ rfl (below_new w (.cells #[] 5)) _ 0 [] rfl hown b ⟨ga, oa, none⟩ 56 c rfl HN.out HS.out (by omega) ?_; intro v1 w1 hown1 hb1)
    | (at_builtin; refine wpList_app_byte rfl _ _ rfl hb1 v1 _ ([] ++ b) rfl hown1 128 rfl (by omega) ?_; intro v2 w2 hown2 hb2))
  have HB2 := Lib.hid hb2
  have HO2 := Lib.hid (show w2.ownsRow w.heap.size 5 1 v2 (57 + 0) (byteCells (zerosB b 0)) by rw [zerosB, List.replicate_zero, List.append_nil]; exact hown2)
  clear hown hown1 hown2 hb1 hb2
  go_loopw [3] (fun x wr => ∃ j : Nat, j ≤ 63 ∧ wr.ownsRow w.heap.size 5 1 x (57 + j) (byteCells (zerosB b j)) ∧ Below w.heap.size w wr) (fun x _ => 120 - (match x with | .slice _ n _ => n | _ => 0))
  case atStart => exact ⟨0, by omega, HO2.out, HB2.out⟩
  case round =>
    obtain ⟨j, hj, hown, hb⟩ := hrel
    obtain ⟨A, cc, rfl, hcc⟩ := own_slice hown
    have hn : 57 + j ≤ 100000 := by omega
    by_cases hlt : j < 63
    · have e1 : ¬ ((57 : Int) + (j : Int)) % 64 = 56 := by omega
      go_wp2_with (at_builtin; refine wpList_app_byte rfl _ _ rfl hb (.slice A (57 + j) cc) (57 + j) (zerosB b j) (by rfl) hown 0 (by rfl) hn ?_; intro v3 w3 hown3 hb3)
      go_roundw
      case rel => exact ⟨j + 1, by omega, by rw [zeros_step]; exact hown3, hb3⟩
      case measure =>
        obtain ⟨A3, c3, rfl, _⟩ := own_slice hown3
        show 120 - (57 + j + 1) < 120 - (57 + j)
        omega
    · obtain rfl : j = 63 := by omega
      have hown0 : wr.ownsRow w.heap.size 5 1 (.slice A (120 + 0) cc) (120 + 0) (byteCells (zerosB b 63 ++ lenB 0)) := by rw [show lenB 0 = [] from rfl, List.append_nil]; exact hown
      clear hown
      rw [show (57 : Nat) + 63 = 120 from rfl]
      go_wp2_with fail
      go_loopw [3, 5] (fun x y wr => ∃ i : Nat, i ≤ 8 ∧ y = .int .i64 i ∧ wr.ownsRow w.heap.size 5 1 x (120 + i) (byteCells (zerosB b 63 ++ lenB i)) ∧ Below w.heap.size w wr) (fun _ y _ => 8 - (intOf y).toNat)
      case atStart => exact ⟨0, by omega, rfl, hown0, hb⟩
      case round =>
        clear hown0 hb
        obtain ⟨i, hi, rfl, hown, hb⟩ := hrel
        obtain ⟨A, cc, rfl, hcc⟩ := own_slice hown
        have hn : 120 + i ≤ 100000 := by omega
        by_cases hlt : i < 8
        · have j0 : (0 : Int) ≤ (i : Int) := by omega
          have j1 : (i : Int) < 8 := by omega
          obtain ⟨y, hy⟩ : ∃ y, y = UInt8.ofNat (448 / 2 ^ (56 - 8 * i) % 256) := ⟨_, rfl⟩
          have hy2 : (448 : Int) / 2 ^ (56 - 8 * i) % 256 = (y.toNat : Int) := by rw [hy]; exact byte_shift 448 _
          have HY := Lib.hid (show lenB (i + 1) = lenB i ++ [y] by rw [hy]; exact len_step ⟨i, hlt⟩)
          clear hy
          go_wp2_with (at_builtin; refine wpList_app_byte rfl _ _ rfl hb (.slice A (120 + i) cc) (120 + i) (zerosB b 63 ++ lenB i) (by rfl) hown y (by rfl) hn ?_; intro v3 w3 hown3 hb3)
          go_roundw
          case rel => exact ⟨i + 1, by omega, by go_num, by rw [HY.out, ← List.append_assoc]; exact hown3, hb3⟩
          case measure => simp [intOf]; omega
        · obtain rfl : i = 8 := by omega
          go_wp2_with fail
          go_ret
          exact ⟨_, rfl, by rw [← pad_all]; exact hown, hb⟩
end Go.Proofs.YtddpjahoeldleaaGreatDoor
