/- put: a number's bytes into a sector. -/
import Derived.Test.YtddpjahoeldleaaGreatDoorSmall
import Derived.IntWalk
namespace Go.Proofs.YtddpjahoeldleaaGreatDoor
open Go.RowKit

theorem wrap_byte (x : Nat) : IntKind.u8.wrap (x : Int) = ((UInt8.ofNat (x % 256)).toNat : Int) := by
  rw [← byte_mod]
  have h : IntKind.u8.wrap (x : Int) = (x : Int) % 256 := by
    unfold IntKind.wrap
    simp [IntKind.bits, IntKind.signed]
  exact h

set_option maxHeartbeats 1000000 in
theorem put_any (w : World) (g off C L n : Nat) (T : TypeId) (pre : Bs) (h : Blk w g T (rowB 64 pre)) (hoff : pre.length = off) (hL : off + L ≤ 64) (hn : n ≤ 1000000000) :
    Calls Tryz.prog 91 #[.slice (some ⟨g, off, none⟩) L C, .int .i64 (n : Int)] w (fun e w' => e = .returned (.tuple #[]) ∧ Blk w' g T (rowB 64 (pre ++ leN n L)) ∧ Keep [g] w w') := by
  have HB := Lib.hid h
  clear h
  go_enter Tryz.func91, Tryz.ntmps91
  go_wp2_with fail
  go_loopw [1, 7] (fun x k wr => ∃ j : Nat, j ≤ L ∧ k = .int .i64 j ∧ x = .int .i64 ((n / 256 ^ j : Nat) : Int) ∧ Blk wr g T (rowB 64 (pre ++ leN n j)) ∧ Keep [g] w wr) (fun _ k _ => L - (intOf k).toNat)
  case atStart => exact ⟨0, by omega, rfl, by rw [Nat.pow_zero, Nat.div_one], by rw [leN, List.append_nil]; exact HB.out, Keep.refl _ _⟩
  case round =>
    obtain ⟨j, hj, rfl, rfl, hblk, hk⟩ := hrel
    by_cases hlt : j < L
    · have j0 : (0 : Int) ≤ (j : Int) := by omega
      have j1 : (j : Int) < (L : Int) := by omega
      obtain ⟨x, hx⟩ : ∃ x, x = n / 256 ^ j := ⟨_, rfl⟩
      have hx2 : x ≤ 1000000000 := by rw [hx]; exact Nat.le_trans (Nat.div_le_self _ _) hn
      have HX3 := Lib.hid (show n / 256 ^ (j + 1) = x / 256 by rw [hx, Nat.pow_succ, Nat.div_div_eq_div_mul])
      have HL := Lib.hid (show leN n (j + 1) = leN n j ++ [UInt8.ofNat (x % 256)] by rw [hx]; exact le_snoc j n)
      rw [← hx]
      obtain ⟨y, hy⟩ : ∃ y, y = UInt8.ofNat (x % 256) := ⟨_, rfl⟩
      have hyw : IntKind.u8.wrap (x : Int) = (y.toNat : Int) := by rw [hy]; exact wrap_byte x
      rw [← hy] at HL
      have k0 : (0 : Int) ≤ (x : Int) := by omega
      have hlen : (pre ++ leN n j).length = off + j := by rw [List.length_append, le_len, hoff]
      have hc : wr.cell? ⟨g, off + j, none⟩ = some (.int .u8 0) := by rw [hblk.cell, rowB_zero (by omega) (by omega)]
      have hf : wr.frozen? ⟨g, off + j, none⟩ = false := hblk.frozen _
      have HB2 := Lib.hid (show Blk (wr.setCell ⟨g, off + j, none⟩ (.int .u8 (y.toNat : Int))) g T (rowB 64 (pre ++ leN n (j + 1))) by
        have := hblk.set_ (off + j) (.int .u8 (y.toNat : Int))
        rw [← hlen, rowB_push (by omega), List.append_assoc, ← HL.out, hlen] at this
        exact this)
      have HK2 := Lib.hid (hk.setCell (a := ⟨g, off + j, none⟩) (by simp) (.int .u8 (y.toNat : Int)))
      clear hblk hk hy hx hlen
      go_wp2_with fail
      go_roundw
      case rel => exact ⟨j + 1, by omega, by go_num, by rw [HX3.out]; go_num, HB2.out, HK2.out⟩
      case measure => simp [intOf]; omega
    · obtain rfl : j = L := by omega
      go_wp2_with fail
      go_end0
      exact ⟨rfl, hblk, hk⟩
end Go.Proofs.YtddpjahoeldleaaGreatDoor
