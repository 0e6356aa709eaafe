/- blanks: how many bytes of blanks a text begins with. -/
import Derived.Test.YtjjdfccbkohlcaaDoorLeaf
import Derived.Shelf.Small.Strs
import Derived.Lib.IndexLaws
import Derived.Lib.IndexBytes
import Derived.Test.YtjjdfccbkohlcaaDoorShelf
namespace Go.Proofs.YtjjdfccbkohlcaaDoor
open Go.RowKit

theorem index_any (s : ByteArray) (w : World) : Calls Tryd.prog 41 #[.string s, .int .u8 10] w (Ret (.int .i64 (Lib.indexByte s.data.toList 10)) w) :=
  (Tryd.strings_IndexByte s 10 w).mono fun _ _ ⟨a, b⟩ => ⟨a, b.symm⟩

theorem at_byte (s : ByteArray) (k : Nat) (h : k < s.size) : s.data.toList[k]? = some s[k] := by
  rw [List.getElem?_eq_getElem (by simpa using h)]; rfl
theorem byte_of {b : UInt8} (c : UInt8) (h : ((b.toNat : Int) == (c.toNat : Int)) = true) : b = c := by
  have h1 : (b.toNat : Int) = c.toNat := by simpa using h
  exact UInt8.toNat_inj.1 (by omega)
theorem byte_ne {b : UInt8} (c : UInt8) (h : ((b.toNat : Int) == (c.toNat : Int)) = false) : b ≠ c := by
  rintro rfl
  simp at h

theorem skip_space {s : ByteArray} {k : Nat} {cm : Bool} (h : k < s.size) (h1 : ((s[k].toNat : Int) == 32) = true) : Lx.skipN cm (s.data.toList.drop k) = 1 + Lx.skipN cm (s.data.toList.drop (k + 1)) := by
  rw [Lx.skipN_drop (at_byte s k h), byte_of 32 h1]; simp; omega
theorem skip_line {s : ByteArray} {k : Nat} {cm : Bool} (h : k < s.size) (h1 : ((s[k].toNat : Int) == 10) = true) : Lx.skipN cm (s.data.toList.drop k) = 1 + Lx.skipN false (s.data.toList.drop (k + 1)) := by
  rw [Lx.skipN_drop (at_byte s k h), byte_of 10 h1]; simp; omega
theorem skip_hash {s : ByteArray} {k : Nat} {cm : Bool} (h : k < s.size) (h1 : ((s[k].toNat : Int) == 35) = true) : Lx.skipN cm (s.data.toList.drop k) = 1 + Lx.skipN true (s.data.toList.drop (k + 1)) := by
  rw [Lx.skipN_drop (at_byte s k h), byte_of 35 h1]; simp; omega
theorem skip_other {s : ByteArray} {k : Nat} (h : k < s.size) (h1 : ((s[k].toNat : Int) == 10) = false) (h2 : ((s[k].toNat : Int) == 35) = false) (h3 : ((s[k].toNat : Int) == 32) = false) : Lx.skipN false (s.data.toList.drop k) = 0 := by
  rw [Lx.skipN_drop (at_byte s k h), if_neg (byte_ne 10 h1), if_neg (byte_ne 35 h2), if_neg]
  have := byte_ne 32 h3
  simpa using this
theorem skip_past {s : ByteArray} {k : Nat} {cm : Bool} (h : s.size ≤ k) : Lx.skipN cm (s.data.toList.drop k) = 0 := Lx.skipN_nil (by simpa using h) _
/-- at a comment: what the index of the line end tells -/
theorem hash_none {s : ByteArray} {k : Nat} (h : k < s.size) (h1 : ((s[k].toNat : Int) == 35) = true) (hi : Lib.indexByte (s.data.toList.drop k) 10 < 0) : k + Lx.skipN false (s.data.toList.drop k) = s.size := by
  have hm : Lib.indexByte (s.data.toList.drop k) 10 = -1 := by have := Lib.indexByte_ge (s.data.toList.drop k) 10; omega
  have hn := Lib.indexByte_none hm
  rw [skip_hash h h1, Lx.skipN_true_none _ (fun j => by have := hn (j + 1); rw [List.getElem?_drop] at this ⊢; rwa [show k + 1 + j = k + (j + 1) from by omega])]
  simp; omega
theorem hash_some {s : ByteArray} {k n : Nat} (h : k < s.size) (h1 : ((s[k].toNat : Int) == 35) = true) (hi : Lib.indexByte (s.data.toList.drop k) 10 = n) :
    0 < n ∧ k + n < s.size ∧ Lx.skipN false (s.data.toList.drop k) = n + Lx.skipN false (s.data.toList.drop (k + n)) := by
  obtain ⟨h2, h3⟩ := Lib.indexByte_some hi
  rw [List.getElem?_drop] at h2
  have hlt : k + n < s.size := by have := (List.getElem?_eq_some_iff.1 h2).1; simpa using this
  have h0 : 0 < n := by
    rcases Nat.eq_zero_or_pos n with e | e
    · subst e
      rw [Nat.add_zero, at_byte s k h, byte_of 35 h1] at h2
      exact absurd h2 (by decide)
    · exact e
  refine ⟨h0, hlt, ?_⟩
  rw [skip_hash h h1, Lx.skipN_true_some _ (n - 1) (by rw [List.getElem?_drop, show k + 1 + (n - 1) = k + n from by omega]; exact h2)
    (fun j hj => by have := h3 (j + 1) (by omega); rw [List.getElem?_drop] at this ⊢; rwa [show k + 1 + j = k + (j + 1) from by omega])]
  rw [List.drop_drop, show k + 1 + (n - 1) = k + n from by omega]; omega

theorem blanks_any (s : ByteArray) (w : World) (hs : s.size ≤ 9223372036854775807) : Calls Tryd.prog 30 #[.string s] w (Ret (.int .i64 (Lx.skipN false s.data.toList)) w) := by
  go_enter Tryd.func30, Tryd.ntmps30
  go_wp2_with fail
  go_loop [3] (fun n => ∃ k : Nat, k ≤ s.size ∧ n = .int .i64 k ∧ Lx.skipN false s.data.toList = k + Lx.skipN false (s.data.toList.drop k)) (fun n => s.size - (intOf n).toNat)
  case atStart => exact ⟨0, Nat.zero_le _, rfl, by simp⟩
  case round =>
    obtain ⟨k, hk, rfl, he⟩ := hrel
    have He := Lib.hid he
    clear he
    by_cases hlt : k < s.size
    · go_wp2_with fail
      · have h1 : ((s[k].toNat : Int) == 32) = true := by assumption
        go_round
        case rel => exact ⟨k + 1, by omega, by go_num, by rw [He.out, skip_space hlt h1]; omega⟩
        case measure => simp [intOf]; omega
      · have h1 : ((s[k].toNat : Int) == 10) = true := by assumption
        go_round
        case rel => exact ⟨k + 1, by omega, by go_num, by rw [He.out, skip_line hlt h1]; omega⟩
        case measure => simp [intOf]; omega
      · have h1 : ((s[k].toNat : Int) == 35) = true := by assumption
        refine (index_any _ _).mono ?_
        rintro e w' ⟨rfl, rfl⟩
        rw [Lib.extract_to_end]
        by_cases hi : Lib.indexByte (s.data.toList.drop k) 10 < 0
        · have H := Lib.hid (hash_none hlt h1 hi)
          go_wp2_with fail
          go_ret
          exact Ret.int (by rw [He.out, H.out])
        · obtain ⟨n, hn⟩ : ∃ n : Nat, Lib.indexByte (s.data.toList.drop k) 10 = n := ⟨(Lib.indexByte (s.data.toList.drop k) 10).toNat, by omega⟩
          obtain ⟨h0, hl, hq⟩ := hash_some hlt h1 hn
          have Hq := Lib.hid hq
          clear hq hi
          rw [hn]
          clear hn
          go_wp2_with fail
          go_round
          case rel => exact ⟨k + n, by omega, by go_num, by rw [He.out, Hq.out]; omega⟩
          case measure => simp [intOf]; omega
      · have h1 : ((s[k].toNat : Int) == 35) = false := by assumption
        have h2 : ((s[k].toNat : Int) == 10) = false := by assumption
        have h3 : ((s[k].toNat : Int) == 32) = false := by assumption
        go_ret
        exact Ret.int (by rw [He.out, skip_other hlt h2 h1 h3]; omega)
    · go_wp2_with fail
      go_ret
      exact Ret.int (by rw [He.out, skip_past (by omega)]; omega)
end Go.Proofs.YtjjdfccbkohlcaaDoor
