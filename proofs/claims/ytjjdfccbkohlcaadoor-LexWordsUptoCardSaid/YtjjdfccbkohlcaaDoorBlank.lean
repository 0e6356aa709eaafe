/- Blank, the program's and the reference's. -/
import Derived.Test.YtjjdfccbkohlcaaDoorRef
namespace Go.Proofs.YtjjdfccbkohlcaaDoor
open Go.RowKit

def blankB (l : Lx.Bs) : Bool := decide (l.length ≤ 8192 ∧ Lx.skipN false l = l.length)
theorem list_size (s : ByteArray) : s.data.toList.length = s.size := by simp

theorem blank_any (s : ByteArray) (w : World) (hs : s.size ≤ 9223372036854775807) (b : Bool) (hb : Hid (blankB s.data.toList = b)) : Calls Tryd.prog 16 #[.string s] w (Ret (.bool b) w) := by
  by_cases h : s.size ≤ 8192
  · go_enter Tryd.func16, Tryd.ntmps16
    go_wp2_with fail
    refine (blanks_any _ _ hs).mono ?_
    rintro e w' ⟨rfl, rfl⟩
    have hq : ((Lx.skipN false s.data.toList : Int) == (s.size : Int)) = b := by
      rw [← hb.out, blankB, list_size, Bool.eq_iff_iff]
      simp
      omega
    go_wp2_with fail
    all_goals go_ret
    all_goals exact Ret.mk
  · have hb' : b = false := by rw [← hb.out, blankB, list_size]; simp; omega
    subst hb'
    have hd : decide ((s.size : Int) ≤ 8192) = false := by simp; omega
    go_enter Tryd.func16, Tryd.ntmps16
    go_wp2_with fail
    all_goals go_ret
    all_goals exact Ret.mk

theorem rblank_any (s : ByteArray) (w : World) (hs : s.size ≤ 9223372036854775807) (b : Bool) (hb : Hid (blankB s.data.toList = b)) : Calls Tryd.prog 25 #[.string s] w (Ret (.bool b) w) := by
  by_cases h : s.size ≤ 8192
  · go_enter Tryd.func25, Tryd.ntmps25
    go_wp2_with fail
    refine (skip_any s 0 (Lx.skipN false s.data.toList) _ (by omega) hs (Lib.hid (by simp))).mono ?_
    rintro e w' ⟨rfl, rfl⟩
    have hq : ((Lx.skipN false s.data.toList : Int) == (s.size : Int)) = b := by
      rw [← hb.out, blankB, list_size, Bool.eq_iff_iff]
      simp
      omega
    go_wp2_with fail
    all_goals go_ret
    all_goals exact Ret.mk
  · have hb' : b = false := by rw [← hb.out, blankB, list_size]; simp; omega
    subst hb'
    have hd : decide ((s.size : Int) ≤ 8192) = false := by simp; omega
    go_enter Tryd.func25, Tryd.ntmps25
    go_wp2_with fail
    all_goals go_ret
    all_goals exact Ret.mk
end Go.Proofs.YtjjdfccbkohlcaaDoor
