/- The leaves of the lexer: the kinds of bytes. -/
import Derived.Test.YtjjdfccbkohlcaaDoorProg
import Derived.Test.YtjjdfccbkohlcaaDoorMath
import Derived.WalkKit
import Derived.WalkSpells
import Derived.Lib.Hide
import Derived.Outline
import Derived.Deep.QuietTactic
import Derived.BigQuiet
namespace Go.Proofs.YtjjdfccbkohlcaaDoor
open Go.RowKit

/-- it returns v; the world is as it was -/
def Ret (v : Value) (w : World) : Ending → World → Prop := fun e w' => e = .returned v ∧ w = w'
theorem Ret.mk {v : Value} {w : World} : Ret v w (.returned v) w := ⟨rfl, rfl⟩
theorem Ret.bool {a b : Bool} {w : World} (h : a = b) : Ret (.bool b) w (.returned (.bool a)) w := by rw [h]; exact ⟨rfl, rfl⟩
theorem Ret.int {k : IntKind} {a b : Int} {w : World} (h : a = b) : Ret (.int k b) w (.returned (.int k a)) w := by rw [h]; exact ⟨rfl, rfl⟩
theorem Ret.same {P : Program} {f : FuncId} {args : Array Value} {v : Value} {w : World} (h : Calls P f args w (Ret v w)) :
    Calls P f args w fun e w' => e = .returned v ∧ w' = w := h.mono fun _ _ ⟨a, b⟩ => ⟨a, b.symm⟩

theorem letter_any (n : Int) (w : World) : Calls Tryd.prog 38 #[.int .u8 n] w (Ret (.bool (Lx.isLI n)) w) := by
  go_enter Tryd.func38, Tryd.ntmps38
  go_wp2
  all_goals go_ret
  all_goals exact Ret.bool (by unfold Lx.isLI; rw [Bool.eq_iff_iff]; simp; try omega)

theorem digit_any (n : Int) (w : World) : Calls Tryd.prog 68 #[.int .u8 n] w (Ret (.bool (Lx.isDI n)) w) := by
  go_enter Tryd.func68, Tryd.ntmps68
  go_wp2
  all_goals go_ret
  all_goals exact Ret.bool (by unfold Lx.isDI; rw [Bool.eq_iff_iff]; simp; try omega)

theorem either_any (n : Int) (w : World) : Calls Tryd.prog 67 #[.int .u8 n] w (Ret (.bool (Lx.isLI n || Lx.isDI n)) w) := by
  go_enter Tryd.func67, Tryd.ntmps67
  go_wp2_with (first | (go_at_call 38; refine (letter_any _ _).mono ?_; rintro e w' ⟨rfl, rfl⟩) | (go_at_call 68; refine (digit_any _ _).mono ?_; rintro e w' ⟨rfl, rfl⟩))
  all_goals go_ret
  all_goals exact Ret.bool (by simp [*])

def kindI (n : Int) : Int := if Lx.isLI n then 1 else if Lx.isDI n then 2 else 0
theorem kind_any (n : Int) (w : World) : Calls Tryd.prog 40 #[.int .u8 n] w (Ret (.int .i64 (kindI n)) w) := by
  go_enter Tryd.func40, Tryd.ntmps40
  go_wp2
  all_goals go_ret
  all_goals exact Ret.int (by unfold kindI Lx.isLI Lx.isDI; simp; try omega)
end Go.Proofs.YtjjdfccbkohlcaaDoor
