/- '==' between two sectors. -/
import Derived.Test.YtddpjahoeldleaaGreatDoorDEq
import Derived.Test.YtddpjahoeldleaaGreatDoorUnpack
namespace Go.Proofs.YtddpjahoeldleaaGreatDoor
open Go.RowKit Go.Maps
theorem guard_sect (x y : Operand) (xs ys : Array Value) (w : World) : (eqGuard .eql 83 x y (.agg xs) (.agg ys)).run Tryz.prog w = .ok () w :=
  run_eqGuard_agg w .eql 83 x y xs ys (by kernel_rfl)
theorem eq_sect_loop (d : Nat) (a b : Bs) (ha : a.length = 64) (hb : b.length = 64) (w : World) : (Op.equalIn (d + 2) 83 (.agg (Dk.cellsOfB a).toArray) (.agg (Dk.cellsOfB b).toArray)).run Tryz.prog w = .ok (decide (a = b)) w := by
  rw [Op.equalIn]
  simp only [Sem.run_bind, run_underlying Tryz.underlying83, Result.andThen_ok, Dk.size5, Nat.mul_one]
  rw [Std.Legacy.Range.forIn_eq_forIn_range']
  have h := Dk.eq_range d a b ha hb w 64 0 rfl
  rw [List.drop_zero, List.drop_zero] at h
  have h' : (forIn (List.range' [:64].start [:64].size [:64].step) ((none, ()) : Option Bool × Unit) (Dk.eqBody d a b)).run Tryz.prog w = _ := h
  unfold Dk.eqBody at h'
  rw [h']
  by_cases e : a = b
  · rw [if_pos e, Result.andThen_ok, decide_eq_true e]
    rfl
  · rw [if_neg e, Result.andThen_ok, decide_eq_false e]
    rfl
theorem row64 (b : Bs) (h : b.length = 64) : rowB 64 b = (Dk.cellsOfB b).toArray := by simp [rowB, h, byteCells, Dk.cellsOfB]
theorem row_zero : rowB 64 [] = (Dk.cellsOfB Dk.zeroBs).toArray := by simp [rowB, byteCells, Dk.cellsOfB, Dk.zeroBs]
theorem eql_sect (a : Bs) (ha : a.length = 64) (w : World) : (binOp .eql 83 (.agg (rowB 64 a)) (.agg (rowB 64 []))).run Tryz.prog w = .ok (.bool (decide (a = Dk.zeroBs))) w := by
  rw [row64 a ha, row_zero, run_eql_struct, eq_sect_loop 9998 a _ ha rfl, Result.andThen_ok]
end Go.Proofs.YtddpjahoeldleaaGreatDoor
