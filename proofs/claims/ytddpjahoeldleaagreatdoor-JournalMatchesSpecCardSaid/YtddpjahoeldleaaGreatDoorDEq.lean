/- '!=' between two blocks. -/
import Derived.Test.YtddpjahoeldleaaGreatDoorDRot
import Derived.Laws.StructEq
namespace Go.Proofs.YtddpjahoeldleaaGreatDoor.Dk
open Go.RowKit Go.Maps

theorem guard70 (x y : Operand) (xs ys : Array Value) (w : World) : (eqGuard .neq 99 x y (.agg xs) (.agg ys)).run Tryz.prog w = .ok () w :=
  run_eqGuard_agg w .neq 99 x y xs ys (by kernel_rfl)
theorem agg5 (w : World) : (isAgg 5).run Tryz.prog w = .ok false w := by
  simp [isAgg, run_underlying Tryz.underlying5, go_sem]
theorem size5 (w : World) : (sizeOf 5).run Tryz.prog w = .ok 1 w := by
  obtain ⟨i0, hi, hz0, hz1, hz2⟩ := info_parts info5
  simp [sizeOf, typeInfo, hi, hz1, go_sem]
theorem part5 (a : Bs) (i : Nat) (hi : i < a.length) (w : World) : (part 5 (cellsOfB a).toArray i).run Tryz.prog w = .ok (.int .u8 ((a.getD i 0).toNat : Int)) w := by
  simp [part, cellsOfB, hi, go_sem]
def eqBody (d : Nat) (a b : Bs) : Nat → Option Bool × Unit → Sem (ForInStep (Option Bool × Unit)) := fun i _ => do
  let x ← part 5 (cellsOfB a).toArray i
  let y ← part 5 (cellsOfB b).toArray i
  let z ← Op.equalIn (d + 1) 5 x y
  if (!z) = true then pure (ForInStep.done (some false, ())) else pure (ForInStep.yield (none, ()))
theorem eqBody_run (d : Nat) (a b : Bs) (ha : a.length = 64) (hb : b.length = 64) (i : Nat) (hi : i < 64) (r : Option Bool × Unit) (w : World) :
    (eqBody d a b i r).run Tryz.prog w = if a.getD i 0 = b.getD i 0 then .ok (.yield (none, ())) w else .ok (.done (some false, ())) w := by
  unfold eqBody
  rw [Sem.run_bind, part5 a i (by omega), Result.andThen_ok, Sem.run_bind, part5 b i (by omega), Result.andThen_ok, Sem.run_bind, run_equalIn_int w d 5 .u8 .u8 _ _ Tryz.underlying5, Result.andThen_ok]
  by_cases h : a.getD i 0 = b.getD i 0
  · rw [if_pos h, h]
    simp
  · rw [if_neg h]
    have h2 : (((a.getD i 0).toNat : Int) == ((b.getD i 0).toNat : Int)) = false := by
      rw [beq_eq_false_iff_ne]
      intro e
      exact h (UInt8.toNat_inj.1 (by omega))
    rw [h2]
    simp
theorem drop_step (a b : Bs) (s : Nat) (ha : s < a.length) (hb : s < b.length) : a.drop s = b.drop s ↔ a.getD s 0 = b.getD s 0 ∧ a.drop (s + 1) = b.drop (s + 1) := by
  rw [List.drop_eq_getElem_cons ha, List.drop_eq_getElem_cons hb, List.cons.injEq, List.getD_eq_getElem?_getD, List.getD_eq_getElem?_getD, List.getElem?_eq_getElem ha, List.getElem?_eq_getElem hb, Option.getD_some, Option.getD_some]
theorem eq_range (d : Nat) (a b : Bs) (ha : a.length = 64) (hb : b.length = 64) (w : World) : ∀ n s, s + n = 64 →
    (forIn (List.range' s n 1) ((none, ()) : Option Bool × Unit) (eqBody d a b)).run Tryz.prog w = if a.drop s = b.drop s then .ok (none, ()) w else .ok (some false, ()) w
  | 0, s, hs => by
    rw [List.drop_eq_nil_of_le (by omega), List.drop_eq_nil_of_le (by omega), if_pos rfl]
    rfl
  | n + 1, s, hs => by
    have ih := eq_range d a b ha hb w n (s + 1) (by omega)
    rw [List.range'_succ, List.forIn_cons, Sem.run_bind, eqBody_run d a b ha hb s (by omega)]
    have hd := drop_step a b s (by omega) (by omega)
    by_cases h : a.getD s 0 = b.getD s 0
    · rw [if_pos h, Result.andThen_ok]
      show (forIn (List.range' (s + 1) n 1) ((none, ()) : Option Bool × Unit) (eqBody d a b)).run Tryz.prog w = _
      rw [ih]
      by_cases h2 : a.drop (s + 1) = b.drop (s + 1)
      · rw [if_pos h2, if_pos (hd.2 ⟨h, h2⟩)]
      · rw [if_neg h2, if_neg (fun e => h2 (hd.1 e).2)]
    · rw [if_neg h, Result.andThen_ok, if_neg (fun e => h (hd.1 e).1)]
      rfl
theorem eq_loop (d : Nat) (a b : Bs) (ha : a.length = 64) (hb : b.length = 64) (w : World) : (Op.equalIn (d + 2) 99 (.agg (cellsOfB a).toArray) (.agg (cellsOfB b).toArray)).run Tryz.prog w = .ok (decide (a = b)) w := by
  rw [Op.equalIn]
  simp only [Sem.run_bind, run_underlying Tryz.underlying99, Result.andThen_ok, size5, Nat.mul_one]
  rw [Std.Legacy.Range.forIn_eq_forIn_range']
  have h := eq_range d a b ha hb w 64 0 rfl
  rw [List.drop_zero, List.drop_zero] at h
  have h' : (forIn (List.range' [:64].start [:64].size [:64].step) ((none, ()) : Option Bool × Unit) (eqBody d a b)).run Tryz.prog w = _ := h
  unfold eqBody at h'
  rw [h']
  by_cases e : a = b
  · rw [if_pos e, Result.andThen_ok, decide_eq_true e]
    rfl
  · rw [if_neg e, Result.andThen_ok, decide_eq_false e]
    rfl
theorem neq70 (a b : Bs) (ha : a.length = 64) (hb : b.length = 64) (w : World) : (binOp .neq 99 (.agg (cellsOfB a).toArray) (.agg (cellsOfB b).toArray)).run Tryz.prog w = .ok (.bool (!decide (a = b))) w := by
  rw [run_neq_struct, eq_loop 9998 a b ha hb, Result.andThen_ok]
end Go.Proofs.YtddpjahoeldleaaGreatDoor.Dk
