/- For all numbers of sectors, scripts and picks, DiskTears returns true, and its arguments read as before. No conditions. -/
import Derived.Test.YtibhnjnfifpepaaRows
import Derived.Test.YtibhnjnfifpepaaLawTears
import Derived.Test.YtibhnjnfifpepaaShell
import Derived.Test.YtibhnjnfifpepaaPicks
namespace Go.Proofs.Ytibhnjnfifpepaa.fnTears
open Go.ChangeShapes Go.WideShapes Go.ChangeAt Go.RowKit

theorem own : ownKnob Try.prog.godebug = none := by kernel_rfl
theorem laidOut : laidOutB Try.prog = true := by kernel_rfl
theorem readable : Try.f5.params.toList.all (fun t => Try.prog.readableRec t && decide (t < Try.prog.types.size)) = true := by kernel_rfl

theorem tears_any (w : World) (i : Int) (h1 : -9223372036854775808 ≤ i) (h2 : i ≤ 9223372036854775807)
    (A : Option Addr) (n c : Nat) (os : List OpV) (hS : Script w w.heap.size A n os) (hn : n ≤ 9223372036854775807)
    (A2 : Option Addr) (n2 c2 : Nat) (ps : List Int) (hP : Rd w w.heap.size 1 A2 n2 (intCells ps)) (hn2 : n2 ≤ 9223372036854775807) :
    Calls Try.prog 5 #[.int .i64 i, .slice A n c, .slice A2 n2 c2] w (RetB (.bool true) w) := by
  by_cases hi : i < 1 ∨ 64 < i
  · exact tears_small w i h1 h2 hi A n c _
  · obtain ⟨m, rfl⟩ : ∃ m : Nat, i = m := ⟨i.toNat, by omega⟩
    by_cases h60 : 60 < n
    · exact tears_long w m (by omega) (by omega) A n c _ h60 hn
    · exact tears_main w m (by omega) (by omega) A n c os hS (by omega) A2 n2 c2 ps hP hn2

set_option maxRecDepth 100000 in
theorem lifted (os : Os) (started : os.Started) (H : Type) (enc : TypeId × Value → H) :
    ReturnsInHanded {} Try.checked os 5 .any (Rows.diskTearsSpec.pre6 enc Try.prog Try.f5 Rows.diskTearsRow.domain false) (Rows.diskTearsSpec.post enc Try.prog Try.f5 false true false false) := by
  refine returnsInHanded_of_change_sized (C := Try.checked) own started (by kernel_rfl) Try.func5
    (ChangeSpec.witness6 (enc := enc) (C := Try.checked) false ⟨#[], #[.int .i64 0, .slice none 0 0, .slice none 0 0], []⟩ 8 (by kernel_rfl) (by kernel_rfl) (by kernel_rfl) (by kernel_rfl)) ?_
  intro W base args ds gs before hval0 hW _ _ _
  have hval : ∀ (j : Nat) t v, Try.f5.params[j]? = some t → args[j]? = some v → Value.okWide Try.prog W .any base t v := hval0
  have hW' := hW
  have hlt : ∀ x ∈ before, x.block < W.heap.size := fun x hx => hW'.lt x hx
  obtain ⟨p, q, hA0, hV, rfl, _, _⟩ := hW
  have hA : DataW.TrodAll enc Try.prog W 0 (fun _ => true) true Try.f5.params.toList args.toList ds p := hA0
  rw [Try.params5] at hA hval
  obtain ⟨v0, vs0, d0, ds0, p0, q0, hargs, rfl, rfl, h0, r0⟩ := trodAll_cons hA
  obtain ⟨v1, vs1, d1, ds1, p1, q1, rfl, rfl, rfl, h1, r1⟩ := trodAll_cons r0
  obtain ⟨v2, vs2, d2, ds2, p2, q2, rfl, rfl, rfl, h2, r2⟩ := trodAll_cons r1
  obtain ⟨rfl, rfl, rfl⟩ := trodAll_nil r2
  obtain rfl : args = #[v0, v1, v2] := by cases args; simp_all
  obtain ⟨rfl, rfl⟩ := trodVars_none hV
  obtain ⟨a, rfl, rfl, rfl, wa⟩ := open_int Try.underlying3 (hval 0 3 v0 rfl rfl) h0
  obtain ⟨A, n, c, ops, rfl, hS, hn⟩ := open_script (hval 1 39 v1 rfl rfl) h1 (fun x hx => hlt x (by simp [hx]))
  obtain ⟨A2, n2, c2, zs, rfl, hP, hn2⟩ := open_picks (hval 2 36 v2 rfl rfl) h2 (fun x hx => hlt x (by simp [hx]))
  refine (tears_any W a (bounds_i64 wa).1 (bounds_i64 wa).2 A n c ops hS hn A2 n2 c2 zs hP hn2).mono fun e W' ⟨he, hb⟩ => ?_
  exact ⟨_, he, law_post laidOut Try.underlying4 (by rfl) readable rfl hW' hb rfl rfl rfl⟩

theorem said : Rows.DiskTearsSaid :=
  OpenClaim.holds_of_wide 5 Try.f5 rfl rfl rfl rfl rfl rfl rfl ⟨rfl, rfl, rfl, rfl, rfl⟩ rfl rfl rfl rfl rfl (by kernel_rfl) Try.func5 (by kernel_rfl)
    (of_decide_eq_true (by kernel_rfl)) (by unfold Func.isWrapper; rw [if_neg (of_decide_eq_false (by kernel_rfl))]; exact ⟨rfl, rfl⟩)
    (fun os started H enc _ => lifted os started H enc)
end Go.Proofs.Ytibhnjnfifpepaa.fnTears
