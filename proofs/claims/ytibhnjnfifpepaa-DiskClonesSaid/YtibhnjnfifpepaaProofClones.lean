/- For all numbers of sectors and three scripts, DiskClones returns true, and its arguments read as before. No conditions. -/
import Derived.Test.YtibhnjnfifpepaaRows
import Derived.Test.YtibhnjnfifpepaaLawClones
import Derived.Test.YtibhnjnfifpepaaShell
namespace Go.Proofs.Ytibhnjnfifpepaa.fnClones
open Go.ChangeShapes Go.WideShapes Go.ChangeAt Go.RowKit

theorem own : ownKnob Try.prog.godebug = none := by kernel_rfl
theorem laidOut : laidOutB Try.prog = true := by kernel_rfl
theorem readable : Try.f7.params.toList.all (fun t => Try.prog.readableRec t && decide (t < Try.prog.types.size)) = true := by kernel_rfl

theorem clones_any (w : World) (i : Int) (h1 : -9223372036854775808 ≤ i) (h2 : i ≤ 9223372036854775807)
    (A1 : Option Addr) (n1 c1 : Nat) (os1 : List OpV) (hS1 : Script w w.heap.size A1 n1 os1) (hn1 : n1 ≤ 9223372036854775807)
    (A2 : Option Addr) (n2 c2 : Nat) (os2 : List OpV) (hS2 : Script w w.heap.size A2 n2 os2) (hn2 : n2 ≤ 9223372036854775807)
    (A3 : Option Addr) (n3 c3 : Nat) (os3 : List OpV) (hS3 : Script w w.heap.size A3 n3 os3) (hn3 : n3 ≤ 9223372036854775807) :
    Calls Try.prog 7 #[.int .i64 i, .slice A1 n1 c1, .slice A2 n2 c2, .slice A3 n3 c3] w (RetB (.bool true) w) := by
  by_cases hi : i < 1 ∨ 64 < i
  · exact clones_small w i h1 h2 hi A1 n1 c1 _ _
  · obtain ⟨m, rfl⟩ : ∃ m : Nat, i = m := ⟨i.toNat, by omega⟩
    by_cases h60 : 60 < n1 ∨ (n1 ≤ 60 ∧ 60 < n2) ∨ (n1 ≤ 60 ∧ n2 ≤ 60 ∧ 60 < n3)
    · exact clones_long w m (by omega) (by omega) A1 A2 A3 n1 c1 n2 c2 n3 c3 h60 hn1 hn2 hn3
    · exact clones_main w m (by omega) (by omega) A1 n1 c1 os1 hS1 (by omega) A2 n2 c2 os2 hS2 (by omega) A3 n3 c3 os3 hS3 (by omega)

set_option maxRecDepth 100000 in
theorem lifted (os : Os) (started : os.Started) (H : Type) (enc : TypeId × Value → H) :
    ReturnsInHanded {} Try.checked os 7 .any (Rows.diskClonesSpec.pre6 enc Try.prog Try.f7 Rows.diskClonesRow.domain false) (Rows.diskClonesSpec.post enc Try.prog Try.f7 false true false false) := by
  refine returnsInHanded_of_change_sized (C := Try.checked) own started (by kernel_rfl) Try.func7
    (ChangeSpec.witness6 (enc := enc) (C := Try.checked) false ⟨#[], #[.int .i64 0, .slice none 0 0, .slice none 0 0, .slice none 0 0], []⟩ 8 (by kernel_rfl) (by kernel_rfl) (by kernel_rfl) (by kernel_rfl)) ?_
  intro W base args ds gs before hval0 hW _ _ _
  have hval : ∀ (j : Nat) t v, Try.f7.params[j]? = some t → args[j]? = some v → Value.okWide Try.prog W .any base t v := hval0
  have hW' := hW
  have hlt : ∀ x ∈ before, x.block < W.heap.size := fun x hx => hW'.lt x hx
  obtain ⟨p, q, hA0, hV, rfl, _, _⟩ := hW
  have hA : DataW.TrodAll enc Try.prog W 0 (fun _ => true) true Try.f7.params.toList args.toList ds p := hA0
  rw [Try.params7] at hA hval
  obtain ⟨v0, vs0, d0, ds0, p0, q0, hargs, rfl, rfl, h0, r0⟩ := trodAll_cons hA
  obtain ⟨v1, vs1, d1, ds1, p1, q1, rfl, rfl, rfl, h1, r1⟩ := trodAll_cons r0
  obtain ⟨v2, vs2, d2, ds2, p2, q2, rfl, rfl, rfl, h2, r2⟩ := trodAll_cons r1
  obtain ⟨v3, vs3, d3, ds3, p3, q3, rfl, rfl, rfl, h3, r3⟩ := trodAll_cons r2
  obtain ⟨rfl, rfl, rfl⟩ := trodAll_nil r3
  obtain rfl : args = #[v0, v1, v2, v3] := by cases args; simp_all
  obtain ⟨rfl, rfl⟩ := trodVars_none hV
  obtain ⟨a, rfl, rfl, rfl, wa⟩ := open_int Try.underlying3 (hval 0 3 v0 rfl rfl) h0
  obtain ⟨A1, n1, c1, o1, rfl, hS1, hn1⟩ := open_script (hval 1 39 v1 rfl rfl) h1 (fun x hx => hlt x (by simp [hx]))
  obtain ⟨A2, n2, c2, o2, rfl, hS2, hn2⟩ := open_script (hval 2 39 v2 rfl rfl) h2 (fun x hx => hlt x (by simp [hx]))
  obtain ⟨A3, n3, c3, o3, rfl, hS3, hn3⟩ := open_script (hval 3 39 v3 rfl rfl) h3 (fun x hx => hlt x (by simp [hx]))
  refine (clones_any W a (bounds_i64 wa).1 (bounds_i64 wa).2 A1 n1 c1 o1 hS1 hn1 A2 n2 c2 o2 hS2 hn2 A3 n3 c3 o3 hS3 hn3).mono fun e W' ⟨he, hb⟩ => ?_
  exact ⟨_, he, law_post laidOut Try.underlying4 (by rfl) readable rfl hW' hb rfl rfl rfl⟩

theorem said : Rows.DiskClonesSaid :=
  OpenClaim.holds_of_wide 7 Try.f7 rfl rfl rfl rfl rfl rfl rfl ⟨rfl, rfl, rfl, rfl, rfl⟩ rfl rfl rfl rfl rfl (by kernel_rfl) Try.func7 (by kernel_rfl)
    (of_decide_eq_true (by kernel_rfl)) (by unfold Func.isWrapper; rw [if_neg (of_decide_eq_false (by kernel_rfl))]; exact ⟨rfl, rfl⟩)
    (fun os started H enc _ => lifted os started H enc)
end Go.Proofs.Ytibhnjnfifpepaa.fnClones
