/- '!=' between two tokens of the reference. -/
import Derived.Test.YtjjdfccbkohlcaaDoorProg
import Derived.WalkKit
import Derived.Laws.StructEq
namespace Go.Proofs.YtjjdfccbkohlcaaDoor

theorem guard_tok (x y : Operand) (xs ys : Array Value) (w : World) : (eqGuard .neq 56 x y (.agg xs) (.agg ys)).run Tryd.prog w = .ok () w :=
  run_eqGuard_agg w .neq 56 x y xs ys (by kernel_rfl)
theorem part9 (xs : Array Value) (i : Nat) (v : Value) (h : xs[i]? = some v) (w : World) : (part 9 xs i).run Tryd.prog w = .ok v w := by
  simp [part, h, go_sem]
theorem fields56 : (Tryd.prog.fieldsOf 56).toList.map (fun f => (f.type, f.offset, f.name == "_")) = [(9, 0, false), (9, 1, false)] := by kernel_rfl
theorem eqFields_two (fs : List Field) (h : fs.map (fun f => (f.type, f.offset, f.name == "_")) = [(9, 0, false), (9, 1, false)]) (a b c d : ByteArray) (w : World) :
    (Op.eqFields 9999 #[.string a, .string b] #[.string c, .string d] fs).run Tryd.prog w = .ok (a.toList == c.toList && b.toList == d.toList) w := by
  have hl : fs.length = 2 := by have := congrArg List.length h; simpa using this
  obtain ⟨f, g, rfl⟩ : ∃ f g, fs = [f, g] := by
    rcases fs with _ | ⟨f, _ | ⟨g, _ | ⟨x, r⟩⟩⟩
    · simp at hl
    · simp at hl
    · exact ⟨f, g, rfl⟩
    · simp at hl
  simp only [List.map_cons, List.map_nil, List.cons.injEq, Prod.mk.injEq, and_true] at h
  obtain ⟨⟨h1, h2, h3⟩, h4, h5, h6⟩ := h
  have n1 : ¬ f.name = "_" := by simpa using h3
  have n2 : ¬ g.name = "_" := by simpa using h6
  have q1 : ∀ (x y : ByteArray) (w : World), (Op.equalIn 9999 9 (.string x) (.string y)).run Tryd.prog w = .ok (x.toList == y.toList) w := fun x y w => run_equalIn_string w 9998 9 x y Tryd.underlying9
  have p1 : ∀ (x y : ByteArray) (w : World), (part 9 #[.string x, .string y] 0).run Tryd.prog w = .ok (.string x) w := fun x y w => part9 _ 0 _ rfl w
  have p2 : ∀ (x y : ByteArray) (w : World), (part 9 #[.string x, .string y] 1).run Tryd.prog w = .ok (.string y) w := fun x y w => part9 _ 1 _ rfl w
  simp only [Op.eqFields, h1, h2, h4, h5, ne_eq, n1, n2, not_false_eq_true, if_true, Sem.run_bind, p1, p2, q1, Result.andThen_ok, Sem.run_ite]
  cases a.toList == c.toList <;> cases b.toList == d.toList <;> simp
theorem neq_tok (a b c d : ByteArray) (w : World) : (binOp .neq 56 (.agg #[.string a, .string b]) (.agg #[.string c, .string d])).run Tryd.prog w = .ok (.bool (!(a.toList == c.toList && b.toList == d.toList))) w := by
  rw [run_neq_struct, run_equalIn_agg w 9999 56 _ _ (by kernel_rfl) (by kernel_rfl), eqFields_two _ fields56, Result.andThen_ok]
end Go.Proofs.YtjjdfccbkohlcaaDoor
