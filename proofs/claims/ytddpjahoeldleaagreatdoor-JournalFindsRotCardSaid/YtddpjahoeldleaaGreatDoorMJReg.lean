/- A law for one drawn region. -/
import Derived.Test.YtddpjahoeldleaaGreatDoorMJAppend

namespace Go.Proofs.YtddpjahoeldleaaGreatDoor
open Go.RowKit Go.Maps

section
variable {P : Program} {ops : Array Oper} {Q : Exit → Act → World → Prop} {md : Region.Mode} {S : World → Prop} {E : Nat → Bool}

/-- Whatever order is picked from here on, AND each operation that E does not name keeps S. -/
def wpAnyX (P : Program) (md : Region.Mode) (ops : Array Oper) (Q : Exit → Act → World → Prop) (S : World → Prop) (E : Nat → Bool) : Nat → Array Bool → Act → World → Prop
  | 0, listed, a, w => Region.ready md ops listed = [] ∧ Q .normal a w
  | fuel + 1, listed, a, w =>
    (Region.ready md ops listed = [] → Q .normal a w) ∧
    ∀ i ∈ Region.ready md ops listed, wpOp P ops Q i (fun a' w' => (E i = false → S w → S w') ∧ wpAnyX P md ops Q S E fuel (listed.setIfInBounds i true) a' w') a w

theorem wpAny_of_X : ∀ (fuel : Nat) (listed : Array Bool) (a : Act) (w : World), wpAnyX P md ops Q S E fuel listed a w → wpAny P md ops Q fuel listed a w
  | 0, _, _, _, h => h
  | fuel + 1, _, _, _, h => ⟨h.1, fun i hi => wpOp_mono (fun a' w' h' => wpAny_of_X fuel _ a' w' h'.2) (h.2 i hi)⟩

/-- An operation that yields its value in every world that meets T is taken first, if all that does not wait for it keeps T. -/
theorem wpAnyX_first {T : World → Prop} {i : Nat} {oi : Oper} {v : Value} (hi : ops[i]? = some oi) (hsel : ∀ (j : Nat) (o : Oper) cs b, ops[j]? = some o → o.op ≠ .select cs b)
    (hQ : ∀ c a w, Q (.panic c) (a.put oi.dst v) w → Q (.panic c) a w)
    (hT : ∀ j oj w w', ops[j]? = some oj → j ≠ i → (∀ e ∈ oj.after, Region.binds md e = true → e.on ≠ i) → T w → (E j = false → S w → S w') → T w') :
    ∀ (fuel : Nat) (listed : Array Bool) (a : Act) (w : World),
      (∀ j oj, ops[j]? = some oj → j ≠ i → listed.getD j true = false → (∀ e ∈ oj.after, Region.binds md e = true → e.on ≠ i) → oi.apart ops oj = true) →
      i ∈ Region.ready md ops listed → YieldsIf P ops T oi v a → T w →
      wpAnyX P md ops Q S E fuel (listed.setIfInBounds i true) (a.put oi.dst v) w → wpAnyX P md ops Q S E (fuel + 1) listed a w := by
  intro fuel
  induction fuel with
  | zero =>
    intro listed a w _ hr hy hw H
    refine ⟨fun h => absurd hr (h ▸ List.not_mem_nil), fun j hj => ?_⟩
    by_cases hji : j = i
    · exact hji ▸ hy.wpOp hi hw ⟨fun _ h => h, H⟩
    · exact absurd (H.1 ▸ ready_mono hj hji) List.not_mem_nil
  | succ fuel ih =>
    intro listed a w hfree hr hy hw H
    refine ⟨fun h => absurd hr (h ▸ List.not_mem_nil), fun j hj => ?_⟩
    by_cases hji : j = i
    · exact hji ▸ hy.wpOp hi hw ⟨fun _ h => h, H⟩
    obtain ⟨hjun, oj, hoj, hall⟩ := mem_ready.1 hj
    have hnot : ∀ e ∈ oj.after, Region.binds md e = true → e.on ≠ i := fun e he hb heq => by
      have h1 := hall e he hb
      have h0 := (mem_ready.1 hr).1
      rw [heq] at h1
      rcases Nat.lt_or_ge i listed.size with h' | h'
      · simp [h'] at h0 h1; rw [h0] at h1; cases h1
      · simp [Array.getElem?_eq_none h'] at h1
    refine wpOp_mono (fun a' w' h3 => ⟨h3.2.1, ih _ a' w' (fun k ok hk hki hun hno => hfree k ok hk hki ?_ hno) (ready_mono hr (Ne.symm hji)) h3.1 (hT j oj w w' hoj hji hnot hw h3.2.1) ?_⟩)
      (wpOp_putIf hoj (hfree j oj hoj hji hjun hnot) (fun cs b => hsel i oi cs b hi) (fun cs b => hsel j oj cs b hoj) hQ hy (H.2 j (ready_mono hj hji)))
    · by_cases hjk : j = k
      · exact hjk ▸ hjun
      · rwa [getD_set_ne true hjk] at hun
    · rw [Array.setIfInBounds_comm _ _ hji]
      exact h3.2.2

/-- those that E names wait for i -/
def waitsFor (md : Region.Mode) (ops : Array Oper) (E : Nat → Bool) (i : Nat) : Bool :=
  (List.range ops.size).all fun j => !E j || j == i || match ops[j]? with
    | some oj => oj.after.any (fun e => Region.binds md e && e.on == i)
    | none => true
theorem waits_spec {i : Nat} (h : waitsFor md ops E i = true) : ∀ j oj, ops[j]? = some oj → E j = true → j ≠ i → ∃ e ∈ oj.after, Region.binds md e = true ∧ e.on = i := fun j oj hj hE hne => by
  simp only [waitsFor, List.all_eq_true, List.mem_range] at h
  have h1 := h j (Array.getElem?_eq_some_iff.1 hj).1
  simp only [hj, hE, Bool.not_true, Bool.false_or, Bool.or_eq_true, beq_iff_eq, hne, false_or] at h1
  obtain ⟨e, he, hb⟩ := Array.any_eq_true'.1 h1
  simp only [Bool.and_eq_true, beq_iff_eq] at hb
  exact ⟨e, he, hb.1, hb.2⟩
theorem wpAnyX_load {i : Nat} {oi : Oper} {v : Value} {fuel : Nat} {listed : Array Bool} {a : Act} {w : World} (hi : ops[i]? = some oi)
    (hs : Region.noSelect ops = true) (hf : Region.free md ops listed i = true) (hr : (Region.ready md ops listed).contains i = true) (hE : waitsFor md ops E i = true)
    (hQ : ∀ c a w, Q (.panic c) (a.put oi.dst v) w → Q (.panic c) a w) (hy : YieldsIf P ops S oi v a) (hS : S w)
    (h : wpAnyX P md ops Q S E fuel (listed.setIfInBounds i true) (a.put oi.dst v) w) : wpAnyX P md ops Q S E (fuel + 1) listed a w :=
  wpAnyX_first hi (Region.noSelect_spec hs) hQ (fun j oj w w' hj hji hnot hw hk => by
    cases he : E j with
    | false => exact hk he hw
    | true =>
      obtain ⟨e, h1, h2, h3⟩ := waits_spec hE j oj hj he hji
      exact absurd h3 (hnot e h1 h2)) fuel listed a w (Region.free_spec hi hf) (by simpa using hr) hy hS h
theorem wpAnyX_take {i : Nat} {oi : Oper} {v : Value} {fuel : Nat} {listed : Array Bool} {a : Act} {w : World} (hi : ops[i]? = some oi)
    (hs : Region.noSelect ops = true) (hf : Region.free md ops listed i = true) (hr : (Region.ready md ops listed).contains i = true)
    (hQ : ∀ c a w, Q (.panic c) (a.put oi.dst v) w → Q (.panic c) a w) (hy : YieldsIf P ops (fun _ => True) oi v a)
    (h : wpAnyX P md ops Q S E fuel (listed.setIfInBounds i true) (a.put oi.dst v) w) : wpAnyX P md ops Q S E (fuel + 1) listed a w :=
  wpAnyX_first (T := fun _ => True) hi (Region.noSelect_spec hs) hQ (fun _ _ _ _ _ _ _ _ _ => trivial) fuel listed a w (Region.free_spec hi hf) (by simpa using hr) hy trivial h
theorem wpAnyX_done {listed : Array Bool} {a : Act} {w : World} (hr : Region.ready md ops listed = []) (h : Q .normal a w) :
    ∀ fuel, wpAnyX P md ops Q S E fuel listed a w
  | 0 => ⟨hr, h⟩
  | _ + 1 => ⟨fun _ => h, by rw [hr]; simp⟩
/-- each of these comes up next -/
def ReadyX (P : Program) (md : Region.Mode) (ops : Array Oper) (Q : Exit → Act → World → Prop) (S : World → Prop) (E : Nat → Bool) (fuel : Nat) (listed : Array Bool) (a : Act) (w : World) (rs : List Nat) : Prop :=
  ∀ i ∈ rs, wpOp P ops Q i (fun a' w' => (E i = false → S w → S w') ∧ wpAnyX P md ops Q S E fuel (listed.setIfInBounds i true) a' w') a w
theorem ReadyX.nil {fuel : Nat} {listed : Array Bool} {a : Act} {w : World} : ReadyX P md ops Q S E fuel listed a w [] := fun _ h => by cases h
theorem ReadyX.cons {fuel : Nat} {listed : Array Bool} {a : Act} {w : World} {i : Nat} {o : Oper} {rs : List Nat} (ho : ops[i]? = some o)
    (h : ∀ K' : Act → World → Prop, Hid (∀ a' w', (E i = false → S w → S w') → wpAnyX P md ops Q S E fuel (listed.setIfInBounds i true) a' w' → K' a' w') → if Region.wanted o (yielded ops a.tmps) = true then Oper.wp P o a w K' Q else K' (a.put o.dst undef) w)
    (hs : ReadyX P md ops Q S E fuel listed a w rs) : ReadyX P md ops Q S E fuel listed a w (i :: rs) := fun j hj => by
  rcases List.mem_cons.1 hj with rfl | hj
  · exact wpOp_step ho (fun K' hK => h K' (Lib.hid fun a w hS hW => hK a w ⟨hS, hW⟩))
  · exact hs j hj
theorem wpAnyX_ready {rs : List Nat} {fuel : Nat} {listed : Array Bool} {a : Act} {w : World} (hr : Region.ready md ops listed = rs) (hne : rs ≠ [])
    (h : ReadyX P md ops Q S E fuel listed a w rs) : wpAnyX P md ops Q S E (fuel + 1) listed a w :=
  ⟨fun h0 => absurd (hr ▸ h0) hne, hr ▸ h⟩
theorem wp_region_X {id : Nat} {a : Act} {w : World} (S : World → Prop) (E : Nat → Bool) (hm : P.follows .mixedOrders = true)
    (h : wpAnyX P .any ops Q S E ops.size (Array.replicate ops.size false) a w.drew) : (Code.region id ops true).wp P Q a w :=
  wp_region_any hm (wpAny_of_X _ _ _ _ h)
end
/-- the operations of a region of some code -/
def findReg (n : Nat) : Code → Option (Array Oper)
  | .region id ops _ => if id = n then some ops else none
  | .seq a b => (findReg n a).or (findReg n b)
  | .cond _ a b => (findReg n a).or (findReg n b)
  | .block _ a => findReg n a
  | .loop a => findReg n a
  | _ => none
/-- what the region leaves -/
def AddPost (wn : World) (jb : Nat) (vn vt : Value) (G : JV) (N : Int) (T : Bs) (A8 : Option Addr) (c8 : Nat) (A9 : Option Addr) (c9 : Nat) (w' : World) : Prop :=
  ∃ w8 w9, Grew wn vn w8 (.slice A8 (G.nums.length + 1) c8) ∧ w8.ownsRow 0 3 1 (.slice A8 (G.nums.length + 1) c8) (G.nums.length + 1) (intCells (G.nums ++ [N])) ∧ Grew w8 vt w9 (.slice A9 (G.texts.length + 1) c9) ∧ w9.ownsRow 0 9 1 (.slice A9 (G.texts.length + 1) c9) (G.texts.length + 1) (strCells (G.texts ++ [T])) ∧
    w' = (w9.setCell ⟨jb, 1, none⟩ (.slice A8 (G.nums.length + 1) c8)).setCell ⟨jb, 3, none⟩ (.slice A9 (G.texts.length + 1) c9)
set_option maxHeartbeats 40000000 in
set_option maxRecDepth 100000 in
theorem open_add (wn : World) (jb g bA oA k c i : Nat) (N : Int) (s : ByteArray) (vn vb vt : Value) (G : JV) (T : Bs) (hJ : JAt wn jb g vn vb vt G) (x0 : wn.cell? ⟨bA, oA + i * 5, none⟩ = some (.int .i64 N)) (hbA : bA < wn.heap.size) (hbn : bA ∉ ob vn) (hbt : bA ∉ ob vt) (hik : i < k) (hgl : G.nums.length ≤ 4096) (hgt : G.texts.length ≤ 4096) (hT : str T = .string s)
    {u0 u1 u2 u3 u6 u7 u8 u9 u10 u13 u14 u15 u16 u17 u18 u19 u20 u21 u22 u23 u24 u25 u26 u27 u28 u29 u30 u31 u32 u33 u34 u35 u36 u37 u38 u39 u40 u41 u42 u43 u44 u45 u46 u47 u48 u49 u50 u51 u52 u53 u54 u55 u56 u57 u58 u59 u60 u61 u62 u63 u64 u65 u66 u67 u68 u69 u70 u71 u72 u73 u74 u75 u76 u77 u78 u79 u80 u81 u82 u83 u84 u85 u86 u87 u88 u89 u90 u91 u92 u93 u94 u95 u96 u97 u98 u99 u100 u101 u102 u103 u104 u105 u106 u107 u108 u109 u110 u111 u112 u113 u114 u115 u116 u117 u118 u119 u120 u121 u122 u123 u124 u125 u126 u127 u128 u129 u130 u131 u132 u133 u134 u135 u136 u137 u138 u139 : Value} {Q : Exit → Act → World → Prop}
    (hQ : ∀ (x112 x113 x114 x115 x116 x117 x118 x119 x120 x121 x122 x123 x124 x125 x126 x127 x128 x129 x130 x131 x132 x133 x134 x135 : Value) (A8 : Option Addr) (c8 : Nat) (A9 : Option Addr) (c9 : Nat) (w' : World), AddPost wn jb vn vt G N T A8 c8 A9 c9 w' → Q .normal { tmps := #[u0, u1, u2, u3, .pointer (some ⟨jb, 0, none⟩), .slice (some ⟨bA, oA, none⟩) k c, u6, u7, u8, u9, u10, .int .i64 (i : Int), .string s, u13, u14, u15, u16, u17, u18, u19, u20, u21, u22, u23, u24, u25, u26, u27, u28, u29, u30, u31, u32, u33, u34, u35, u36, u37, u38, u39, u40, u41, u42, u43, u44, u45, u46, u47, u48, u49, u50, u51, u52, u53, u54, u55, u56, u57, u58, u59, u60, u61, u62, u63, u64, u65, u66, u67, u68, u69, u70, u71, u72, u73, u74, u75, u76, u77, u78, u79, u80, u81, u82, u83, u84, u85, u86, u87, u88, u89, u90, u91, u92, u93, u94, u95, u96, u97, u98, u99, u100, u101, u102, u103, u104, u105, u106, u107, u108, u109, u110, u111, x112, x113, x114, x115, x116, x117, x118, x119, x120, x121, x122, x123, x124, x125, x126, x127, x128, x129, x130, x131, x132, x133, x134, x135, u136, u137, u138, u139], defers := [] } w') :
    ∀ ops, Tryz.f9.body.bind (findReg 24) = some ops → Code.wp Tryz.prog (Code.region 24 ops true) Q { tmps := #[u0, u1, u2, u3, .pointer (some ⟨jb, 0, none⟩), .slice (some ⟨bA, oA, none⟩) k c, u6, u7, u8, u9, u10, .int .i64 (i : Int), .string s, u13, u14, u15, u16, u17, u18, u19, u20, u21, u22, u23, u24, u25, u26, u27, u28, u29, u30, u31, u32, u33, u34, u35, u36, u37, u38, u39, u40, u41, u42, u43, u44, u45, u46, u47, u48, u49, u50, u51, u52, u53, u54, u55, u56, u57, u58, u59, u60, u61, u62, u63, u64, u65, u66, u67, u68, u69, u70, u71, u72, u73, u74, u75, u76, u77, u78, u79, u80, u81, u82, u83, u84, u85, u86, u87, u88, u89, u90, u91, u92, u93, u94, u95, u96, u97, u98, u99, u100, u101, u102, u103, u104, u105, u106, u107, u108, u109, u110, u111, u112, u113, u114, u115, u116, u117, u118, u119, u120, u121, u122, u123, u124, u125, u126, u127, u128, u129, u130, u131, u132, u133, u134, u135, u136, u137, u138, u139], defers := [] } wn := by
  intro ops hops
  have J7 := Lib.hid hJ
  have HSZ := Lib.hid hT
  have JD := Lib.hid (show JAt wn.drew jb g vn vb vt G from hJ.below (below_drewN' (Below.refl _ _) 1))
  have hlt7 := hJ.head.lt
  have S0 : wn.drew.cell? ⟨jb, 1, none⟩ = some vn ∧ wn.drew.cell? ⟨jb, 3, none⟩ = some vt ∧ wn.drew.cell? ⟨bA, oA + i * 5, none⟩ = some (.int .i64 N) := ⟨JD.out.cells.2.1, JD.out.cells.2.2.2.1, x0⟩
  have hj : ∀ (X : World), Below wn.heap.size wn X → X.cell? ⟨jb, 1, none⟩ = some vn ∧ X.cell? ⟨jb, 3, none⟩ = some vt ∧ X.cell? ⟨bA, oA + i * 5, none⟩ = some (.int .i64 N) := fun X hX => ⟨(hX.cell (p := ⟨jb, 1, none⟩) hlt7).trans J7.out.cells.2.1, (hX.cell (p := ⟨jb, 3, none⟩) hlt7).trans J7.out.cells.2.2.2.1, (hX.cell (p := ⟨bA, oA + i * 5, none⟩) hbA).trans x0⟩
  have DI : Below wn.heap.size wn (wn.alloc (.cells #[.int .i64 N] 3)).drew := below_drewN' (below_new wn _) 1
  have DS : Below wn.heap.size wn (wn.alloc (.cells #[.string s] 9)).drew := below_drewN' (below_new wn _) 1
  have DIS : Below wn.heap.size wn ((wn.alloc (.cells #[.int .i64 N] 3)).alloc (.cells #[.string s] 9)).drew := below_drewN' ((below_new wn _).alloc (by simp) _) 1
  have DSI : Below wn.heap.size wn ((wn.alloc (.cells #[.string s] 9)).alloc (.cells #[.int .i64 N] 3)).drew := below_drewN' ((below_new wn _).alloc (by simp) _) 1
  have HSJ := Lib.hid (And.intro (hj _ DI) (And.intro (hj _ DS) (And.intro (hj _ DIS) (hj _ DSI))))
  have mI : (wn.alloc (.cells #[.int .i64 N] 3)).drew.cell? ⟨wn.heap.size, 0, none⟩ = some (.int .i64 N) := (Blk.new wn 3 #[.int .i64 N]).cell 0
  have mIS : ((wn.alloc (.cells #[.int .i64 N] 3)).alloc (.cells #[.string s] 9)).drew.cell? ⟨wn.heap.size, 0, none⟩ = some (.int .i64 N) := (World.cell?_alloc_lt _ _ ⟨wn.heap.size, 0, none⟩ (by simp)).trans mI
  have mSI : ((wn.alloc (.cells #[.string s] 9)).alloc (.cells #[.int .i64 N] 3)).drew.cell? ⟨wn.heap.size + 1, 0, none⟩ = some (.int .i64 N) := by
    have := (Blk.new (wn.alloc (.cells #[.string s] 9)) 3 #[.int .i64 N]).cell 0
    rw [World.size_alloc] at this
    exact this
  have nIS : ((wn.alloc (.cells #[.int .i64 N] 3)).alloc (.cells #[.string s] 9)).drew.cell? ⟨wn.heap.size + 1, 0, none⟩ = some (.string s) := by
    have := (Blk.new (wn.alloc (.cells #[.int .i64 N] 3)) 9 #[.string s]).cell 0
    rw [World.size_alloc] at this
    exact this
  have nSI : ((wn.alloc (.cells #[.string s] 9)).alloc (.cells #[.int .i64 N] 3)).drew.cell? ⟨wn.heap.size, 0, none⟩ = some (.string s) :=
    (World.cell?_alloc_lt _ _ ⟨wn.heap.size, 0, none⟩ (by simp)).trans ((Blk.new wn 9 #[.string s]).cell 0)
  have HSS2 := Lib.hid (And.intro nIS nSI)
  have HVN := Lib.hid (fun i hi => (J7.out.nums.lt i hi).2)
  have HMM := Lib.hid (And.intro mI (And.intro mIS mSI))
  have HDD := Lib.hid (And.intro DI (And.intro DIS DSI))
  have HJN := Lib.hid (And.intro (show jb ∉ ob vn from fun hm => row_ne hJ.head hJ.nums (by decide) jb (mem_ob.1 hm) (List.mem_cons_self ..)) (show jb ∉ ob vt from fun hm => row_ne hJ.head hJ.texts (by decide) jb (mem_ob.1 hm) (List.mem_cons_self ..)))
  have HBN := Lib.hid (And.intro hbn hbt)
  have HX0 := Lib.hid (And.intro x0 hbA)
  have HLT := Lib.hid hlt7
  have j1 : (i : Int) < (k : Int) := by omega
  have j0 : (0 : Int) ≤ (i : Int) := by omega
  have HQ := Lib.hid hQ
  clear hj mI mIS mSI DI DS DIS DSI x0 hbA nIS nSI hJ hT hlt7 hQ hbn hbt JD
  conv at hops => lhs; whnf
  injection hops with hops
  subst hops
  refine wp_region_noPanic ?_
  refine wp_region_X (fun W => W.cell? ⟨jb, 1, none⟩ = some vn ∧ W.cell? ⟨jb, 3, none⟩ = some vt ∧ W.cell? ⟨bA, oA + i * 5, none⟩ = some (.int .i64 N)) (fun j => decide (20 ≤ j)) (by kernel_rfl) ?_
  refine wpAnyX_take (i := 0) (v := ?_) (by simp only [List.getElem?_toArray, List.getElem?_cons_zero]; exact rfl) (by kernel_rfl) (by kernel_rfl) (by kernel_rfl) (fun _ _ _ h => h) (Or.inl ⟨by rfl, ?_⟩) ?_
  rotate_left
  · (intro w _; go_simp; try with_reducible rfl)
  try simp only [Act.put, List.setIfInBounds_toArray, List.set_cons_zero, List.set_cons_succ]
  refine wpAnyX_take (i := 1) (v := ?_) (by simp only [List.getElem?_toArray, List.getElem?_cons_succ, List.getElem?_cons_zero]; exact rfl) (by kernel_rfl) (by kernel_rfl) (by kernel_rfl) (fun _ _ _ h => h) (Or.inl ⟨by rfl, ?_⟩) ?_
  rotate_left
  · (intro w _; go_simp; try with_reducible rfl)
  try simp only [Act.put, List.setIfInBounds_toArray, List.set_cons_zero, List.set_cons_succ]
  refine wpAnyX_take (i := 2) (v := ?_) (by simp only [List.getElem?_toArray, List.getElem?_cons_succ, List.getElem?_cons_zero]; exact rfl) (by kernel_rfl) (by kernel_rfl) (by kernel_rfl) (fun _ _ _ h => h) (Or.inl ⟨by rfl, ?_⟩) ?_
  rotate_left
  · (intro w _; go_simp; try with_reducible rfl)
  try simp only [Act.put, List.setIfInBounds_toArray, List.set_cons_zero, List.set_cons_succ]
  refine wpAnyX_take (i := 3) (v := ?_) (by simp only [List.getElem?_toArray, List.getElem?_cons_succ, List.getElem?_cons_zero]; exact rfl) (by kernel_rfl) (by kernel_rfl) (by kernel_rfl) (fun _ _ _ h => h) (Or.inl ⟨by rfl, ?_⟩) ?_
  rotate_left
  · (intro w _; go_simp; try with_reducible rfl)
  try simp only [Act.put, List.setIfInBounds_toArray, List.set_cons_zero, List.set_cons_succ]
  refine wpAnyX_take (i := 4) (v := ?_) (by simp only [List.getElem?_toArray, List.getElem?_cons_succ, List.getElem?_cons_zero]; exact rfl) (by kernel_rfl) (by kernel_rfl) (by kernel_rfl) (fun _ _ _ h => h) (Or.inl ⟨by rfl, ?_⟩) ?_
  rotate_left
  · (intro w _; go_simp; try with_reducible rfl)
  try simp only [Act.put, List.setIfInBounds_toArray, List.set_cons_zero, List.set_cons_succ]
  refine wpAnyX_load (i := 5) (v := ?_) (by simp only [List.getElem?_toArray, List.getElem?_cons_succ, List.getElem?_cons_zero]; exact rfl) (by kernel_rfl) (by kernel_rfl) (by kernel_rfl) (by kernel_rfl) (fun _ _ _ h => h) (Or.inl ⟨by rfl, ?_⟩) S0 ?_
  rotate_left
  · (intro w hSw; obtain ⟨y1, y3, y5⟩ := hSw; go_simp; try with_reducible rfl)
  try simp only [Act.put, List.setIfInBounds_toArray, List.set_cons_zero, List.set_cons_succ]
  refine wpAnyX_take (i := 6) (v := ?_) (by simp only [List.getElem?_toArray, List.getElem?_cons_succ, List.getElem?_cons_zero]; exact rfl) (by kernel_rfl) (by kernel_rfl) (by kernel_rfl) (fun _ _ _ h => h) (Or.inl ⟨by rfl, ?_⟩) ?_
  rotate_left
  · (intro w _; go_simp; try with_reducible rfl)
  try simp only [Act.put, List.setIfInBounds_toArray, List.set_cons_zero, List.set_cons_succ]
  refine wpAnyX_take (i := 7) (v := ?_) (by simp only [List.getElem?_toArray, List.getElem?_cons_succ, List.getElem?_cons_zero]; exact rfl) (by kernel_rfl) (by kernel_rfl) (by kernel_rfl) (fun _ _ _ h => h) (Or.inl ⟨by rfl, ?_⟩) ?_
  rotate_left
  · (intro w _; go_simp; try with_reducible rfl)
  try simp only [Act.put, List.setIfInBounds_toArray, List.set_cons_zero, List.set_cons_succ]
  refine wpAnyX_take (i := 8) (v := ?_) (by simp only [List.getElem?_toArray, List.getElem?_cons_succ, List.getElem?_cons_zero]; exact rfl) (by kernel_rfl) (by kernel_rfl) (by kernel_rfl) (fun _ _ _ h => h) (Or.inl ⟨by rfl, ?_⟩) ?_
  rotate_left
  · (intro w _; go_simp; try with_reducible rfl)
  try simp only [Act.put, List.setIfInBounds_toArray, List.set_cons_zero, List.set_cons_succ]
  refine wpAnyX_take (i := 9) (v := ?_) (by simp only [List.getElem?_toArray, List.getElem?_cons_succ, List.getElem?_cons_zero]; exact rfl) (by kernel_rfl) (by kernel_rfl) (by kernel_rfl) (fun _ _ _ h => h) (Or.inl ⟨by rfl, ?_⟩) ?_
  rotate_left
  · (intro w _; go_simp; try with_reducible rfl)
  try simp only [Act.put, List.setIfInBounds_toArray, List.set_cons_zero, List.set_cons_succ]
  refine wpAnyX_load (i := 10) (v := ?_) (by simp only [List.getElem?_toArray, List.getElem?_cons_succ, List.getElem?_cons_zero]; exact rfl) (by kernel_rfl) (by kernel_rfl) (by kernel_rfl) (by kernel_rfl) (fun _ _ _ h => h) (Or.inl ⟨by rfl, ?_⟩) S0 ?_
  rotate_left
  · (intro w hSw; obtain ⟨y1, y3, y5⟩ := hSw; go_simp; try with_reducible rfl)
  try simp only [Act.put, List.setIfInBounds_toArray, List.set_cons_zero, List.set_cons_succ]
  refine wpAnyX_take (i := 13) (v := ?_) (by simp only [List.getElem?_toArray, List.getElem?_cons_succ, List.getElem?_cons_zero]; exact rfl) (by kernel_rfl) (by kernel_rfl) (by kernel_rfl) (fun _ _ _ h => h) (Or.inl ⟨by rfl, ?_⟩) ?_
  rotate_left
  · (intro w _; go_simp; try with_reducible rfl)
  try simp only [Act.put, List.setIfInBounds_toArray, List.set_cons_zero, List.set_cons_succ]
  refine wpAnyX_take (i := 14) (v := ?_) (by simp only [List.getElem?_toArray, List.getElem?_cons_succ, List.getElem?_cons_zero]; exact rfl) (by kernel_rfl) (by kernel_rfl) (by kernel_rfl) (fun _ _ _ h => h) (Or.inl ⟨by rfl, ?_⟩) ?_
  rotate_left
  · (intro w _; go_simp; try with_reducible rfl)
  try simp only [Act.put, List.setIfInBounds_toArray, List.set_cons_zero, List.set_cons_succ]
  refine wpAnyX_take (i := 15) (v := ?_) (by simp only [List.getElem?_toArray, List.getElem?_cons_succ, List.getElem?_cons_zero]; exact rfl) (by kernel_rfl) (by kernel_rfl) (by kernel_rfl) (fun _ _ _ h => h) (Or.inl ⟨by rfl, ?_⟩) ?_
  rotate_left
  · (intro w _; go_simp; try with_reducible rfl)
  try simp only [Act.put, List.setIfInBounds_toArray, List.set_cons_zero, List.set_cons_succ]
  refine wpAnyX_load (i := 16) (v := ?_) (by simp only [List.getElem?_toArray, List.getElem?_cons_succ, List.getElem?_cons_zero]; exact rfl) (by kernel_rfl) (by kernel_rfl) (by kernel_rfl) (by kernel_rfl) (fun _ _ _ h => h) (Or.inl ⟨by rfl, ?_⟩) S0 ?_
  rotate_left
  · (intro w hSw; obtain ⟨y1, y3, y5⟩ := hSw; go_simp; try with_reducible rfl)
  try simp only [Act.put, List.setIfInBounds_toArray, List.set_cons_zero, List.set_cons_succ]
  refine wpAnyX_take (i := 17) (v := ?_) (by simp only [List.getElem?_toArray, List.getElem?_cons_succ, List.getElem?_cons_zero]; exact rfl) (by kernel_rfl) (by kernel_rfl) (by kernel_rfl) (fun _ _ _ h => h) (Or.inl ⟨by rfl, ?_⟩) ?_
  rotate_left
  · (intro w _; go_simp; try with_reducible rfl)
  try simp only [Act.put, List.setIfInBounds_toArray, List.set_cons_zero, List.set_cons_succ]
  refine wpAnyX_ready (rs := [11, 18]) (by kernel_rfl) (by simp) ?_
  refine ReadyX.cons (by simp only [List.getElem?_toArray, List.getElem?_cons_succ, List.getElem?_cons_zero]; exact rfl) (fun K hK => ?_) ?_
  · go_simp
    refine hK.out _ _ (fun _ _ => HSJ.out.1) ?_
    clear hK K
    try simp only [Act.put, List.setIfInBounds_toArray, List.set_cons_zero, List.set_cons_succ]
    refine wpAnyX_ready (rs := [12, 18]) (by kernel_rfl) (by simp) ?_
    refine ReadyX.cons (by simp only [List.getElem?_toArray, List.getElem?_cons_succ, List.getElem?_cons_zero]; exact rfl) (fun K hK => ?_) ?_
    · refine step_appI (by rfl) _ _ (by rfl) (by rfl) vn G.nums.length G.nums (by rfl) (J7.out.nums.alloc _) N _ (by rfl) HMM.out.1 (by omega) ?_
      intro A8 c8 w8 o8 g8 h8
      have G8 := Lib.hid (grew (w := wn) HDD.out.1 g8 h8)
      have O8 := Lib.hid o8
      have T8 := Lib.hid (own_keepF J7.out.texts G8.out.keep (types_ne J7.out.texts J7.out.nums (by decide)))
      have p1 := (G8.out.keep.cell (p := ⟨jb, 1, none⟩) HLT.out HJN.out.1).trans J7.out.cells.2.1
      have p3 := (G8.out.keep.cell (p := ⟨jb, 3, none⟩) HLT.out HJN.out.1).trans J7.out.cells.2.2.2.1
      have p5 := (G8.out.keep.cell (p := ⟨bA, oA + i * 5, none⟩) HX0.out.2 HBN.out.1).trans HX0.out.1
      refine hK.out _ _ (fun _ _ => ⟨p1, p3, p5⟩) ?_
      clear hK K g8 h8 o8
      try simp only [Act.put, List.setIfInBounds_toArray, List.set_cons_zero, List.set_cons_succ]
      refine wpAnyX_ready (rs := [18]) (by kernel_rfl) (by simp) ?_
      refine ReadyX.cons (by simp only [List.getElem?_toArray, List.getElem?_cons_succ, List.getElem?_cons_zero]; exact rfl) (fun K hK => ?_) ?_
      · go_simp
        refine hK.out _ _ (fun _ _ => ⟨(World.cell?_alloc_lt _ _ _ (Nat.lt_of_lt_of_le HLT.out G8.out.keep.size)).trans p1, (World.cell?_alloc_lt _ _ _ (Nat.lt_of_lt_of_le HLT.out G8.out.keep.size)).trans p3, (World.cell?_alloc_lt _ _ _ (Nat.lt_of_lt_of_le HX0.out.2 G8.out.keep.size)).trans p5⟩) ?_
        clear hK K
        try simp only [Act.put, List.setIfInBounds_toArray, List.set_cons_zero, List.set_cons_succ]
        have nA : (w8.alloc (.cells #[.string s] 9)).cell? ⟨w8.heap.size, 0, none⟩ = some (.string s) := (Blk.new w8 9 #[.string s]).cell 0
        refine wpAnyX_ready (rs := [19]) (by kernel_rfl) (by simp) ?_
        refine ReadyX.cons (by simp only [List.getElem?_toArray, List.getElem?_cons_succ, List.getElem?_cons_zero]; exact rfl) (fun K hK => ?_) ?_
        · refine step_appS (by rfl) _ _ (by rfl) (by rfl) vt G.texts.length G.texts (by rfl) (T8.out.alloc _) T _ (by rfl) (by rw [HSZ.out]; assumption) (by omega) ?_
          intro A9 c9 w9 o9 g9 h9
          have G9 := Lib.hid (grew (w := w8) (below_new _ _) g9 h9)
          have O9 := Lib.hid o9
          have K9 := Lib.hid ((G8.out.keep.more (G := ob vn ++ ob vt) (fun _ hk => List.mem_append_left _ hk)).trans (G9.out.keep.more (fun _ hk => List.mem_append_right _ hk)))
          have H9 : Blk w9 jb 75 _ := (K9.out.block jb HLT.out (fun hm => by rcases List.mem_append.1 hm with hm | hm; exact HJN.out.1 hm; exact HJN.out.2 hm)).trans J7.out.head
          have r1 := H9.cell 1
          have r3 := H9.cell 3
          have t1 := H9.frozen 1
          have t3 := H9.frozen 3
          have r5 := (G9.out.keep.cell (p := ⟨bA, oA + i * 5, none⟩) (Nat.lt_of_lt_of_le HX0.out.2 G8.out.keep.size) HBN.out.2).trans p5
          simp only [List.getElem?_toArray, List.getElem?_cons_zero, List.getElem?_cons_succ] at r1 r3
          refine hK.out _ _ (fun _ _ => ⟨r1, r3, r5⟩) ?_
          clear hK K g9 h9 o9 H9
          try simp only [Act.put, List.setIfInBounds_toArray, List.set_cons_zero, List.set_cons_succ]
          refine wpAnyX_take (i := 20) (v := ?_) (by simp only [List.getElem?_toArray, List.getElem?_cons_succ, List.getElem?_cons_zero]; exact rfl) (by kernel_rfl) (by kernel_rfl) (by kernel_rfl) (fun _ _ _ h => h) (Or.inl ⟨by rfl, ?_⟩) ?_
          rotate_left
          · (intro w _; go_simp; try with_reducible rfl)
          try simp only [Act.put, List.setIfInBounds_toArray, List.set_cons_zero, List.set_cons_succ]
          refine wpAnyX_take (i := 21) (v := ?_) (by simp only [List.getElem?_toArray, List.getElem?_cons_succ, List.getElem?_cons_zero]; exact rfl) (by kernel_rfl) (by kernel_rfl) (by kernel_rfl) (fun _ _ _ h => h) (Or.inl ⟨by rfl, ?_⟩) ?_
          rotate_left
          · (intro w _; go_simp; try with_reducible rfl)
          try simp only [Act.put, List.setIfInBounds_toArray, List.set_cons_zero, List.set_cons_succ]
          refine wpAnyX_ready (rs := [22]) (by kernel_rfl) (by simp) ?_
          refine ReadyX.cons (by simp only [List.getElem?_toArray, List.getElem?_cons_succ, List.getElem?_cons_zero]; exact rfl) (fun K hK => ?_) ?_
          · go_simp
            refine hK.out _ _ (fun h => nomatch (show true = false from h)) ?_
            clear hK K
            refine wpAnyX_take (i := 23) (v := ?_) (by simp only [List.getElem?_toArray, List.getElem?_cons_succ, List.getElem?_cons_zero]; exact rfl) (by kernel_rfl) (by kernel_rfl) (by kernel_rfl) (fun _ _ _ h => h) (Or.inl ⟨by rfl, ?_⟩) ?_
            rotate_left
            · (intro w _; go_simp; try with_reducible rfl)
            try simp only [Act.put, List.setIfInBounds_toArray, List.set_cons_zero, List.set_cons_succ]
            refine wpAnyX_take (i := 24) (v := ?_) (by simp only [List.getElem?_toArray, List.getElem?_cons_succ, List.getElem?_cons_zero]; exact rfl) (by kernel_rfl) (by kernel_rfl) (by kernel_rfl) (fun _ _ _ h => h) (Or.inl ⟨by rfl, ?_⟩) ?_
            rotate_left
            · (intro w _; go_simp; try with_reducible rfl)
            try simp only [Act.put, List.setIfInBounds_toArray, List.set_cons_zero, List.set_cons_succ]
            refine wpAnyX_ready (rs := [25]) (by kernel_rfl) (by simp) ?_
            refine ReadyX.cons (by simp only [List.getElem?_toArray, List.getElem?_cons_succ, List.getElem?_cons_zero]; exact rfl) (fun K hK => ?_) ?_
            · go_simp
              refine hK.out _ _ (fun h => nomatch (show true = false from h)) ?_
              clear hK K
              refine wpAnyX_done (by kernel_rfl) ?_ _
              show Q .normal _ _
              exact HQ.out _ _ _ _ _ _ _ _ _ _ _ _ _ _ _ _ _ _ _ _ _ _ _ _ _ _ _ _ _ ⟨_, _, G8.out, O8.out, G9.out, O9.out, rfl⟩
            exact ReadyX.nil
          exact ReadyX.nil
        exact ReadyX.nil
      exact ReadyX.nil
    refine ReadyX.cons (by simp only [List.getElem?_toArray, List.getElem?_cons_succ, List.getElem?_cons_zero]; exact rfl) (fun K hK => ?_) ?_
    · go_simp
      refine hK.out _ _ (fun _ _ => HSJ.out.2.2.1) ?_
      clear hK K
      try simp only [Act.put, List.setIfInBounds_toArray, List.set_cons_zero, List.set_cons_succ]
      refine wpAnyX_ready (rs := [12]) (by kernel_rfl) (by simp) ?_
      refine ReadyX.cons (by simp only [List.getElem?_toArray, List.getElem?_cons_succ, List.getElem?_cons_zero]; exact rfl) (fun K hK => ?_) ?_
      · refine step_appI (by rfl) _ _ (by rfl) (by rfl) vn G.nums.length G.nums (by rfl) ((J7.out.nums.alloc _).alloc _) N _ (by rfl) HMM.out.2.1 (by omega) ?_
        intro A8 c8 w8 o8 g8 h8
        have G8 := Lib.hid (grew (w := wn) HDD.out.2.1 g8 h8)
        have O8 := Lib.hid o8
        have T8 := Lib.hid (own_keepF J7.out.texts G8.out.keep (types_ne J7.out.texts J7.out.nums (by decide)))
        have p1 := (G8.out.keep.cell (p := ⟨jb, 1, none⟩) HLT.out HJN.out.1).trans J7.out.cells.2.1
        have p3 := (G8.out.keep.cell (p := ⟨jb, 3, none⟩) HLT.out HJN.out.1).trans J7.out.cells.2.2.2.1
        have p5 := (G8.out.keep.cell (p := ⟨bA, oA + i * 5, none⟩) HX0.out.2 HBN.out.1).trans HX0.out.1
        have nB : w8.cell? ⟨wn.heap.size + 1, 0, none⟩ = some (.string s) := (cell_keep g8 HVN.out (Nat.le_succ _) (by simp)).trans HSS2.out.1
        refine hK.out _ _ (fun _ _ => ⟨p1, p3, p5⟩) ?_
        clear hK K g8 h8 o8
        try simp only [Act.put, List.setIfInBounds_toArray, List.set_cons_zero, List.set_cons_succ]
        refine wpAnyX_ready (rs := [19]) (by kernel_rfl) (by simp) ?_
        refine ReadyX.cons (by simp only [List.getElem?_toArray, List.getElem?_cons_succ, List.getElem?_cons_zero]; exact rfl) (fun K hK => ?_) ?_
        · refine step_appS (by rfl) _ _ (by rfl) (by rfl) vt G.texts.length G.texts (by rfl) (T8.out) T _ (by rfl) (by rw [HSZ.out]; assumption) (by omega) ?_
          intro A9 c9 w9 o9 g9 h9
          have G9 := Lib.hid (grew (w := w8) (Below.refl _ _) g9 h9)
          have O9 := Lib.hid o9
          have K9 := Lib.hid ((G8.out.keep.more (G := ob vn ++ ob vt) (fun _ hk => List.mem_append_left _ hk)).trans (G9.out.keep.more (fun _ hk => List.mem_append_right _ hk)))
          have H9 : Blk w9 jb 75 _ := (K9.out.block jb HLT.out (fun hm => by rcases List.mem_append.1 hm with hm | hm; exact HJN.out.1 hm; exact HJN.out.2 hm)).trans J7.out.head
          have r1 := H9.cell 1
          have r3 := H9.cell 3
          have t1 := H9.frozen 1
          have t3 := H9.frozen 3
          have r5 := (G9.out.keep.cell (p := ⟨bA, oA + i * 5, none⟩) (Nat.lt_of_lt_of_le HX0.out.2 G8.out.keep.size) HBN.out.2).trans p5
          simp only [List.getElem?_toArray, List.getElem?_cons_zero, List.getElem?_cons_succ] at r1 r3
          refine hK.out _ _ (fun _ _ => ⟨r1, r3, r5⟩) ?_
          clear hK K g9 h9 o9 H9
          try simp only [Act.put, List.setIfInBounds_toArray, List.set_cons_zero, List.set_cons_succ]
          refine wpAnyX_take (i := 20) (v := ?_) (by simp only [List.getElem?_toArray, List.getElem?_cons_succ, List.getElem?_cons_zero]; exact rfl) (by kernel_rfl) (by kernel_rfl) (by kernel_rfl) (fun _ _ _ h => h) (Or.inl ⟨by rfl, ?_⟩) ?_
          rotate_left
          · (intro w _; go_simp; try with_reducible rfl)
          try simp only [Act.put, List.setIfInBounds_toArray, List.set_cons_zero, List.set_cons_succ]
          refine wpAnyX_take (i := 21) (v := ?_) (by simp only [List.getElem?_toArray, List.getElem?_cons_succ, List.getElem?_cons_zero]; exact rfl) (by kernel_rfl) (by kernel_rfl) (by kernel_rfl) (fun _ _ _ h => h) (Or.inl ⟨by rfl, ?_⟩) ?_
          rotate_left
          · (intro w _; go_simp; try with_reducible rfl)
          try simp only [Act.put, List.setIfInBounds_toArray, List.set_cons_zero, List.set_cons_succ]
          refine wpAnyX_ready (rs := [22]) (by kernel_rfl) (by simp) ?_
          refine ReadyX.cons (by simp only [List.getElem?_toArray, List.getElem?_cons_succ, List.getElem?_cons_zero]; exact rfl) (fun K hK => ?_) ?_
          · go_simp
            refine hK.out _ _ (fun h => nomatch (show true = false from h)) ?_
            clear hK K
            refine wpAnyX_take (i := 23) (v := ?_) (by simp only [List.getElem?_toArray, List.getElem?_cons_succ, List.getElem?_cons_zero]; exact rfl) (by kernel_rfl) (by kernel_rfl) (by kernel_rfl) (fun _ _ _ h => h) (Or.inl ⟨by rfl, ?_⟩) ?_
            rotate_left
            · (intro w _; go_simp; try with_reducible rfl)
            try simp only [Act.put, List.setIfInBounds_toArray, List.set_cons_zero, List.set_cons_succ]
            refine wpAnyX_take (i := 24) (v := ?_) (by simp only [List.getElem?_toArray, List.getElem?_cons_succ, List.getElem?_cons_zero]; exact rfl) (by kernel_rfl) (by kernel_rfl) (by kernel_rfl) (fun _ _ _ h => h) (Or.inl ⟨by rfl, ?_⟩) ?_
            rotate_left
            · (intro w _; go_simp; try with_reducible rfl)
            try simp only [Act.put, List.setIfInBounds_toArray, List.set_cons_zero, List.set_cons_succ]
            refine wpAnyX_ready (rs := [25]) (by kernel_rfl) (by simp) ?_
            refine ReadyX.cons (by simp only [List.getElem?_toArray, List.getElem?_cons_succ, List.getElem?_cons_zero]; exact rfl) (fun K hK => ?_) ?_
            · go_simp
              refine hK.out _ _ (fun h => nomatch (show true = false from h)) ?_
              clear hK K
              refine wpAnyX_done (by kernel_rfl) ?_ _
              show Q .normal _ _
              exact HQ.out _ _ _ _ _ _ _ _ _ _ _ _ _ _ _ _ _ _ _ _ _ _ _ _ _ _ _ _ _ ⟨_, _, G8.out, O8.out, G9.out, O9.out, rfl⟩
            exact ReadyX.nil
          exact ReadyX.nil
        exact ReadyX.nil
      exact ReadyX.nil
    exact ReadyX.nil
  refine ReadyX.cons (by simp only [List.getElem?_toArray, List.getElem?_cons_succ, List.getElem?_cons_zero]; exact rfl) (fun K hK => ?_) ?_
  · go_simp
    refine hK.out _ _ (fun _ _ => HSJ.out.2.1) ?_
    clear hK K
    try simp only [Act.put, List.setIfInBounds_toArray, List.set_cons_zero, List.set_cons_succ]
    refine wpAnyX_ready (rs := [11]) (by kernel_rfl) (by simp) ?_
    refine ReadyX.cons (by simp only [List.getElem?_toArray, List.getElem?_cons_succ, List.getElem?_cons_zero]; exact rfl) (fun K hK => ?_) ?_
    · go_simp
      refine hK.out _ _ (fun _ _ => HSJ.out.2.2.2) ?_
      clear hK K
      try simp only [Act.put, List.setIfInBounds_toArray, List.set_cons_zero, List.set_cons_succ]
      refine wpAnyX_ready (rs := [12]) (by kernel_rfl) (by simp) ?_
      refine ReadyX.cons (by simp only [List.getElem?_toArray, List.getElem?_cons_succ, List.getElem?_cons_zero]; exact rfl) (fun K hK => ?_) ?_
      · refine step_appI (by rfl) _ _ (by rfl) (by rfl) vn G.nums.length G.nums (by rfl) ((J7.out.nums.alloc _).alloc _) N _ (by rfl) HMM.out.2.2 (by omega) ?_
        intro A8 c8 w8 o8 g8 h8
        have G8 := Lib.hid (grew (w := wn) HDD.out.2.2 g8 h8)
        have O8 := Lib.hid o8
        have T8 := Lib.hid (own_keepF J7.out.texts G8.out.keep (types_ne J7.out.texts J7.out.nums (by decide)))
        have p1 := (G8.out.keep.cell (p := ⟨jb, 1, none⟩) HLT.out HJN.out.1).trans J7.out.cells.2.1
        have p3 := (G8.out.keep.cell (p := ⟨jb, 3, none⟩) HLT.out HJN.out.1).trans J7.out.cells.2.2.2.1
        have p5 := (G8.out.keep.cell (p := ⟨bA, oA + i * 5, none⟩) HX0.out.2 HBN.out.1).trans HX0.out.1
        have nB : w8.cell? ⟨wn.heap.size, 0, none⟩ = some (.string s) := (cell_keep g8 HVN.out (Nat.le_refl _) (by simp <;> omega)).trans HSS2.out.2
        refine hK.out _ _ (fun _ _ => ⟨p1, p3, p5⟩) ?_
        clear hK K g8 h8 o8
        try simp only [Act.put, List.setIfInBounds_toArray, List.set_cons_zero, List.set_cons_succ]
        refine wpAnyX_ready (rs := [19]) (by kernel_rfl) (by simp) ?_
        refine ReadyX.cons (by simp only [List.getElem?_toArray, List.getElem?_cons_succ, List.getElem?_cons_zero]; exact rfl) (fun K hK => ?_) ?_
        · refine step_appS (by rfl) _ _ (by rfl) (by rfl) vt G.texts.length G.texts (by rfl) (T8.out) T _ (by rfl) (by rw [HSZ.out]; assumption) (by omega) ?_
          intro A9 c9 w9 o9 g9 h9
          have G9 := Lib.hid (grew (w := w8) (Below.refl _ _) g9 h9)
          have O9 := Lib.hid o9
          have K9 := Lib.hid ((G8.out.keep.more (G := ob vn ++ ob vt) (fun _ hk => List.mem_append_left _ hk)).trans (G9.out.keep.more (fun _ hk => List.mem_append_right _ hk)))
          have H9 : Blk w9 jb 75 _ := (K9.out.block jb HLT.out (fun hm => by rcases List.mem_append.1 hm with hm | hm; exact HJN.out.1 hm; exact HJN.out.2 hm)).trans J7.out.head
          have r1 := H9.cell 1
          have r3 := H9.cell 3
          have t1 := H9.frozen 1
          have t3 := H9.frozen 3
          have r5 := (G9.out.keep.cell (p := ⟨bA, oA + i * 5, none⟩) (Nat.lt_of_lt_of_le HX0.out.2 G8.out.keep.size) HBN.out.2).trans p5
          simp only [List.getElem?_toArray, List.getElem?_cons_zero, List.getElem?_cons_succ] at r1 r3
          refine hK.out _ _ (fun _ _ => ⟨r1, r3, r5⟩) ?_
          clear hK K g9 h9 o9 H9
          try simp only [Act.put, List.setIfInBounds_toArray, List.set_cons_zero, List.set_cons_succ]
          refine wpAnyX_take (i := 20) (v := ?_) (by simp only [List.getElem?_toArray, List.getElem?_cons_succ, List.getElem?_cons_zero]; exact rfl) (by kernel_rfl) (by kernel_rfl) (by kernel_rfl) (fun _ _ _ h => h) (Or.inl ⟨by rfl, ?_⟩) ?_
          rotate_left
          · (intro w _; go_simp; try with_reducible rfl)
          try simp only [Act.put, List.setIfInBounds_toArray, List.set_cons_zero, List.set_cons_succ]
          refine wpAnyX_take (i := 21) (v := ?_) (by simp only [List.getElem?_toArray, List.getElem?_cons_succ, List.getElem?_cons_zero]; exact rfl) (by kernel_rfl) (by kernel_rfl) (by kernel_rfl) (fun _ _ _ h => h) (Or.inl ⟨by rfl, ?_⟩) ?_
          rotate_left
          · (intro w _; go_simp; try with_reducible rfl)
          try simp only [Act.put, List.setIfInBounds_toArray, List.set_cons_zero, List.set_cons_succ]
          refine wpAnyX_ready (rs := [22]) (by kernel_rfl) (by simp) ?_
          refine ReadyX.cons (by simp only [List.getElem?_toArray, List.getElem?_cons_succ, List.getElem?_cons_zero]; exact rfl) (fun K hK => ?_) ?_
          · go_simp
            refine hK.out _ _ (fun h => nomatch (show true = false from h)) ?_
            clear hK K
            refine wpAnyX_take (i := 23) (v := ?_) (by simp only [List.getElem?_toArray, List.getElem?_cons_succ, List.getElem?_cons_zero]; exact rfl) (by kernel_rfl) (by kernel_rfl) (by kernel_rfl) (fun _ _ _ h => h) (Or.inl ⟨by rfl, ?_⟩) ?_
            rotate_left
            · (intro w _; go_simp; try with_reducible rfl)
            try simp only [Act.put, List.setIfInBounds_toArray, List.set_cons_zero, List.set_cons_succ]
            refine wpAnyX_take (i := 24) (v := ?_) (by simp only [List.getElem?_toArray, List.getElem?_cons_succ, List.getElem?_cons_zero]; exact rfl) (by kernel_rfl) (by kernel_rfl) (by kernel_rfl) (fun _ _ _ h => h) (Or.inl ⟨by rfl, ?_⟩) ?_
            rotate_left
            · (intro w _; go_simp; try with_reducible rfl)
            try simp only [Act.put, List.setIfInBounds_toArray, List.set_cons_zero, List.set_cons_succ]
            refine wpAnyX_ready (rs := [25]) (by kernel_rfl) (by simp) ?_
            refine ReadyX.cons (by simp only [List.getElem?_toArray, List.getElem?_cons_succ, List.getElem?_cons_zero]; exact rfl) (fun K hK => ?_) ?_
            · go_simp
              refine hK.out _ _ (fun h => nomatch (show true = false from h)) ?_
              clear hK K
              refine wpAnyX_done (by kernel_rfl) ?_ _
              show Q .normal _ _
              exact HQ.out _ _ _ _ _ _ _ _ _ _ _ _ _ _ _ _ _ _ _ _ _ _ _ _ _ _ _ _ _ ⟨_, _, G8.out, O8.out, G9.out, O9.out, rfl⟩
            exact ReadyX.nil
          exact ReadyX.nil
        exact ReadyX.nil
      exact ReadyX.nil
    exact ReadyX.nil
  exact ReadyX.nil
end Go.Proofs.YtddpjahoeldleaaGreatDoor
