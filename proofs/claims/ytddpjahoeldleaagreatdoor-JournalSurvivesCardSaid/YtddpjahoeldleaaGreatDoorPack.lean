/- Pack: the sectors of a record as strings. -/
import Derived.Test.YtddpjahoeldleaaGreatDoorParts
import Derived.RangeFuncFrom
import Derived.RangeFuncNested
import Derived.Maps.AppendAt
namespace Go.Proofs.YtddpjahoeldleaaGreatDoor
open Go.RowKit Go.Shelf
attribute [local go_sem] Oper.semAt_some

abbrev Sec := { x : Bs // x.length = 64 }
theorem parts_stops (n : Nat) (hn : 1 ≤ n) (q1 q2 n₀ : Nat) (s : ByteArray) (nb : Nat) (h2 : s.size ≤ 8000) (hnb : nb ≤ 4096) (w : World) (hn0 : 2 < n₀) (hq1 : q1 < w.heap.size) (hq2 : q2 < w.heap.size) (hn1 : n₀ ≤ w.heap.size) (hk : Consts w)
    (hT : w.cell? ⟨q1, 0, none⟩ = some (.string s)) (hM : w.cell? ⟨q2, 0, none⟩ = some (.int .i64 (nb : Int))) :
    SeqStopsK Fence.wide n Tryz.prog 90 #[.pointer (some ⟨q1, 0, none⟩), .pointer (some ⟨q2, 0, none⟩)] (fun x : Sec => #[Value.agg (rowB 64 x.1)]) (KpC n₀ q1 q2) (fun ys => ys.map Subtype.val = packB nb s.data.toList) (fun _ => True) (countN s.size) w := fun l J Jx W hW hJ _ hY h0 => by
  have := parts1_in n hn l q1 q2 n₀ s nb h2 hnb (fun pre W => ∃ ps : List Sec, ps.map Subtype.val = pre ∧ J ps W) (fun _ W => ∃ ps : List Sec, Jx ps W) W
    (fun _ A B row hs hg hr => by obtain ⟨ps, e, h⟩ := hs; exact ⟨ps, e, hJ ps A B row h hg hr⟩)
    (fun pre x W1 hJp hx hlen => by
      obtain ⟨ps, rfl, hp⟩ := hJp
      refine (hY ps ⟨x, hx⟩ W1 hp (by rwa [List.length_map] at hlen)).mono ?_
      rintro e W' (⟨he, h1, h2⟩ | ⟨he, h1⟩)
      · exact .inl ⟨he, ⟨_, by rw [List.map_append]; rfl, h1⟩, h2⟩
      · exact .inr ⟨he, _, h1⟩)
    hn0 (Nat.lt_of_lt_of_le hq1 hW.size) (Nat.lt_of_lt_of_le hq2 hW.size) (Nat.le_trans hn1 hW.size) (hk.below hW) ((hW.cell (p := ⟨q1, 0, none⟩) hq1).trans hT) ((hW.cell (p := ⟨q2, 0, none⟩) hq2).trans hM) ⟨[], rfl, h0⟩
  refine this.mono ?_
  rintro e W' ⟨he, ⟨ys, rfl, ps, e2, hp⟩ | ⟨pre, _, ps, hp⟩⟩
  · exact ⟨he, .inl ⟨ps, e2, hp⟩⟩
  · exact ⟨he, .inr ⟨ps, trivial, hp⟩⟩
theorem wpIn_append_run {F : Fence} {n : Nat} {P : Program} {o : Oper} {a : Act} {w : World} {K : Act → World → Prop} {Q : Exit → Act → World → Prop} (s x : Operand) (t : TypeId) (hop : o.op = Op.call { callee := Callee.builtin Builtin.append, args := #[s, x], argTypes := #[t, t] })
    (v vs : Value) (hs : a.eval s = v) (hx : a.eval x = vs) (v' : Value) (w' : World) (hrun : (Builtin.append_ #[t, t] o.type #[v, vs]).run P w = .ok v' w') (h : K (a.put o.dst v') w') : o.wpIn F n P a w K Q := by
  unfold Oper.wpIn
  refine ⟨?_, ?_⟩
  · simp [Oper.about, hop, resolve, Target.leads, Sem.run_pure]
  · rw [Oper.semAt_plain F _ _ (by rw [hop]; intro c hc'; cases hc')]
    simp [execOp, hop, resolve, invoke, builtin, hs, hx, hrun, Result.andThen]
    exact h
theorem keeps_of_below {W W' : World} (h : Below W.heap.size W W') : KeepsOthers W W' := ⟨h.size, fun k _ hk _ => (h.block k (Array.getElem?_eq_some_iff.1 hk).1).trans hk⟩
theorem own_base {W : World} {base base' : Nat} {e : TypeId} {size : Nat} {v : Value} {k : Nat} {xs : List Value} (h : W.ownsRow base e size v k xs) (hb : base' ≤ base) : W.ownsRow base' e size v k xs := by
  refine ⟨h.1, ?_⟩
  rcases h.2 with hn | ⟨g, cap, cur, hv, hbg, rest⟩
  · exact .inl hn
  · exact .inr ⟨g, cap, cur, hv, Nat.le_trans hb hbg, rest⟩
theorem blk_own {B Bx lo : Nat} {T : TypeId} {cs : Array Value} {pr : Prop} : OwnFrom B (fun (_ : Unit) (W : World) => lo ≤ Bx ∧ Blk W Bx T cs ∧ pr) := fun _ W W' row hs hg hr => by
  obtain ⟨h1, h2, h3⟩ := hs
  refine ⟨h1, (hg.block Bx h2.lt ?_).trans h2, h3⟩
  intro e
  obtain ⟨_, o, ho, hc⟩ := hr Bx e.symm
  rw [show W.heap[Bx]? = _ from h2] at ho
  cases ho
  cases hc

set_option maxHeartbeats 1000000 in
theorem parts_any (nb : Int) (s : ByteArray) (w : World) :
    Calls Tryz.prog 74 #[.int .i64 nb, .string s] w (fun e w' => e = .returned (.func (.func 90) #[] #[.pointer (some ⟨w.heap.size + 1, 0, none⟩), .pointer (some ⟨w.heap.size, 0, none⟩)]) ∧ w' = (w.alloc (.cells #[.int .i64 nb] 3)).alloc (.cells #[.string s] 9)) := by
  go_enter Tryz.func74, Tryz.ntmps74
  go_wp2_with fail
  go_ret
  exact ⟨rfl, rfl⟩

set_option maxRecDepth 100000 in
set_option maxHeartbeats 2000000 in
theorem pack_any (nb : Nat) (s : ByteArray) (w : World) (hk : Consts w) (h0 : 1 ≤ nb) (h1 : nb ≤ 4096) (h2 : s.size ≤ 8000) :
    Calls Tryz.prog 40 #[.int .i64 (nb : Int), .string s] w (PackPost (packB nb s.data.toList) 0 w) := by
  refine (callsIn_wide (n := 8)).1 ?_
  have hF : Fence.wide.fn 90 := trivial
  have hF0 : Fence.wide.fn 74 := trivial
  have n1 : (1 : Int) ≤ (nb : Int) := by omega
  have n2 : (nb : Int) ≤ 4096 := by omega
  have s1 : (s.size : Int) ≤ 8000 := by omega
  have HK := Lib.hid hk
  refine callsIn_of_wp_marks Tryz.func40 rfl trivial ?_ rfl
  simp only [Tryz.ntmps40, List.size_toArray, List.length_cons, List.length_nil, Nat.reduceAdd, Nat.reduceSub, Array.replicate_succ, Array.replicate_zero, List.push_toArray, List.append_toArray, List.nil_append, List.cons_append]
  gi_wp2_with (gi_at_call 74; refine (callsIn_wide.2 (parts_any _ _ _)).mono ?_; rintro e w' ⟨rfl, rfl⟩)
  have bO := ((Boxed.new w 28 (.slice none 0 0)).alloc (.cells #[.int .i64 (nb : Int)] 3)).alloc (.cells #[.string s] 9)
  have bM := (Boxed.new (w.alloc (.cells #[.slice none 0 0] 28)) 3 (.int .i64 (nb : Int))).alloc (.cells #[.string s] 9)
  have bT := Boxed.new ((w.alloc (.cells #[.slice none 0 0] 28)).alloc (.cells #[.int .i64 (nb : Int)] 3)) 9 (.string s)
  simp only [World.size_alloc] at bM bT
  have hB0 : Below w.heap.size w (((w.alloc (.cells #[.slice none 0 0] 28)).alloc (.cells #[.int .i64 (nb : Int)] 3)).alloc (.cells #[.string s] 9)) := (((Below.refl _ w).alloc (Nat.le_refl _) _).alloc (by simp) _).alloc (by simp; omega) _
  have hsz : (((w.alloc (.cells #[.slice none 0 0] 28)).alloc (.cells #[.int .i64 (nb : Int)] 3)).alloc (.cells #[.string s] 9)).heap.size = w.heap.size + 3 := by simp
  obtain ⟨W0, hW0⟩ : ∃ W0, ((w.alloc (.cells #[.slice none 0 0] 28)).alloc (.cells #[.int .i64 (nb : Int)] 3)).alloc (.cells #[.string s] 9) = W0 := ⟨_, rfl⟩
  rw [hW0] at bO bM bT hB0 hsz ⊢
  clear hW0
  have hk2 := hk.lt
  have h1' : 1 ≤ 8 := by omega
  refine wpIn_rangeFunc_ownH (w0 := W0) rfl h1' (gf := 90) (lb := #[.pointer (some ⟨w.heap.size + 1 + 1, 0, none⟩), .pointer (some ⟨w.heap.size + 1, 0, none⟩)]) rfl hF (enters_of Tryz.func90 (by kernel_rfl) rfl)
    (parts_stops (8 - 1) (by omega) (w.heap.size + 1 + 1) (w.heap.size + 1) w.heap.size s nb h2 h1 W0 hk2 (by omega) (by omega) (by omega) (hk.below hB0) bT.cell bM.cell) (fun h k => h.trans k) (fun W l o o' hl hg hc hw => KpC.put (w := W0) (by omega) (by omega) (by omega) hl hg hc hw) (Below.refl _ _) (fun _ => rfl)
    (fun pre W => (∃ v, Boxed W w.heap.size 28 v ∧ W.ownsRow (w.heap.size + 3) 9 1 v pre.length (strCells (pre.map Subtype.val)) ∧ True) ∧ (Below w.heap.size w W ∧ w.heap.size + 3 ≤ W.heap.size))
    (fun _ _ _ => False)
    (OwnFrom.and (Own.from (holdsRow_own (w.heap.size + 3) w.heap.size 28 9 1 (fun pre : List Sec => pre.length) (fun pre => strCells (pre.map Subtype.val)) (fun _ _ => True)) _) (OwnFrom.and (ownFrom_below (Nat.le_refl _) (by omega)) (fun _ W W' _ h hg _ => Nat.le_trans h hg.size)))
    (fun _ _ _ _ _ hs _ _ => hs)
    ⟨⟨_, bO, World.ownsRow_nil _ _ _ _, trivial⟩, hB0, by omega⟩
    (fun x a' W => ∃ Bx, w.heap.size + 3 ≤ Bx ∧ Blk W Bx 83 (rowB 64 x.1) ∧ a' = { tmps := #[.int .i64 (nb : Int), .string s, undef, undef, .slice none 0 0, .int .i64 0, .pointer (some ⟨w.heap.size, 0, none⟩), .pointer (some ⟨Bx, 0, none⟩), .bool (decide ((nb : Int) < 1) || decide ((4096 : Int) < (nb : Int))), .int .i64 (nb : Int), .bool (decide ((nb : Int) < 1)), .bool (decide ((nb : Int) < 1)), .int .i64 (nb : Int), .bool (decide ((4096 : Int) < (nb : Int))), .bool (decide ((nb : Int) < 1) || decide ((4096 : Int) < (nb : Int))), .bool (decide ((8000 : Int) < (s.size : Int))), .string s, .int .i64 (s.size : Int), .bool (decide ((8000 : Int) < (s.size : Int))), .int .i64 (nb : Int), .string s, .func (.func 90) #[] #[.pointer (some ⟨w.heap.size + 1 + 1, 0, none⟩), .pointer (some ⟨w.heap.size + 1, 0, none⟩)], .agg (rowB 64 x.1), undef, undef, undef, undef, undef, undef], defers := [] })
    (fun x a' _ X Y row hs hg hr => by obtain ⟨Bx, hh⟩ := hs; exact ⟨Bx, blk_own () X Y row hh hg hr⟩)
    ?assign ?body ?done ?stop
  case assign =>
    rintro l pre x W K ⟨⟨v, bO1, own1, _⟩, hB1, hgz⟩ hK
    obtain ⟨hzs, hss⟩ := zero_of_info infoSector
    obtain ⟨ZS, hZS⟩ : ∃ ZS, ZS = rowB 64 [] := ⟨_, rfl⟩
    rw [← hZS] at hzs
    obtain ⟨RS, hRS⟩ : ∃ RS, RS = rowB 64 x.1 := ⟨_, rfl⟩
    have sRS : RS.size = 64 := by rw [hRS]; exact rowB_size (by rw [x.2]; exact Nat.le_refl _)
    have HI1 := Lib.hid (show (Tryz.prog.info? 83).map (·.size) = some RS.size by rw [sRS]; exact hss)
    have HZ1 := Lib.hid (show ZS.size = RS.size by rw [sRS, hZS]; rfl)
    have HO1 := Lib.hid (show RS.all (·.oneCell') = true by rw [hRS]; exact rowB_one _ _)
    obtain ⟨q, hq⟩ : ∃ q, q = W.heap.size := ⟨_, rfl⟩
    have Bq := Blk.new W 83 ZS
    rw [← hq] at Bq
    have HM := Lib.hid (show (W.alloc (.cells ZS 83)).heap[q]? = some (.cells ZS 83 (0, 0)) from Bq)
    obtain ⟨W1, hW1⟩ : ∃ W1, W1 = (W.alloc (.cells ZS 83)).setRow q RS := ⟨_, rfl⟩
    have hb1 : Below W.heap.size W W1 := by rw [hW1]; exact below_row (below_new W _) (by rw [hq]; exact Nat.le_refl _) RS
    have B1 : Blk W1 q 83 (rowB 64 x.1) := by rw [hW1, ← hRS]; exact Bq.put RS
    have KK := hK _ W1 ((keeps_of_below hb1).from _) (KpC.of_below hb1 (by omega) (by omega) (by omega)) ⟨⟨v, (hb1.block _ bO1.lt).trans bO1, own_below own1 hb1, trivial⟩, hB1.trans (hb1.mono hB1.size), Nat.le_trans hgz hb1.size⟩ ⟨q, by omega, B1, rfl⟩
    have HKK := Lib.hid KK
    have HQ := Lib.hid hq
    have HW1 := Lib.hid hW1
    have HRS := Lib.hid hRS
    clear KK hK hq hW1 hRS hZS hss sRS B1 hb1 Bq hB1 own1 bO1
    rw [← HRS.out]
    gi_wp2_with (first
      | (rw [← HQ.out]; refine wpListIn_store_row rfl 83 _ _ rfl q RS rfl rfl 83 ZS HM.out HI1.out HZ1.out HO1.out ?_; rw [← HW1.out]))
    rw [HRS.out]
    exact HKK.out
  case body =>
    rintro l pre x a' W hl ⟨r, hr⟩ ⟨⟨v, bO1, own1, _⟩, hB1, hgz⟩ ⟨Bx, hBx, bX, rfl⟩ hlt
    obtain ⟨A, cc, rfl, hcc⟩ := own_slice own1
    have hmix : Tryz.prog.follows .mixedOrders = true := by kernel_rfl
    have cO := bO1.cell
    obtain ⟨y, hy⟩ : ∃ y : ByteArray, y = ⟨x.1.toArray⟩ := ⟨_, rfl⟩
    have hcv : ∀ k, (convert 84 9 (.slice (some ⟨Bx, 0, none⟩) 64 64)).run Tryz.prog (W.drewN k) = .ok (.string y) (W.drewN k) := fun k => by
      have := rd_row (bX.drewN k) (off := 0) (n := 64) (by rw [x.2]; exact Nat.le_refl _)
      rw [List.drop_zero, List.take_of_length_le (by rw [x.2]; exact Nat.le_refl _)] at this
      rw [hy]; exact conv_rd this (by omega) 64
    have hcv1 : (convert 84 9 (.slice (some ⟨Bx, 0, none⟩) 64 64)).run Tryz.prog W.drew = .ok (.string y) W.drew := hcv 1
    obtain ⟨i0, hi, hz0, hz1, hz2⟩ := info_parts info9
    have hlen : pre.length ≤ 200 := by
      have : countN s.size ≤ 200 := by unfold countN; split <;> (try split) <;> omega
      omega
    obtain ⟨v', w1, hrun, own2, hgrow, _⟩ := run_append_own (P := Tryz.prog) (w := (W.alloc (.cells #[.string y] 9)).drew) (w.heap.size + 3) 28 28 9 i0 _ 1 16 Tryz.underlying28 hi hz0 hz1 hz2 rfl (by decide) (.slice A pre.length cc) pre.length _ (show (W.alloc (.cells #[.string y] 9)).drew.ownsRow (w.heap.size + 3) 9 1 (.slice A pre.length cc) pre.length (strCells (pre.map Subtype.val)) from own1.alloc _) ⟨W.heap.size, 0, none⟩ 1 1 [.string y] rfl (cells_one _ _ _) (fun u hu => by simp at hu; subst hu; rfl) (by unfold maxLen; omega) (by omega) (by show w.heap.size + 3 ≤ (W.alloc _).heap.size; simp; omega)
    obtain ⟨A', c', rfl, _⟩ := own_slice own2
    have hap := Boxed.appended (W := W.drew) (tmp := .cells #[.string y] 9) (n₀ := w.heap.size) (show Boxed W.drew w.heap.size 28 _ from bO1) (by decide) (show W.drew.ownsRow w.heap.size 9 1 _ _ _ from own_base own1 (by omega)) (by show w.heap.size ≤ W.heap.size; omega) (Nat.le_refl _) (own_base own2 (by omega)) hgrow
    obtain ⟨hv1, hv2, hr2, hk3, hb2⟩ := hap
    have cO1 := hv1.cell
    have fO1 := hv1.frozen
    gi_wp2_with fail
    have HRUN := Lib.hid hrun
    obtain ⟨Wf, hWf⟩ : ∃ Wf, Wf = w1.setCell ⟨w.heap.size, 0, none⟩ (.slice A' (pre.length + 1) c') := ⟨_, rfl⟩
    have hq : ∀ q, q < w.heap.size + 3 → q ≠ w.heap.size → Wf.heap[q]? = W.heap[q]? := fun q h1 h2 => by
      rw [hWf, Below.heap_setCell _ _ _ _ (by exact h2)]
      refine (hgrow.block q (by show q < (W.alloc _).heap.size; simp; omega) (fun e => by have := (own1.lt q e.symm).1; omega)).trans ?_
      exact heap_alloc_old W _ (by omega)
    have FIN := Lib.hid (show KeepsFrom W0.heap.size W Wf ∧ KpC w.heap.size (w.heap.size + 1 + 1) (w.heap.size + 1) W Wf ∧ ((∃ v, Boxed Wf w.heap.size 28 v ∧ Wf.ownsRow (w.heap.size + 3) 9 1 v (pre ++ [x]).length (strCells ((pre ++ [x]).map Subtype.val)) ∧ True) ∧ (Below w.heap.size w Wf ∧ w.heap.size + 3 ≤ Wf.heap.size)) by
      have hbf : Below w.heap.size W Wf := by rw [hWf]; exact ⟨hb2.os, hb2.tape, hb2.output, hb2.size, hb2.block⟩
      refine ⟨?_, ⟨hbf, hq _ (by omega) (by omega), hq _ (by omega) (by omega)⟩, ⟨_, by rw [hWf]; exact hv2, ?_, trivial⟩, hB1.trans hbf, Nat.le_trans hgz hbf.size⟩
      · rw [hWf]; exact ⟨hk3.size, fun k o _ hk ho => hk3.same k o hk ho⟩
      · have e1 : strCells ((pre ++ [x]).map Subtype.val) = strCells (pre.map Subtype.val) ++ [.string y] := by
          rw [List.map_append, hy]; exact strCells_snoc _ _
        rw [List.length_append, List.length_singleton, e1, hWf]
        exact own2.kept (grownBy_setCell' w1 w.heap.size _) (.inr (fun e => by have := (own2.lt w.heap.size e).1; omega)))
    have HWF := Lib.hid hWf
    have HY := Lib.hid hy
    have cO2 : W.drew.cell? ⟨w.heap.size, 0, none⟩ = some (.slice A pre.length cc) := cO
    have cO3 : (W.alloc (.cells #[.string y] 9)).drew.cell? ⟨w.heap.size, 0, none⟩ = some (.slice A pre.length cc) := (World.cell?_alloc_lt W _ ⟨w.heap.size, 0, none⟩ bO1.lt).trans cO
    clear hrun hy hcv hWf hq
    refine wpIn_region_any hmix ?_
    try (change wpAnyIn _ _ _ _ _ _ _ _ _ (World.drew _))
    refine wpAnyIn_ready (rs := [0, 1]) (by kernel_rfl) (by simp) ?_
    refine AllReadyIn.cons rfl (fun K hK => ?_) (AllReadyIn.cons rfl (fun K hK => ?_) AllReadyIn.nil)
    · go_simp
      refine hK _ _ ?_
      clear hK K
      refine wpAnyIn_ready (rs := [1]) (by kernel_rfl) (by simp) ?_
      refine AllReadyIn.cons rfl (fun K hK => ?_) AllReadyIn.nil
      go_simp
      refine hK _ _ ?_
      clear hK K
      refine wpAnyIn_ready (rs := [2]) (by kernel_rfl) (by simp) ?_
      refine AllReadyIn.cons rfl (fun K hK => ?_) AllReadyIn.nil
      go_simp
      refine hK _ _ ?_
      clear hK K
      refine wpAnyIn_ready (rs := [3]) (by kernel_rfl) (by simp) ?_
      refine AllReadyIn.cons rfl (fun K hK => ?_) AllReadyIn.nil
      go_simp
      refine hK _ _ ?_
      clear hK K
      refine wpAnyIn_ready (rs := [4]) (by kernel_rfl) (by simp) ?_
      refine AllReadyIn.cons rfl (fun K hK => ?_) AllReadyIn.nil
      refine wpIn_append_run _ _ _ rfl _ _ rfl rfl (.slice A' (pre.length + 1) c') w1 HRUN.out ?_
      refine hK _ _ ?_
      clear hK K
      simp only [Act.put, List.setIfInBounds_toArray]
      refine wpAnyIn_ready (rs := [5]) (by kernel_rfl) (by simp) ?_
      refine AllReadyIn.cons rfl (fun K hK => ?_) AllReadyIn.nil
      go_simp
      refine hK _ _ ?_
      clear hK K
      refine wpAnyIn_done (by kernel_rfl) ?_ _
      gi_wp2_with fail
      rw [← HWF.out]
      exact FIN.out
    · go_simp
      refine hK _ _ ?_
      clear hK K
      refine wpAnyIn_ready (rs := [0, 2]) (by kernel_rfl) (by simp) ?_
      refine AllReadyIn.cons rfl (fun K hK => ?_) (AllReadyIn.cons rfl (fun K hK => ?_) AllReadyIn.nil)
      · go_simp
        refine hK _ _ ?_
        clear hK K
        refine wpAnyIn_ready (rs := [2]) (by kernel_rfl) (by simp) ?_
        refine AllReadyIn.cons rfl (fun K hK => ?_) AllReadyIn.nil
        go_simp
        refine hK _ _ ?_
        clear hK K
        refine wpAnyIn_ready (rs := [3]) (by kernel_rfl) (by simp) ?_
        refine AllReadyIn.cons rfl (fun K hK => ?_) AllReadyIn.nil
        go_simp
        refine hK _ _ ?_
        clear hK K
        refine wpAnyIn_ready (rs := [4]) (by kernel_rfl) (by simp) ?_
        refine AllReadyIn.cons rfl (fun K hK => ?_) AllReadyIn.nil
        refine wpIn_append_run _ _ _ rfl _ _ rfl rfl (.slice A' (pre.length + 1) c') w1 HRUN.out ?_
        refine hK _ _ ?_
        clear hK K
        simp only [Act.put, List.setIfInBounds_toArray]
        refine wpAnyIn_ready (rs := [5]) (by kernel_rfl) (by simp) ?_
        refine AllReadyIn.cons rfl (fun K hK => ?_) AllReadyIn.nil
        go_simp
        refine hK _ _ ?_
        clear hK K
        refine wpAnyIn_done (by kernel_rfl) ?_ _
        gi_wp2_with fail
        rw [← HWF.out]
        exact FIN.out
      · go_simp
        refine hK _ _ ?_
        clear hK K
        refine wpAnyIn_ready (rs := [0, 3]) (by kernel_rfl) (by simp) ?_
        refine AllReadyIn.cons rfl (fun K hK => ?_) (AllReadyIn.cons rfl (fun K hK => ?_) AllReadyIn.nil)
        · go_simp
          refine hK _ _ ?_
          clear hK K
          refine wpAnyIn_ready (rs := [3]) (by kernel_rfl) (by simp) ?_
          refine AllReadyIn.cons rfl (fun K hK => ?_) AllReadyIn.nil
          go_simp
          refine hK _ _ ?_
          clear hK K
          refine wpAnyIn_ready (rs := [4]) (by kernel_rfl) (by simp) ?_
          refine AllReadyIn.cons rfl (fun K hK => ?_) AllReadyIn.nil
          refine wpIn_append_run _ _ _ rfl _ _ rfl rfl (.slice A' (pre.length + 1) c') w1 HRUN.out ?_
          refine hK _ _ ?_
          clear hK K
          simp only [Act.put, List.setIfInBounds_toArray]
          refine wpAnyIn_ready (rs := [5]) (by kernel_rfl) (by simp) ?_
          refine AllReadyIn.cons rfl (fun K hK => ?_) AllReadyIn.nil
          go_simp
          refine hK _ _ ?_
          clear hK K
          refine wpAnyIn_done (by kernel_rfl) ?_ _
          gi_wp2_with fail
          rw [← HWF.out]
          exact FIN.out
        · go_simp
          refine hK _ _ ?_
          clear hK K
          refine wpAnyIn_ready (rs := [0]) (by kernel_rfl) (by simp) ?_
          refine AllReadyIn.cons rfl (fun K hK => ?_) AllReadyIn.nil
          go_simp
          refine hK _ _ ?_
          clear hK K
          refine wpAnyIn_ready (rs := [4]) (by kernel_rfl) (by simp) ?_
          refine AllReadyIn.cons rfl (fun K hK => ?_) AllReadyIn.nil
          refine wpIn_append_run _ _ _ rfl _ _ rfl rfl (.slice A' (pre.length + 1) c') w1 HRUN.out ?_
          refine hK _ _ ?_
          clear hK K
          simp only [Act.put, List.setIfInBounds_toArray]
          refine wpAnyIn_ready (rs := [5]) (by kernel_rfl) (by simp) ?_
          refine AllReadyIn.cons rfl (fun K hK => ?_) AllReadyIn.nil
          go_simp
          refine hK _ _ ?_
          clear hK K
          refine wpAnyIn_done (by kernel_rfl) ?_ _
          gi_wp2_with fail
          rw [← HWF.out]
          exact FIN.out
  case done =>
    rintro D ys W hD hys ⟨⟨v, bO1, own1, _⟩, hB1, _⟩ hK
    have cN := bO1.cell
    obtain ⟨A, cc, rfl, hcc⟩ := own_slice own1
    have HYS := Lib.hid hys
    clear hys
    gi_wp2
    refine ⟨by simp, .inl ⟨_, _, rfl, run_takeDeferred hK, ?_⟩⟩
    have e1 : (packB nb s.data.toList).length = ys.length := by rw [← HYS.out, List.length_map]
    refine ⟨_, results_tmp2 rfl _ _ _, ⟨_, rfl, ?_, hB1.trans (belowK_b (w := w) (Nat.le_refl _) W D _ _ (by omega) hK rfl rfl)⟩⟩
    rw [e1, ← HYS.out]
    exact ownsRow_putObj (own_base own1 (by omega)) _ hK rfl
  case stop =>
    rintro D c pre W _ _ h _
    exact h.elim
set_option maxHeartbeats 1000000 in
theorem pack_bad (number : Int) (s : ByteArray) (w : World) (h : number < 1 ∨ 4096 < number) : Calls Tryz.prog 40 #[.int .i64 number, .string s] w (PackPost [] 1 w) := by
  rcases h with h | h
  · go_enter Tryz.func40, Tryz.ntmps40
    go_wp2_with fail
    go_ret2
    exact ⟨_, rfl, World.ownsRow_nil _ _ _ _, Below.refl _ _⟩
  · go_enter Tryz.func40, Tryz.ntmps40
    go_wp2_with fail
    go_ret2
    exact ⟨_, rfl, World.ownsRow_nil _ _ _ _, Below.refl _ _⟩
set_option maxHeartbeats 1000000 in
theorem pack_long (number : Int) (s : ByteArray) (w : World) (h0 : 1 ≤ number) (h1 : number ≤ 4096) (h : 8000 < s.size) : Calls Tryz.prog 40 #[.int .i64 number, .string s] w (PackPost [] 4 w) := by
  have h2 : (8000 : Int) < (s.size : Int) := by omega
  go_enter Tryz.func40, Tryz.ntmps40
  go_wp2_with fail
  go_ret2
  exact ⟨_, rfl, World.ownsRow_nil _ _ _ _, Below.refl _ _⟩
theorem packV_any (number : Int) (s : ByteArray) (w : World) (hk : Consts w) : Calls Tryz.prog 40 #[.int .i64 number, .string s] w (PackPost (packV number s.data.toList) (packE number s.data.toList) w) := by
  have hl := list_size s
  unfold packV packE
  by_cases h : number < 1 ∨ 4096 < number
  · rw [if_pos h, if_neg (by decide)]; exact pack_bad number s w h
  · rw [if_neg h]
    by_cases h2 : 8000 < s.data.toList.length
    · rw [if_pos h2, if_neg (by decide)]; exact pack_long number s w (by omega) (by omega) (by omega)
    · rw [if_neg h2, if_pos rfl]
      obtain ⟨nb, rfl⟩ := Int.eq_ofNat_of_zero_le (show 0 ≤ number by omega)
      rw [Int.toNat_natCast]
      exact pack_any nb s w hk (by omega) (by omega) (by omega)
end Go.Proofs.YtddpjahoeldleaaGreatDoor
