/- settle: a pending sector becomes durable, as far as its pick says. -/
import Derived.Test.YtddpjahoeldleaaGreatDoorDEq
import Derived.Laws.CopyRow
import Derived.Deep.MidRow
import Derived.Deep.RegionHeld3
import Derived.StillTailTactics
namespace Go.Proofs.YtddpjahoeldleaaGreatDoor.Dk
open Go.RowKit Go.Maps

def pq (p : Int) : Nat := (max 0 (min p 64)).toNat
def wornB (S : St) (i : Int) : Bool := match S.worn.atKey (kI i) (.lit (.bool false)) with
  | .lit (.bool b) => b
  | _ => false
def tornB (next old : Bs) (q : Nat) : Bs := next.take q ++ old.drop q
def settleS (S : St) (i : Nat) (p : Int) : St :=
  if wornB S i then { S with pend := S.pend.del (kI i) }
  else { S with pend := S.pend.del (kI i), bl := S.bl.set i (tornB (pendB S.pend i) (S.bl.getD i []) (pq p)) }

theorem zero4 (w : World) : (zeroValue 4).run Tryz.prog w = .ok (.bool false) w := by kernel_rfl
theorem plainElem_bool_inv {P : Program} {e : TypeId} (he : P.underlying e = some .bool) {v : Value} {z : Dt × List MemPlace} (h : plainElem P e v = some z) : ∃ a, v = .bool a ∧ z = (.lit (.bool a), []) := by
  unfold plainElem at h
  rw [he] at h
  cases v <;> simp at h
  exact ⟨_, rfl, h.symm⟩
theorem look_worn {w : World} {gw K : Nat} {S : St} (h : w.ownsMap Tryz.prog 3 (plainElem Tryz.prog 4) gw K S.worn) {i : Int} (h1 : -9223372036854775808 ≤ i) (h2 : i ≤ 9223372036854775807) :
    (Instr.lookup 63 (.map (some gw)) (.int .i64 i) false).run Tryz.prog w = .ok (.bool (wornB S i)) w := by
  obtain ⟨v, ps, hr, hv⟩ := h.lookup law3 Tryz.underlying63 (zero4 w) (plainElem_bool Tryz.underlying4 false) (key_i h1 h2)
  obtain ⟨b, rfl, hd⟩ := plainElem_bool_inv Tryz.underlying4 hv
  simp only [Prod.mk.injEq] at hd
  have e : wornB S i = b := by unfold wornB; rw [hd.1]
  rw [e]; exact hr
theorem rows_splice : ∀ (bl : List Bs) (_ : ∀ b ∈ bl, b.length = 64) (i q : Nat) (_ : q ≤ 64) (_ : i < bl.length) (nb : Bs) (_ : nb.length = 64),
    (rowsOf bl).take (i * 64) ++ (cellsOfB nb).take q ++ (rowsOf bl).drop (i * 64 + q) = rowsOf (bl.set i (tornB nb (bl.getD i []) q))
  | [], _, i, q, _, hi, _, _ => by simp at hi
  | b :: r, h, 0, q, hq, _, nb, hn => by
    have hb := h b (List.mem_cons_self ..)
    have e : ∀ (b : Bs) (r : List Bs), rowsOf (b :: r) = cellsOfB b ++ rowsOf r := fun _ _ => rfl
    have el : (cellsOfB b).length = 64 := by rw [cellsOfB, List.length_map, hb]
    rw [List.set_cons_zero, List.getD_cons_zero, e, e, Nat.zero_mul, List.take_zero, List.nil_append, Nat.zero_add, List.drop_append_of_le_length (by omega), ← List.append_assoc]
    congr 1
    rw [tornB, cellsOfB, cellsOfB, cellsOfB, List.map_append, List.map_take, List.map_drop]
  | b :: r, h, i + 1, q, hq, hi, nb, hn => by
    have hb := h b (List.mem_cons_self ..)
    have ih := rows_splice r (fun x hx => h x (List.mem_cons_of_mem _ hx)) i q hq (by simpa using hi) nb hn
    have e : ∀ (b : Bs) (r : List Bs), rowsOf (b :: r) = cellsOfB b ++ rowsOf r := fun _ _ => rfl
    have el : (cellsOfB b).length = 64 := by rw [cellsOfB, List.length_map, hb]
    rw [List.set_cons_succ, List.getD_cons_succ, e, e, ← ih, List.take_append, List.drop_append, el, List.take_of_length_le (by omega), List.drop_eq_nil_of_le (by omega), List.nil_append, show (i + 1) * 64 - 64 = i * 64 from by omega, show (i + 1) * 64 + q - 64 = i * 64 + q from by omega, List.append_assoc, List.append_assoc, List.append_assoc]
theorem torn_length {nb old : Bs} {q : Nat} (h1 : nb.length = 64) (h2 : old.length = 64) (hq : q ≤ 64) : (tornB nb old q).length = 64 := by
  rw [tornB, List.length_append, List.length_take, List.length_drop]; omega
theorem torn_same (b : Bs) (q : Nat) : tornB b b q = b := List.take_append_drop q b
theorem pq_le (p : Int) : pq p ≤ 64 := by unfold pq; omega
theorem setRow_block {w : World} {g : Nat} {cs cs' : Array Value} {t : TypeId} (h : w.heap[g]? = some (.cells cs t (0, 0))) : (w.setRow g cs').heap[g]? = some (.cells cs' t (0, 0)) := setRow_heap w g cs cs' t (0, 0) h
theorem DiskAt.setSector {w : World} {g gb gp gw K : Nat} {S : St} (h : DiskAt w g gb gp gw K S) {i q : Nat} (hi : i < S.bl.length) (hq : q ≤ 64) (nb : Bs) (hn : nb.length = 64) :
    DiskAt (w.setRow gb ((rowsOf S.bl ++ S.ext).toArray.toList.take (i * 64) ++ (cellsOfB nb).take q ++ (rowsOf S.bl ++ S.ext).toArray.toList.drop (i * 64 + ((cellsOfB nb).take q).length)).toArray) g gb gp gw K { S with bl := S.bl.set i (tornB nb (S.bl.getD i []) q) } := by
  have ha := h.apart
  have el : ((cellsOfB nb).take q).length = q := by rw [List.length_take, cellsOfB, List.length_map, hn]; omega
  have hl : (S.bl.set i (tornB nb (S.bl.getD i []) q)).length = S.bl.length := List.length_set
  have ho : (S.bl.getD i []).length = 64 := by
    rw [List.getD_eq_getElem?_getD, List.getElem?_eq_getElem hi, Option.getD_some]
    exact h.b64 _ (List.getElem_mem hi)
  refine ⟨?_, ?_, ?_, ownsMap_block h.pend (setRow_other _ _ _ _ (Ne.symm ha.2.2.1)), ownsMap_block h.worn (setRow_other _ _ _ _ (Ne.symm ha.2.2.2)), h.ne1, h.ne2, by rw [hl]; exact h.n1, by rw [hl]; exact h.n2, h.l1, h.l2⟩
  · rw [setRow_other _ _ _ _ h.ne1, h.head, hl]
  · have hrl := rows_length S.bl h.b64
    rw [setRow_block h.rows, el, List.toList_toArray, ← rows_splice S.bl h.b64 i q hq hi nb hn, List.take_append_of_le_length (by omega), List.drop_append_of_le_length (by omega)]
    simp only [List.append_assoc]
  · intro b hb
    rcases List.mem_or_eq_of_mem_set hb with hb | hb
    · exact h.b64 b hb
    · rw [hb]; exact torn_length hn ho hq

theorem wpStill_load_mid {P : Program} {ops : Array Oper} {rest : List Oper} {o : Oper} {a : Act} {w : World} {Q : Act → Prop} (hw : Region.wanted o (yielded ops a.tmps) = true) (ty : TypeId) (x : Operand) (ho : o.op = .load ty x)
    (b off : Nat) (hx : a.eval x = .pointer (some ⟨b, off, none⟩)) (cs : List Value) (d : TypeDesc) (hc : w.rangeAt b off cs)
    (hu : P.underlying ty = some d) (hd : d.isRow = true) (hi : (P.info? ty).map (·.size) = some cs.length) (h : wpStill P ops w Q rest (a.put o.dst (.agg cs.toArray))) : wpStill P ops w Q (o :: rest) a := by
  refine wpStill_step (fun K hK => ?_)
  rw [if_pos hw]
  unfold Oper.still execOp
  simp only [ho, hx, Instr.loadAt, Instr.sureAddr, Sem.run_bind, Sem.run_pure, Result.andThen_ok, run_loadVar_mid w b off ty cs d hc hu hd hi]
  exact ⟨rfl, hK _ h⟩
/-- the same behind a name, so that nobody looks into it -/
structure StillB (P : Program) (ops : Array Oper) (w : World) (Q : Act → Prop) (rest : List Oper) (a : Act) : Prop where
  out : wpStill P ops w Q rest a
theorem StillB.skip {P : Program} {ops : Array Oper} {rest : List Oper} {o : Oper} {a : Act} {w : World} {Q : Act → Prop} (hw : Region.wanted o (yielded ops a.tmps) = false) (h : StillB P ops w Q rest (a.put o.dst undef)) : StillB P ops w Q (o :: rest) a := by
  refine ⟨wpStill_step (fun K hK => ?_)⟩
  rw [hw]
  exact hK _ h.out
theorem StillB.nil {P : Program} {ops : Array Oper} {a : Act} {w : World} {Q : Act → Prop} (h : Q a) : StillB P ops w Q [] a := ⟨h⟩
theorem range_of_block {w : World} {b : Nat} {cs : List Value} {t : TypeId} {fr : Nat × Nat} (h : w.heap[b]? = some (.cells cs.toArray t fr)) : w.rangeAt b 0 cs := fun j v hv => by
  rw [Nat.zero_add, cell_of_row w b j cs.toArray t fr h]
  simpa using hv
theorem DiskAt.range {w : World} {g gb gp gw K : Nat} {S : St} (h : DiskAt w g gb gp gw K S) {i : Nat} (hi : i < S.bl.length) : w.rangeAt gb (i * 64) (cellsOfB (S.bl.getD i [])) := fun j v hv => by
  have ho : (S.bl.getD i []).length = 64 := by
    rw [List.getD_eq_getElem?_getD, List.getElem?_eq_getElem hi, Option.getD_some]
    exact h.b64 _ (List.getElem_mem hi)
  have hj : j < 64 := by
    have := (List.getElem?_eq_some_iff.1 hv).1
    rw [cellsOfB, List.length_map, ho] at this
    exact this
  rw [h.byte hi hj, ← hv, cellsOfB, List.getElem?_map, List.getD_eq_getElem?_getD, List.getElem?_eq_getElem (by omega)]
  rfl

set_option maxHeartbeats 4000000 in
set_option maxRecDepth 100000 in
theorem settle_any (w : World) (g gb gp gw K : Nat) (S : St) (h : DiskAt w g gb gp gw K S) (i : Nat) (hi : i < S.bl.length) (p : Int) :
    Calls Tryz.prog 51 #[.pointer (some ⟨g, 0, none⟩), .int .i64 (i : Int), .int .i64 p] w (DPost (.tuple #[]) g gb gp gw K (settleS S i p) w) := by
  have n2 := h.n2
  have hkey := key_i (i := (i : Int)) (by omega) (by omega)
  obtain ⟨b64, _, hl⟩ := look_pend h.pend (i := (i : Int)) (by omega) (by omega)
  obtain ⟨c0, c1, c2, c3, c4⟩ := h.cells
  have ho : (S.bl.getD i []).length = 64 := by
    rw [List.getD_eq_getElem?_getD, List.getElem?_eq_getElem hi, Option.getD_some]
    exact h.b64 _ (List.getElem_mem hi)
  obtain ⟨nb, hnb⟩ : ∃ nb, nb = pendB S.pend i := ⟨_, rfl⟩
  obtain ⟨ob, hob⟩ : ∃ ob, ob = S.bl.getD i [] := ⟨_, rfl⟩
  rw [← hnb] at b64 hl
  rw [← hob] at ho
  obtain ⟨Z, hZ⟩ : ∃ Z, Z = (cellsOfB zeroBs).toArray := ⟨_, rfl⟩
  have sZ : Z.size = 64 := by rw [hZ]; rfl
  obtain ⟨hz, hsz⟩ := zero_of_info info70
  have sC : (cellsOfB nb).toArray.size = 64 := size_cells nb b64
  have hst := run_storeCells_new (P := Tryz.prog) w 99 Z (cellsOfB nb).toArray (by rw [sC]; exact hsz) (by rw [sC, sZ]) (one_cells nb)
  rw [show encB nb = .agg (cellsOfB nb).toArray from rfl] at hl
  rw [show encB zeroBs = .agg Z from by rw [hZ]; rfl] at hz
  have h1 := h.below (below_new w (.cells (cellsOfB nb).toArray 99))
  have e1 := h1.cells
  have hx1 : (w.alloc (.cells (cellsOfB nb).toArray 99)).heap[w.heap.size]? = some (.cells (cellsOfB nb).toArray 99 (0, 0)) := heap_alloc_new _ _
  have hpl := h.lt.2.2.1
  have gt := guard70
  have nt := neq70 nb ob b64 ho
  have hu70 := Tryz.underlying99
  have l1 : (cellsOfB nb).length = 64 := by rw [cellsOfB, List.length_map, b64]
  have l2 : (cellsOfB ob).length = 64 := by rw [cellsOfB, List.length_map, ho]
  have hi1 : (Tryz.prog.info? 99).map (·.size) = some (cellsOfB nb).length := by rw [l1]; exact hsz
  have hi2 : (Tryz.prog.info? 99).map (·.size) = some (cellsOfB ob).length := by rw [l2]; exact hsz
  have e11 := e1.2.1
  obtain ⟨w2, hdel, hm2, ht2⟩ := h1.pend.drop law3 Tryz.underlying90 hkey 0
  have h2 := h1.setPend hm2 ht2 (Nat.le_refl _)
  have hx2 : w2.heap[w.heap.size]? = some (.cells (cellsOfB nb).toArray 99 (0, 0)) := (ht2.grown.block _ (by simp) (by simp; omega)).trans hx1
  have hk2 : Keep [g, gb, gp, gw] w w2 := ((Keep.refl [g, gb, gp, gw] w).alloc _).turned ht2 (by simp)
  obtain ⟨f0, f1, f2, f3, f4⟩ := h2.cells
  have hw2 := look_worn (S := S) h2.worn (i := (i : Int)) (by omega) (by omega)
  have r1 := range_of_block (w := w2) hx2
  have r2 := h2.range hi
  rw [show ({ S with pend := S.pend.del (kI i) } : St).bl.getD i [] = ob from hob.symm] at r2
  obtain ⟨n, hn⟩ : ∃ n, n = S.bl.length := ⟨_, rfl⟩
  rw [show ({ S with pend := S.pend.del (kI i) } : St).bl.length = n from hn.symm] at f0
  have i1 : (i : Int) < (n : Int) := by omega
  have i0 : (0 : Int) ≤ (i : Int) := by omega
  have i2 : (i : Int) ≤ 9223372036854775807 := by omega
  have HI := Lib.hid hi
  have H2 := Lib.hid h2
  have L1 := Lib.hid l1
  have L2 := Lib.hid l2
  have HNB := Lib.hid hnb
  have HOB := Lib.hid hob
  have HN := Lib.hid hn
  have HK2 := Lib.hid hk2
  have HX2 := Lib.hid hx2
  clear h h1 h2 hx1 hx2 hZ hnb hob l1 l2 hi e1 hpl hm2 ht2 hn hk2 hkey c0 c2 c3 c4
  obtain ⟨wb, hwb⟩ : ∃ wb, wb = wornB S i := ⟨_, rfl⟩
  rw [← hwb] at hw2
  have HWB := Lib.hid hwb
  clear hwb
  have hw2d : (Instr.lookup 63 (.map (some gw)) (.int .i64 (i : Int)) false).run Tryz.prog w2.drew = .ok (.bool wb) w2.drew := by
    have := look_worn (w := w2.drew) (S := S) H2.out.worn (i := (i : Int)) (by omega) i2
    rw [← HWB.out] at this
    exact this
  have r1d : w2.drew.rangeAt w.heap.size 0 (cellsOfB nb) := r1
  have r2d : w2.drew.rangeAt gb (i * 64) (cellsOfB ob) := r2
  have R1 := Lib.hid r1d
  have R2 := Lib.hid r2d
  clear r1 r2 r1d r2d
  go_enter Tryz.func51, Tryz.ntmps51
  go_wp2_with fail
  cases wb
  · refine wp_region_still_tail 17 (by kernel_rfl) (by kernel_rfl) ?_
    simp only [List.take_succ_cons, List.take_zero, List.drop_succ_cons, List.drop_zero]
    iterate 8 still_step
    refine wpStill_load_mid (by rfl) _ _ rfl _ _ rfl (cellsOfB nb) _ R1.out hu70 rfl hi1 ?_
    simp only [Act.put, List.setIfInBounds_toArray, List.set_cons_zero, List.set_cons_succ]
    iterate 6 still_step
    refine wpStill_load_mid (by rfl) _ _ rfl _ _ rfl (cellsOfB ob) _ R2.out hu70 rfl hi2 ?_
    simp only [Act.put, List.setIfInBounds_toArray, List.set_cons_zero, List.set_cons_succ]
    still_step
    refine wpStill_nil ?_
    change wpList _ _ _ _ _ w2.drew
    have g0 : w2.drew.cell? ⟨g, 0, none⟩ = some (.slice (some ⟨gb, 0, none⟩) n S.cap) := f0
    have H3 := Lib.hid (H2.out.same (w' := w2.drew) rfl rfl rfl rfl)
    have HX3 := Lib.hid (show w2.drew.heap[w.heap.size]? = some (.cells (cellsOfB nb).toArray 99 (0, 0)) from HX2.out)
    have HK3 := Lib.hid HK2.out.drew
    have nd : (!decide (nb = ob)) = true ∨ (!decide (nb = ob)) = false := by cases (!decide (nb = ob)) <;> simp
    clear f0 f1 f2 f3 f4 hw2 hw2d H2 HX2 HK2 R1 R2 hi1 hi2 nt gt hst hl hz
    generalize w2.drew = w3 at *
    rcases nd with nd | nd
    · rw [nd]
      obtain ⟨q, hq⟩ : ∃ q, q = pq p := ⟨_, rfl⟩
      have q64 : q ≤ 64 := by rw [hq]; exact pq_le p
      have hmx : max 0 (min p 64) = (q : Int) := by rw [hq, pq]; omega
      have q1 : (q : Int) ≤ 64 := by omega
      have q0 : (0 : Int) ≤ (q : Int) := by omega
      have HQ := Lib.hid hq
      clear hq
      go_wp2_with fail
      go_still_tail 11, (by kernel_rfl)
      change wpList _ _ _ _ _ w3.drew
      have H4 := Lib.hid (H3.out.same (w' := w3.drew) rfl rfl rfl rfl)
      have hx4 : w3.drew.heap[w.heap.size]? = some (.cells (cellsOfB nb).toArray 99 (0, 0)) := HX3.out
      have HK4 := Lib.hid HK3.out.drew
      clear HX3 HK3 H3 g0
      generalize w3.drew = w4 at *
      have hs5 : (Tryz.prog.info? 5).map (·.size) = some 1 := by
        obtain ⟨j0, hi, _, hz1, _⟩ := info_parts info5
        rw [hi, Option.map_some, hz1]
      have lq : ((cellsOfB nb).take q).length = q := by rw [List.length_take, L1.out]; omega
      have hcp := run_copy_row (P := Tryz.prog) w4 84 84 3 5 gb (i * 64) q 64 ⟨w.heap.size, 0, none⟩ 64 64 (rowsOf S.bl ++ S.ext).toArray 99 ((cellsOfB nb).take q) Tryz.underlying84 hs5 H4.out.rows (by rw [lq]; show q = min 64 q; omega) (fun j v hv => by
          rw [Addr.add_mid]
          refine range_of_block hx4 j v ?_
          rw [List.getElem?_take] at hv
          split at hv
          · exact hv
          · cases hv) (by rw [lq, List.size_toArray, List.length_append, rows_length S.bl H4.out.b64]; have := HI.out; omega) (fun v hv => by
          have := List.mem_of_mem_take hv
          rw [cellsOfB, List.mem_map] at this
          obtain ⟨x, _, rfl⟩ := this
          rfl)
      have HD := Lib.hid (H4.out.setSector HI.out q64 nb b64)
      have HK5 := Lib.hid (HK4.out.setRow (g := gb) (by simp) ((rowsOf S.bl ++ S.ext).toArray.toList.take (i * 64) ++ (cellsOfB nb).take q ++ (rowsOf S.bl ++ S.ext).toArray.toList.drop (i * 64 + ((cellsOfB nb).take q).length)).toArray)
      generalize ((rowsOf S.bl ++ S.ext).toArray.toList.take (i * 64) ++ (cellsOfB nb).take q ++ (rowsOf S.bl ++ S.ext).toArray.toList.drop (i * 64 + ((cellsOfB nb).take q).length)).toArray = ARR at *
      rw [lq] at hcp
      clear hx4 hs5 lq hmx H4 HK4
      go_wp2_with fail
      go_end0
      refine ⟨rfl, ?_, HK5.out⟩
      have he : settleS S i p = { S with pend := S.pend.del (kI i), bl := S.bl.set i (tornB nb (S.bl.getD i []) q) } := by
        rw [settleS, ← HWB.out]
        simp only [Bool.false_eq_true, if_false]
        rw [← HNB.out, ← HQ.out]
      rw [he]
      exact HD.out
    · rw [nd]
      have hno : nb = ob := by simpa using nd
      go_wp2_with fail
      go_end0
      refine ⟨rfl, ?_, HK3.out⟩
      have he : settleS S i p = { S with pend := S.pend.del (kI i) } := by
        rw [settleS, ← HWB.out]
        simp only [Bool.false_eq_true, if_false]
        rw [← HNB.out, ← HOB.out, hno, torn_same, HOB.out, List.getD_eq_getElem?_getD, List.getElem?_eq_getElem HI.out, Option.getD_some, List.set_getElem_self]
      rw [he]
      exact H3.out
  · refine wp_region_still_tail 17 (by kernel_rfl) (by kernel_rfl) ?_
    simp only [List.take_succ_cons, List.take_zero, List.drop_succ_cons, List.drop_zero]
    iterate 7 still_step
    refine wpStill_step (fun K hK => ?_)
    have hK2 := fun a h => hK a (StillB.out h)
    clear hK
    go_simp
    refine hK2 _ ?_
    clear hK2 K
    iterate 9 (refine StillB.skip (by rfl) ?_; simp only [Act.put, List.setIfInBounds_toArray, List.set_cons_zero, List.set_cons_succ])
    refine StillB.nil ?_
    change wpList _ _ _ _ _ w2.drew
    have H3 := Lib.hid (H2.out.same (w' := w2.drew) rfl rfl rfl rfl)
    have HK3 := Lib.hid HK2.out.drew
    clear f0 f1 f2 f3 f4 hw2 hw2d H2 HX2 HK2 R1 R2 hi1 hi2 nt gt hst hl hz
    generalize w2.drew = w3 at *
    go_wp2_with fail
    go_end0
    refine ⟨rfl, ?_, HK3.out⟩
    have he : settleS S i p = { S with pend := S.pend.del (kI i) } := by rw [settleS, ← HWB.out]; rfl
    rw [he]
    exact H3.out
end Go.Proofs.YtddpjahoeldleaaGreatDoor.Dk
