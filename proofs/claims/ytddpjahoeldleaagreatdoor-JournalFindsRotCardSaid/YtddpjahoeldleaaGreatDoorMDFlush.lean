/- Contracts of the disk: settle and Flush. -/
import Derived.Test.YtddpjahoeldleaaGreatDoorMDRot
import Derived.Laws.StructEq
import Derived.Laws.CopyRow
import Derived.Deep.MidRow
import Derived.Deep.RegionHeld3
import Derived.StillTailTactics
import Derived.Deep.AppendLies

namespace Go.Proofs.YtddpjahoeldleaaGreatDoor.Dk
open Go.RowKit Go.Maps

theorem guard70 (x y : Operand) (xs ys : Array Value) (w : World) : (eqGuard .neq 99 x y (.agg xs) (.agg ys)).run Tryz.prog w = .ok () w :=
  run_eqGuard_agg w .neq 99 x y xs ys (by kernel_rfl)
theorem agg5 (w : World) : (isAgg 5).run Tryz.prog w = .ok false w := by
  simp [isAgg, run_underlying Tryz.underlying5, go_sem]
theorem size5 (w : World) : (sizeOf 5).run Tryz.prog w = .ok 1 w := by
  obtain ⟨i0, hi, hz0, hz1, hz2⟩ := info_parts info5
  simp [sizeOf, typeInfo, hi, hz1, go_sem]
theorem part5 (a : Bs) (i : Nat) (hi : i < a.length) (w : World) : (part 5 (cellsOfB a).toArray i).run Tryz.prog w = .ok (.int .u8 ((a.getD i 0).toNat : Int)) w := by
  simp [part, cellsOfB, hi, go_sem]
def eqBody (d : Nat) (a b : Bs) : Nat → Option Bool × Unit → Sem (ForInStep (Option Bool × Unit)) := fun i _ => do
  let x ← part 5 (cellsOfB a).toArray i
  let y ← part 5 (cellsOfB b).toArray i
  let z ← Op.equalIn (d + 1) 5 x y
  if (!z) = true then pure (ForInStep.done (some false, ())) else pure (ForInStep.yield (none, ()))
theorem eqBody_run (d : Nat) (a b : Bs) (ha : a.length = 64) (hb : b.length = 64) (i : Nat) (hi : i < 64) (r : Option Bool × Unit) (w : World) :
    (eqBody d a b i r).run Tryz.prog w = if a.getD i 0 = b.getD i 0 then .ok (.yield (none, ())) w else .ok (.done (some false, ())) w := by
  unfold eqBody
  rw [Sem.run_bind, part5 a i (by omega), Result.andThen_ok, Sem.run_bind, part5 b i (by omega), Result.andThen_ok, Sem.run_bind, run_equalIn_int w d 5 .u8 .u8 _ _ Tryz.underlying5, Result.andThen_ok]
  by_cases h : a.getD i 0 = b.getD i 0
  · rw [if_pos h, h]
    simp
  · rw [if_neg h]
    have h2 : (((a.getD i 0).toNat : Int) == ((b.getD i 0).toNat : Int)) = false := by
      rw [beq_eq_false_iff_ne]
      intro e
      exact h (UInt8.toNat_inj.1 (by omega))
    rw [h2]
    simp
theorem drop_step (a b : Bs) (s : Nat) (ha : s < a.length) (hb : s < b.length) : a.drop s = b.drop s ↔ a.getD s 0 = b.getD s 0 ∧ a.drop (s + 1) = b.drop (s + 1) := by
  rw [List.drop_eq_getElem_cons ha, List.drop_eq_getElem_cons hb, List.cons.injEq, List.getD_eq_getElem?_getD, List.getD_eq_getElem?_getD, List.getElem?_eq_getElem ha, List.getElem?_eq_getElem hb, Option.getD_some, Option.getD_some]
theorem eq_range (d : Nat) (a b : Bs) (ha : a.length = 64) (hb : b.length = 64) (w : World) : ∀ n s, s + n = 64 →
    (forIn (List.range' s n 1) ((none, ()) : Option Bool × Unit) (eqBody d a b)).run Tryz.prog w = if a.drop s = b.drop s then .ok (none, ()) w else .ok (some false, ()) w
  | 0, s, hs => by
    rw [List.drop_eq_nil_of_le (by omega), List.drop_eq_nil_of_le (by omega), if_pos rfl]
    rfl
  | n + 1, s, hs => by
    have ih := eq_range d a b ha hb w n (s + 1) (by omega)
    rw [List.range'_succ, List.forIn_cons, Sem.run_bind, eqBody_run d a b ha hb s (by omega)]
    have hd := drop_step a b s (by omega) (by omega)
    by_cases h : a.getD s 0 = b.getD s 0
    · rw [if_pos h, Result.andThen_ok]
      show (forIn (List.range' (s + 1) n 1) ((none, ()) : Option Bool × Unit) (eqBody d a b)).run Tryz.prog w = _
      rw [ih]
      by_cases h2 : a.drop (s + 1) = b.drop (s + 1)
      · rw [if_pos h2, if_pos (hd.2 ⟨h, h2⟩)]
      · rw [if_neg h2, if_neg (fun e => h2 (hd.1 e).2)]
    · rw [if_neg h, Result.andThen_ok, if_neg (fun e => h (hd.1 e).1)]
      rfl
theorem eq_loop (d : Nat) (a b : Bs) (ha : a.length = 64) (hb : b.length = 64) (w : World) : (Op.equalIn (d + 2) 99 (.agg (cellsOfB a).toArray) (.agg (cellsOfB b).toArray)).run Tryz.prog w = .ok (decide (a = b)) w := by
  rw [Op.equalIn]
  simp only [Sem.run_bind, run_underlying Tryz.underlying99, Result.andThen_ok, size5, Nat.mul_one]
  rw [Std.Legacy.Range.forIn_eq_forIn_range']
  have h := eq_range d a b ha hb w 64 0 rfl
  rw [List.drop_zero, List.drop_zero] at h
  have h' : (forIn (List.range' [:64].start [:64].size [:64].step) ((none, ()) : Option Bool × Unit) (eqBody d a b)).run Tryz.prog w = _ := h
  unfold eqBody at h'
  rw [h']
  by_cases e : a = b
  · rw [if_pos e, Result.andThen_ok, decide_eq_true e]
    rfl
  · rw [if_neg e, Result.andThen_ok, decide_eq_false e]
    rfl
theorem neq70 (a b : Bs) (ha : a.length = 64) (hb : b.length = 64) (w : World) : (binOp .neq 99 (.agg (cellsOfB a).toArray) (.agg (cellsOfB b).toArray)).run Tryz.prog w = .ok (.bool (!decide (a = b))) w := by
  rw [run_neq_struct, eq_loop 9998 a b ha hb, Result.andThen_ok]
end Go.Proofs.YtddpjahoeldleaaGreatDoor.Dk

namespace Go.Proofs.YtddpjahoeldleaaGreatDoor.Dk
open Go.RowKit Go.Maps

def pq (p : Int) : Nat := (max 0 (min p 64)).toNat
def wornB (S : St) (i : Int) : Bool := match S.worn.atKey (kI i) (.lit (.bool false)) with
  | .lit (.bool b) => b
  | _ => false
def tornB (next old : Bs) (q : Nat) : Bs := next.take q ++ old.drop q
def settleS (S : St) (i : Nat) (p : Int) : St :=
  if wornB S i then { S with pend := S.pend.del (kI i) }
  else { S with pend := S.pend.del (kI i), bl := S.bl.set i (tornB (pendB S.pend i) (S.bl.getD i []) (pq p)) }

theorem zero4 (w : World) : (zeroValue 4).run Tryz.prog w = .ok (.bool false) w := by kernel_rfl
theorem plainElem_bool_inv {P : Program} {e : TypeId} (he : P.underlying e = some .bool) {v : Value} {z : Dt × List MemPlace} (h : plainElem P e v = some z) : ∃ a, v = .bool a ∧ z = (.lit (.bool a), []) := by
  unfold plainElem at h
  rw [he] at h
  cases v <;> simp at h
  exact ⟨_, rfl, h.symm⟩
theorem look_worn {w : World} {gw K : Nat} {S : St} (h : w.ownsMap Tryz.prog 3 (plainElem Tryz.prog 4) gw K S.worn) {i : Int} (h1 : -9223372036854775808 ≤ i) (h2 : i ≤ 9223372036854775807) :
    (Instr.lookup 63 (.map (some gw)) (.int .i64 i) false).run Tryz.prog w = .ok (.bool (wornB S i)) w := by
  obtain ⟨v, ps, hr, hv⟩ := h.lookup law3 Tryz.underlying63 (zero4 w) (plainElem_bool Tryz.underlying4 false) (key_i h1 h2)
  obtain ⟨b, rfl, hd⟩ := plainElem_bool_inv Tryz.underlying4 hv
  simp only [Prod.mk.injEq] at hd
  have e : wornB S i = b := by unfold wornB; rw [hd.1]
  rw [e]; exact hr
theorem rows_splice : ∀ (bl : List Bs) (_ : ∀ b ∈ bl, b.length = 64) (i q : Nat) (_ : q ≤ 64) (_ : i < bl.length) (nb : Bs) (_ : nb.length = 64),
    (rowsOf bl).take (i * 64) ++ (cellsOfB nb).take q ++ (rowsOf bl).drop (i * 64 + q) = rowsOf (bl.set i (tornB nb (bl.getD i []) q))
  | [], _, i, q, _, hi, _, _ => by simp at hi
  | b :: r, h, 0, q, hq, _, nb, hn => by
    have hb := h b (List.mem_cons_self ..)
    have e : ∀ (b : Bs) (r : List Bs), rowsOf (b :: r) = cellsOfB b ++ rowsOf r := fun _ _ => rfl
    have el : (cellsOfB b).length = 64 := by rw [cellsOfB, List.length_map, hb]
    rw [List.set_cons_zero, List.getD_cons_zero, e, e, Nat.zero_mul, List.take_zero, List.nil_append, Nat.zero_add, List.drop_append_of_le_length (by omega), ← List.append_assoc]
    congr 1
    rw [tornB, cellsOfB, cellsOfB, cellsOfB, List.map_append, List.map_take, List.map_drop]
  | b :: r, h, i + 1, q, hq, hi, nb, hn => by
    have hb := h b (List.mem_cons_self ..)
    have ih := rows_splice r (fun x hx => h x (List.mem_cons_of_mem _ hx)) i q hq (by simpa using hi) nb hn
    have e : ∀ (b : Bs) (r : List Bs), rowsOf (b :: r) = cellsOfB b ++ rowsOf r := fun _ _ => rfl
    have el : (cellsOfB b).length = 64 := by rw [cellsOfB, List.length_map, hb]
    rw [List.set_cons_succ, List.getD_cons_succ, e, e, ← ih, List.take_append, List.drop_append, el, List.take_of_length_le (by omega), List.drop_eq_nil_of_le (by omega), List.nil_append, show (i + 1) * 64 - 64 = i * 64 from by omega, show (i + 1) * 64 + q - 64 = i * 64 + q from by omega, List.append_assoc, List.append_assoc, List.append_assoc]
theorem torn_length {nb old : Bs} {q : Nat} (h1 : nb.length = 64) (h2 : old.length = 64) (hq : q ≤ 64) : (tornB nb old q).length = 64 := by
  rw [tornB, List.length_append, List.length_take, List.length_drop]; omega
theorem torn_same (b : Bs) (q : Nat) : tornB b b q = b := List.take_append_drop q b
theorem pq_le (p : Int) : pq p ≤ 64 := by unfold pq; omega
theorem setRow_block {w : World} {g : Nat} {cs cs' : Array Value} {t : TypeId} (h : w.heap[g]? = some (.cells cs t (0, 0))) : (w.setRow g cs').heap[g]? = some (.cells cs' t (0, 0)) := setRow_heap w g cs cs' t (0, 0) h
theorem DiskAt.setSector {w : World} {g gb gp gw K : Nat} {S : St} (h : DiskAt w g gb gp gw K S) {i q : Nat} (hi : i < S.bl.length) (hq : q ≤ 64) (nb : Bs) (hn : nb.length = 64) :
    DiskAt (w.setRow gb ((rowsOf S.bl ++ S.ext).toArray.toList.take (i * 64) ++ (cellsOfB nb).take q ++ (rowsOf S.bl ++ S.ext).toArray.toList.drop (i * 64 + ((cellsOfB nb).take q).length)).toArray) g gb gp gw K { S with bl := S.bl.set i (tornB nb (S.bl.getD i []) q) } := by
  have ha := h.apart
  have el : ((cellsOfB nb).take q).length = q := by rw [List.length_take, cellsOfB, List.length_map, hn]; omega
  have hl : (S.bl.set i (tornB nb (S.bl.getD i []) q)).length = S.bl.length := List.length_set
  have ho : (S.bl.getD i []).length = 64 := by
    rw [List.getD_eq_getElem?_getD, List.getElem?_eq_getElem hi, Option.getD_some]
    exact h.b64 _ (List.getElem_mem hi)
  refine ⟨?_, ?_, ?_, ownsMap_block h.pend (setRow_other _ _ _ _ (Ne.symm ha.2.2.1)), ownsMap_block h.worn (setRow_other _ _ _ _ (Ne.symm ha.2.2.2)), h.ne1, h.ne2, by rw [hl]; exact h.n1, by rw [hl]; exact h.n2, h.l1, h.l2⟩
  · rw [setRow_other _ _ _ _ h.ne1, h.head, hl]
  · have hrl := rows_length S.bl h.b64
    rw [setRow_block h.rows, el, List.toList_toArray, ← rows_splice S.bl h.b64 i q hq hi nb hn, List.take_append_of_le_length (by omega), List.drop_append_of_le_length (by omega)]
    simp only [List.append_assoc]
  · intro b hb
    rcases List.mem_or_eq_of_mem_set hb with hb | hb
    · exact h.b64 b hb
    · rw [hb]; exact torn_length hn ho hq

theorem wpStill_load_mid {P : Program} {ops : Array Oper} {rest : List Oper} {o : Oper} {a : Act} {w : World} {Q : Act → Prop} (hw : Region.wanted o (yielded ops a.tmps) = true) (ty : TypeId) (x : Operand) (ho : o.op = .load ty x)
    (b off : Nat) (hx : a.eval x = .pointer (some ⟨b, off, none⟩)) (cs : List Value) (d : TypeDesc) (hc : w.rangeAt b off cs)
    (hu : P.underlying ty = some d) (hd : d.isRow = true) (hi : (P.info? ty).map (·.size) = some cs.length) (h : wpStill P ops w Q rest (a.put o.dst (.agg cs.toArray))) : wpStill P ops w Q (o :: rest) a := by
  refine wpStill_step (fun K hK => ?_)
  rw [if_pos hw]
  unfold Oper.still execOp
  simp only [ho, hx, Instr.loadAt, Instr.sureAddr, Sem.run_bind, Sem.run_pure, Result.andThen_ok, run_loadVar_mid w b off ty cs d hc hu hd hi]
  exact ⟨rfl, hK _ h⟩
/-- the same behind a name, so that nobody looks into it -/
structure StillB (P : Program) (ops : Array Oper) (w : World) (Q : Act → Prop) (rest : List Oper) (a : Act) : Prop where
  out : wpStill P ops w Q rest a
theorem StillB.skip {P : Program} {ops : Array Oper} {rest : List Oper} {o : Oper} {a : Act} {w : World} {Q : Act → Prop} (hw : Region.wanted o (yielded ops a.tmps) = false) (h : StillB P ops w Q rest (a.put o.dst undef)) : StillB P ops w Q (o :: rest) a := by
  refine ⟨wpStill_step (fun K hK => ?_)⟩
  rw [hw]
  exact hK _ h.out
theorem StillB.nil {P : Program} {ops : Array Oper} {a : Act} {w : World} {Q : Act → Prop} (h : Q a) : StillB P ops w Q [] a := ⟨h⟩
theorem range_of_block {w : World} {b : Nat} {cs : List Value} {t : TypeId} {fr : Nat × Nat} (h : w.heap[b]? = some (.cells cs.toArray t fr)) : w.rangeAt b 0 cs := fun j v hv => by
  rw [Nat.zero_add, cell_of_row w b j cs.toArray t fr h]
  simpa using hv
theorem DiskAt.range {w : World} {g gb gp gw K : Nat} {S : St} (h : DiskAt w g gb gp gw K S) {i : Nat} (hi : i < S.bl.length) : w.rangeAt gb (i * 64) (cellsOfB (S.bl.getD i [])) := fun j v hv => by
  have ho : (S.bl.getD i []).length = 64 := by
    rw [List.getD_eq_getElem?_getD, List.getElem?_eq_getElem hi, Option.getD_some]
    exact h.b64 _ (List.getElem_mem hi)
  have hj : j < 64 := by
    have := (List.getElem?_eq_some_iff.1 hv).1
    rw [cellsOfB, List.length_map, ho] at this
    exact this
  rw [h.byte hi hj, ← hv, cellsOfB, List.getElem?_map, List.getD_eq_getElem?_getD, List.getElem?_eq_getElem (by omega)]
  rfl

set_option maxHeartbeats 4000000 in
set_option maxRecDepth 100000 in
theorem settle_any (w : World) (g gb gp gw K : Nat) (S : St) (h : DiskAt w g gb gp gw K S) (i : Nat) (hi : i < S.bl.length) (p : Int) :
    Calls Tryz.prog 51 #[.pointer (some ⟨g, 0, none⟩), .int .i64 (i : Int), .int .i64 p] w (DPost (.tuple #[]) g gb gp gw K (settleS S i p) w) := by
  have n2 := h.n2
  have hkey := key_i (i := (i : Int)) (by omega) (by omega)
  obtain ⟨b64, _, hl⟩ := look_pend h.pend (i := (i : Int)) (by omega) (by omega)
  obtain ⟨c0, c1, c2, c3, c4⟩ := h.cells
  have ho : (S.bl.getD i []).length = 64 := by
    rw [List.getD_eq_getElem?_getD, List.getElem?_eq_getElem hi, Option.getD_some]
    exact h.b64 _ (List.getElem_mem hi)
  obtain ⟨nb, hnb⟩ : ∃ nb, nb = pendB S.pend i := ⟨_, rfl⟩
  obtain ⟨ob, hob⟩ : ∃ ob, ob = S.bl.getD i [] := ⟨_, rfl⟩
  rw [← hnb] at b64 hl
  rw [← hob] at ho
  obtain ⟨Z, hZ⟩ : ∃ Z, Z = (cellsOfB zeroBs).toArray := ⟨_, rfl⟩
  have sZ : Z.size = 64 := by rw [hZ]; rfl
  obtain ⟨hz, hsz⟩ := zero_of_info info70
  have sC : (cellsOfB nb).toArray.size = 64 := size_cells nb b64
  have hst := run_storeCells_new (P := Tryz.prog) w 99 Z (cellsOfB nb).toArray (by rw [sC]; exact hsz) (by rw [sC, sZ]) (one_cells nb)
  rw [show encB nb = .agg (cellsOfB nb).toArray from rfl] at hl
  rw [show encB zeroBs = .agg Z from by rw [hZ]; rfl] at hz
  have h1 := h.below (below_new w (.cells (cellsOfB nb).toArray 99))
  have e1 := h1.cells
  have hx1 : (w.alloc (.cells (cellsOfB nb).toArray 99)).heap[w.heap.size]? = some (.cells (cellsOfB nb).toArray 99 (0, 0)) := heap_alloc_new _ _
  have hpl := h.lt.2.2.1
  have gt := guard70
  have nt := neq70 nb ob b64 ho
  have hu70 := Tryz.underlying99
  have l1 : (cellsOfB nb).length = 64 := by rw [cellsOfB, List.length_map, b64]
  have l2 : (cellsOfB ob).length = 64 := by rw [cellsOfB, List.length_map, ho]
  have hi1 : (Tryz.prog.info? 99).map (·.size) = some (cellsOfB nb).length := by rw [l1]; exact hsz
  have hi2 : (Tryz.prog.info? 99).map (·.size) = some (cellsOfB ob).length := by rw [l2]; exact hsz
  have e11 := e1.2.1
  obtain ⟨w2, hdel, hm2, ht2⟩ := h1.pend.drop law3 Tryz.underlying90 hkey 0
  have h2 := h1.setPend hm2 ht2 (Nat.le_refl _)
  have hx2 : w2.heap[w.heap.size]? = some (.cells (cellsOfB nb).toArray 99 (0, 0)) := (ht2.grown.block _ (by simp) (by simp; omega)).trans hx1
  have hk2 : Keep [g, gb, gp, gw] w w2 := ((Keep.refl [g, gb, gp, gw] w).alloc _).turned ht2 (by simp)
  obtain ⟨f0, f1, f2, f3, f4⟩ := h2.cells
  have hw2 := look_worn (S := S) h2.worn (i := (i : Int)) (by omega) (by omega)
  have r1 := range_of_block (w := w2) hx2
  have r2 := h2.range hi
  rw [show ({ S with pend := S.pend.del (kI i) } : St).bl.getD i [] = ob from hob.symm] at r2
  obtain ⟨n, hn⟩ : ∃ n, n = S.bl.length := ⟨_, rfl⟩
  rw [show ({ S with pend := S.pend.del (kI i) } : St).bl.length = n from hn.symm] at f0
  have i1 : (i : Int) < (n : Int) := by omega
  have i0 : (0 : Int) ≤ (i : Int) := by omega
  have i2 : (i : Int) ≤ 9223372036854775807 := by omega
  have HI := Lib.hid hi
  have H2 := Lib.hid h2
  have L1 := Lib.hid l1
  have L2 := Lib.hid l2
  have HNB := Lib.hid hnb
  have HOB := Lib.hid hob
  have HN := Lib.hid hn
  have HK2 := Lib.hid hk2
  have HX2 := Lib.hid hx2
  clear h h1 h2 hx1 hx2 hZ hnb hob l1 l2 hi e1 hpl hm2 ht2 hn hk2 hkey c0 c2 c3 c4
  obtain ⟨wb, hwb⟩ : ∃ wb, wb = wornB S i := ⟨_, rfl⟩
  rw [← hwb] at hw2
  have HWB := Lib.hid hwb
  clear hwb
  have hw2d : (Instr.lookup 63 (.map (some gw)) (.int .i64 (i : Int)) false).run Tryz.prog w2.drew = .ok (.bool wb) w2.drew := by
    have := look_worn (w := w2.drew) (S := S) H2.out.worn (i := (i : Int)) (by omega) i2
    rw [← HWB.out] at this
    exact this
  have r1d : w2.drew.rangeAt w.heap.size 0 (cellsOfB nb) := r1
  have r2d : w2.drew.rangeAt gb (i * 64) (cellsOfB ob) := r2
  have R1 := Lib.hid r1d
  have R2 := Lib.hid r2d
  clear r1 r2 r1d r2d
  go_enter Tryz.func51, Tryz.ntmps51
  go_wp2_with fail
  cases wb
  · refine wp_region_still_tail 17 (by kernel_rfl) (by kernel_rfl) ?_
    simp only [List.take_succ_cons, List.take_zero, List.drop_succ_cons, List.drop_zero]
    iterate 8 still_step
    refine wpStill_load_mid (by rfl) _ _ rfl _ _ rfl (cellsOfB nb) _ R1.out hu70 rfl hi1 ?_
    simp only [Act.put, List.setIfInBounds_toArray, List.set_cons_zero, List.set_cons_succ]
    iterate 6 still_step
    refine wpStill_load_mid (by rfl) _ _ rfl _ _ rfl (cellsOfB ob) _ R2.out hu70 rfl hi2 ?_
    simp only [Act.put, List.setIfInBounds_toArray, List.set_cons_zero, List.set_cons_succ]
    still_step
    refine wpStill_nil ?_
    change wpList _ _ _ _ _ w2.drew
    have g0 : w2.drew.cell? ⟨g, 0, none⟩ = some (.slice (some ⟨gb, 0, none⟩) n S.cap) := f0
    have H3 := Lib.hid (H2.out.same (w' := w2.drew) rfl rfl rfl rfl)
    have HX3 := Lib.hid (show w2.drew.heap[w.heap.size]? = some (.cells (cellsOfB nb).toArray 99 (0, 0)) from HX2.out)
    have HK3 := Lib.hid HK2.out.drew
    have nd : (!decide (nb = ob)) = true ∨ (!decide (nb = ob)) = false := by cases (!decide (nb = ob)) <;> simp
    clear f0 f1 f2 f3 f4 hw2 hw2d H2 HX2 HK2 R1 R2 hi1 hi2 nt gt hst hl hz
    generalize w2.drew = w3 at *
    rcases nd with nd | nd
    · rw [nd]
      obtain ⟨q, hq⟩ : ∃ q, q = pq p := ⟨_, rfl⟩
      have q64 : q ≤ 64 := by rw [hq]; exact pq_le p
      have hmx : max 0 (min p 64) = (q : Int) := by rw [hq, pq]; omega
      have q1 : (q : Int) ≤ 64 := by omega
      have q0 : (0 : Int) ≤ (q : Int) := by omega
      have HQ := Lib.hid hq
      clear hq
      go_wp2_with fail
      go_still_tail 11, (by kernel_rfl)
      change wpList _ _ _ _ _ w3.drew
      have H4 := Lib.hid (H3.out.same (w' := w3.drew) rfl rfl rfl rfl)
      have hx4 : w3.drew.heap[w.heap.size]? = some (.cells (cellsOfB nb).toArray 99 (0, 0)) := HX3.out
      have HK4 := Lib.hid HK3.out.drew
      clear HX3 HK3 H3 g0
      generalize w3.drew = w4 at *
      have hs5 : (Tryz.prog.info? 5).map (·.size) = some 1 := by
        obtain ⟨j0, hi, _, hz1, _⟩ := info_parts info5
        rw [hi, Option.map_some, hz1]
      have lq : ((cellsOfB nb).take q).length = q := by rw [List.length_take, L1.out]; omega
      have hcp := run_copy_row (P := Tryz.prog) w4 84 84 3 5 gb (i * 64) q 64 ⟨w.heap.size, 0, none⟩ 64 64 (rowsOf S.bl ++ S.ext).toArray 99 ((cellsOfB nb).take q) Tryz.underlying84 hs5 H4.out.rows (by rw [lq]; show q = min 64 q; omega) (fun j v hv => by
          rw [Addr.add_mid]
          refine range_of_block hx4 j v ?_
          rw [List.getElem?_take] at hv
          split at hv
          · exact hv
          · cases hv) (by rw [lq, List.size_toArray, List.length_append, rows_length S.bl H4.out.b64]; have := HI.out; omega) (fun v hv => by
          have := List.mem_of_mem_take hv
          rw [cellsOfB, List.mem_map] at this
          obtain ⟨x, _, rfl⟩ := this
          rfl)
      have HD := Lib.hid (H4.out.setSector HI.out q64 nb b64)
      have HK5 := Lib.hid (HK4.out.setRow (g := gb) (by simp) ((rowsOf S.bl ++ S.ext).toArray.toList.take (i * 64) ++ (cellsOfB nb).take q ++ (rowsOf S.bl ++ S.ext).toArray.toList.drop (i * 64 + ((cellsOfB nb).take q).length)).toArray)
      generalize ((rowsOf S.bl ++ S.ext).toArray.toList.take (i * 64) ++ (cellsOfB nb).take q ++ (rowsOf S.bl ++ S.ext).toArray.toList.drop (i * 64 + ((cellsOfB nb).take q).length)).toArray = ARR at *
      rw [lq] at hcp
      clear hx4 hs5 lq hmx H4 HK4
      go_wp2_with fail
      go_end0
      refine ⟨rfl, ?_, HK5.out⟩
      have he : settleS S i p = { S with pend := S.pend.del (kI i), bl := S.bl.set i (tornB nb (S.bl.getD i []) q) } := by
        rw [settleS, ← HWB.out]
        simp only [Bool.false_eq_true, if_false]
        rw [← HNB.out, ← HQ.out]
      rw [he]
      exact HD.out
    · rw [nd]
      have hno : nb = ob := by simpa using nd
      go_wp2_with fail
      go_end0
      refine ⟨rfl, ?_, HK3.out⟩
      have he : settleS S i p = { S with pend := S.pend.del (kI i) } := by
        rw [settleS, ← HWB.out]
        simp only [Bool.false_eq_true, if_false]
        rw [← HNB.out, ← HOB.out, hno, torn_same, HOB.out, List.getD_eq_getElem?_getD, List.getElem?_eq_getElem HI.out, Option.getD_some, List.set_getElem_self]
      rw [he]
      exact H3.out
  · refine wp_region_still_tail 17 (by kernel_rfl) (by kernel_rfl) ?_
    simp only [List.take_succ_cons, List.take_zero, List.drop_succ_cons, List.drop_zero]
    iterate 7 still_step
    refine wpStill_step (fun K hK => ?_)
    have hK2 := fun a h => hK a (StillB.out h)
    clear hK
    go_simp
    refine hK2 _ ?_
    clear hK2 K
    iterate 9 (refine StillB.skip (by rfl) ?_; simp only [Act.put, List.setIfInBounds_toArray, List.set_cons_zero, List.set_cons_succ])
    refine StillB.nil ?_
    change wpList _ _ _ _ _ w2.drew
    have H3 := Lib.hid (H2.out.same (w' := w2.drew) rfl rfl rfl rfl)
    have HK3 := Lib.hid HK2.out.drew
    clear f0 f1 f2 f3 f4 hw2 hw2d H2 HX2 HK2 R1 R2 hi1 hi2 nt gt hst hl hz
    generalize w2.drew = w3 at *
    go_wp2_with fail
    go_end0
    refine ⟨rfl, ?_, HK3.out⟩
    have he : settleS S i p = { S with pend := S.pend.del (kI i) } := by rw [settleS, ← HWB.out]; rfl
    rw [he]
    exact H3.out
end Go.Proofs.YtddpjahoeldleaaGreatDoor.Dk

namespace Go.Proofs.YtddpjahoeldleaaGreatDoor.Dk
open Go.RowKit Go.Maps Go.Sort Go.Shelf

theorem ownsRow_keep {F : List Nat} {w w' : World} {base : Nat} {e : TypeId} {size n : Nat} {v : Value} {xs : List Value} (h : w.ownsRow base e size v n xs) (hk : Keep F w w') (hF : ∀ k, k ∈ F → k < base) : w'.ownsRow base e size v n xs := by
  refine ⟨h.1, ?_⟩
  rcases h.2 with h0 | ⟨g, cap, cur, hv, hb, hg, r⟩
  · exact .inl h0
  · exact .inr ⟨g, cap, cur, hv, hb, (hk.block g (Array.getElem?_eq_some_iff.1 hg).1 (fun e => by have := hF g e; omega)).trans hg, r⟩

/-- the first k of some sectors settled -/
def settleK (S : St) (ks : List Int) (pf : Nat → Int) : Nat → St
  | 0 => S
  | k + 1 => settleS (settleK S ks pf k) (ks.getD k 0).toNat (pf k)
theorem settleS_len (S : St) (i : Nat) (p : Int) : (settleS S i p).bl.length = S.bl.length := by
  unfold settleS
  split
  · rfl
  · exact List.length_set
theorem settleK_len (S : St) (ks : List Int) (pf : Nat → Int) : ∀ k, (settleK S ks pf k).bl.length = S.bl.length
  | 0 => rfl
  | k + 1 => by rw [settleK, settleS_len, settleK_len S ks pf k]
def PendOK (S : St) : Prop := ∀ z ∈ keysOf S.pend, 0 ≤ z ∧ z < (S.bl.length : Int)
def flushE (S : St) : Int := if checkE S 0 ≠ 0 then checkE S 0 else stepE S
def flushS (S : St) : St := if checkE S 0 ≠ 0 then S else if stepE S ≠ 0 then stepS S else settleK (stepS S) (keysOf (stepS S).pend) (fun _ => 64) (keysOf (stepS S).pend).length
theorem step_len (S : St) : (stepS S).bl.length = S.bl.length ∧ (stepS S).pend = S.pend ∧ (stepS S).worn = S.worn := by
  unfold stepS
  split
  · exact ⟨rfl, rfl, rfl⟩
  · split
    · exact ⟨rfl, rfl, rfl⟩
    · exact ⟨rfl, rfl, rfl⟩
theorem keys_size (D : Dt) : (keysOf D).length = Maps.size D := by
  rw [keysOf, List.length_mergeSort]
  cases D <;> simp [intKeys, Maps.size]
theorem DPost.ret0 {g gb gp gw K : Nat} {S S' : St} {w w' : World} (hS : S = S') (h : DiskAt w' g gb gp gw K S) (hk : Keep [g, gb, gp, gw] w w') : DPost (.tuple #[]) g gb gp gw K S' w (.returned (.tuple #[])) w' := by rw [← hS]; exact ⟨rfl, h, hk⟩

set_option maxHeartbeats 4000000 in
set_option maxRecDepth 100000 in
theorem flush_any (w : World) (g gb gp gw K : Nat) (S : St) (h : DiskAt w g gb gp gw K S) (hK : K ≤ 100000) (hP : PendOK S) :
    Calls Tryz.prog 79 #[.pointer (some ⟨g, 0, none⟩)] w (DPost (.int .i64 (flushE S)) g gb gp gw K (flushS S) w) := by
  have hlt := h.lt
  by_cases hc : checkE S 0 = 0
  · have hE : flushE S = stepE S := by rw [flushE, if_neg (by simp [hc])]
    have HS := Lib.hid (show (if stepE S ≠ 0 then stepS S else settleK (stepS S) (keysOf (stepS S).pend) (fun _ => 64) (keysOf (stepS S).pend).length) = flushS S by unfold flushS; rw [if_neg (c := checkE S 0 ≠ 0) (by simp [hc])])
    rw [hE]
    have H := Lib.hid h
    have HC := Lib.hid hc
    have HLT := Lib.hid hlt
    have HP := Lib.hid hP
    obtain ⟨E, hEE⟩ : ∃ E, E = stepE S := ⟨_, rfl⟩
    rw [← hEE] at HS ⊢
    have HEE := Lib.hid hEE
    clear h hc hE hEE hlt hP
    go_enter Tryz.func79, Tryz.ntmps79
    go_wp2_with fail
    refine (check_any w g gb gp gw K S H.out 0 0 HC).mono ?_
    rintro e w' ⟨rfl, rfl⟩
    go_wp2_with fail
    refine (step_any w g gb gp gw K S H.out).mono ?_
    rintro e w2 ⟨rfl, h2, k2⟩
    rw [← HEE.out]
    by_cases hE0 : E = 0
    · subst hE0
      have hsl := step_len S
      have HSL := Lib.hid hsl
      obtain ⟨T, hT⟩ : ∃ T, T = stepS S := ⟨_, rfl⟩
      rw [← hT] at h2 HS HSL
      have HT := Lib.hid hT
      have H2 := Lib.hid h2
      have K2 := Lib.hid k2
      have LE := Lib.hid k2.size
      clear h2 k2 hsl hT
      go_wp2_with fail
      refine (pending_any w2 g gb gp gw K T H2.out hK).mono ?_
      rintro e w3 ⟨v, rfl, hrow, hb3⟩
      obtain ⟨A, cp, rfl, hcp⟩ := own_slice hrow
      have h3 := H2.out.below hb3
      have k3 := K2.out.trans (Keep.of_below hb3 [g, gb, gp, gw])
      have hsz := keys_size T.pend
      have hsz2 := H2.out.pend.size_le
      obtain ⟨ks, hks⟩ : ∃ ks, ks = keysOf T.pend := ⟨_, rfl⟩
      rw [← hks] at hrow HS hsz hcp ⊢
      have hok : ∀ z ∈ ks, 0 ≤ z ∧ z < (T.bl.length : Int) := by
        intro z hz
        rw [hks, HSL.out.2.1] at hz
        have := HP.out z hz
        rw [HSL.out.1]
        exact this
      obtain ⟨m, hm⟩ : ∃ m, m = ks.length := ⟨_, rfl⟩
      rw [← hm] at hrow HS hsz hcp ⊢
      have hmb : m ≤ 100000 := by omega
      have HROW := Lib.hid hrow
      have H3 := Lib.hid h3
      have K3 := Lib.hid k3
      have HM := Lib.hid hm
      have HOK := Lib.hid hok
      have H2L := Lib.hid (show w.heap.size ≤ w2.heap.size from LE.out)
      have hFb : ∀ k, k ∈ [g, gb, gp, gw] → k < w2.heap.size := by
        intro k hk
        have := H2.out.lt
        simp only [List.mem_cons, List.not_mem_nil, or_false] at hk
        rcases hk with rfl | rfl | rfl | rfl <;> omega
      have HFB := Lib.hid hFb
      clear hrow h3 k3 hsz hsz2 hks hm hok hb3 hFb hcp
      go_wp2_with fail
      go_loopw [20] (fun x wr => ∃ k : Nat, k ≤ m ∧ x = .int .i64 k ∧ Hid (DiskAt wr g gb gp gw K (settleK T ks (fun _ => 64) k)) ∧ Hid (Keep [g, gb, gp, gw] w wr) ∧ Hid (wr.ownsRow w2.heap.size 3 1 (.slice A m cp) m (ks.map encZ))) (fun x _ => m - (intOf x).toNat)
      case atStart => exact ⟨0, by omega, rfl, H3, K3, HROW⟩
      case round =>
        obtain ⟨k, hk, rfl, hD, hKp, hR⟩ := hrel
        by_cases hlt : k < m
        · have hkl : k < ks.length := by have := HM.out; omega
          obtain ⟨gk, ck, hv, hgb, hgl⟩ := World.ownsRow.form hR.out (by omega)
          injection hv with hA hn1 hc1
          subst hA
          subst hc1
          clear hn1
          have hcell := hR.out.cellAt (g := gk) (j := k) (by omega)
          rw [List.getElem?_map, List.getElem?_eq_getElem hkl, Option.map_some] at hcell
          have hz := HOK.out _ (List.getElem_mem hkl)
          obtain ⟨zi, hzi⟩ := Int.eq_ofNat_of_zero_le hz.1
          rw [hzi] at hcell hz
          have HZ := Lib.hid (show ks.getD k 0 = (zi : Int) by rw [List.getD_eq_getElem?_getD, List.getElem?_eq_getElem hkl, Option.getD_some, hzi])
          have hcell : wr.cell? ⟨gk, k, none⟩ = some (.int .i64 (zi : Int)) := hcell
          have hir : zi < (settleK T ks (fun _ => 64) k).bl.length := by rw [settleK_len]; omega
          have HIR := Lib.hid hir
          have i1 : (k : Int) < (m : Int) := by omega
          clear hz hzi hkl hir hgb hgl
          go_wp2_with fail
          refine (settle_any wr g gb gp gw K _ hD.out zi HIR.out 64).mono ?_
          rintro e w5 ⟨rfl, h5, k5⟩
          have H5 := Lib.hid h5
          have K5 := Lib.hid (hKp.out.trans k5)
          have R5 := Lib.hid (ownsRow_keep hR.out k5 HFB.out)
          clear h5 k5
          go_wp2_with fail
          go_roundw
          case rel =>
            refine ⟨k + 1, by omega, by go_num, ?_, K5, R5⟩
            have : settleK T ks (fun _ => 64) (k + 1) = settleS (settleK T ks (fun _ => 64) k) zi 64 := by rw [settleK, HZ.out, Int.toNat_natCast]
            rw [this]
            exact H5
          case measure => simp [intOf]; omega
        · obtain rfl : m = k := by omega
          go_wp2_with fail
          go_ret
          exact DPost.ret (by rw [← HS.out, if_neg (by simp)]) hD.out hKp.out
    · have hb : (E == 0) = false := beq_eq_false_iff_ne.2 hE0
      have H2 := Lib.hid h2
      have K2 := Lib.hid k2
      clear h2 k2
      go_wp2_with fail
      go_ret
      exact DPost.ret (by rw [← HS.out, if_pos hE0]) H2.out K2.out
  · have hE : flushE S = checkE S 0 := by rw [flushE, if_pos hc]
    have HS := Lib.hid (show S = flushS S by rw [flushS, if_pos hc])
    rw [hE]
    obtain ⟨E, hEE⟩ : ∃ E, E = checkE S 0 := ⟨_, rfl⟩
    rw [← hEE] at hc ⊢
    have HE := Lib.hid hEE.symm
    have hb : (E == 0) = false := beq_eq_false_iff_ne.2 hc
    have H := Lib.hid h
    clear h hE hEE hlt hP
    go_enter Tryz.func79, Tryz.ntmps79
    go_wp2_with fail
    refine (check_any w g gb gp gw K S H.out 0 E HE).mono ?_
    rintro e w' ⟨rfl, rfl⟩
    go_wp2_with fail
    go_ret
    exact DPost.ret HS.out H.out (Keep.refl _ _)
end Go.Proofs.YtddpjahoeldleaaGreatDoor.Dk
