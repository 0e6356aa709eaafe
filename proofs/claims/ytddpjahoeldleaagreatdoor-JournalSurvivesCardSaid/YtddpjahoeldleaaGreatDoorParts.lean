/- parts: the sectors of a record, one after the other. -/
import Derived.Test.YtddpjahoeldleaaGreatDoorPut
import Derived.Test.YtddpjahoeldleaaGreatDoorGet
import Derived.Test.YtddpjahoeldleaaGreatDoorRefPack
import Derived.Shelf.RegionOpen
import Derived.Laws.CopyRow
import Derived.Deep.MidRow
namespace Go.Proofs.YtddpjahoeldleaaGreatDoor
open Go.RowKit Go.Shelf
attribute [local go_sem] Oper.semAt_some

section
variable {F : Fence} {n : Nat} {P : Program} {ops : Array Oper} {rest : List Oper} {o : Oper} {a : Act} {w : World} {Q : Exit → Act → World → Prop}
theorem wpListIn_store_row (hgd : o.guard = none) (ty : TypeId) (x y : Operand) (ho : o.op = .store ty x y)
    (g : Nat) (cells : Array Value) (hx : a.eval x = .pointer (some ⟨g, 0, none⟩)) (hy : a.eval y = .agg cells)
    (t : TypeId) (old : Array Value) (hg : w.heap[g]? = some (.cells old t (0, 0))) (hi : (P.info? ty).map (·.size) = some cells.size)
    (hold : old.size = cells.size) (h1 : cells.all (·.oneCell') = true)
    (h : wpListIn F n P ops Q rest (a.put o.dst undef) (w.setRow g cells)) : wpListIn F n P ops Q (o :: rest) a w :=
  wpListIn_plain hgd fun _ hK => by
    refine ⟨fun f hf => by simp [Oper.about, ho] at hf, ?_⟩
    rw [Oper.semAt_eq _ _ _ (fun c e => by rw [ho] at e; cases e)]
    unfold execOp
    simp only [ho, hx, hy, Instr.storeAt, Instr.sureAddr, Sem.run_bind, Sem.run_pure, Result.andThen_ok, run_storeVar_row w g t ty old cells hg hi hold h1]
    exact hK _ _ h
theorem wpListIn_load_row (hgd : o.guard = none) (ty : TypeId) (x : Operand) (ho : o.op = .load ty x)
    (g : Nat) (hx : a.eval x = .pointer (some ⟨g, 0, none⟩)) (t : TypeId) (cs : Array Value) (fr : Nat × Nat) (d : TypeDesc) (hg : w.heap[g]? = some (.cells cs t fr))
    (hu : P.underlying ty = some d) (hd : (match d with | .struct _ | .array _ _ => true | _ => false) = true) (hi : (P.info? ty).map (·.size) = some cs.size)
    (h : wpListIn F n P ops Q rest (a.put o.dst (.agg cs)) w) : wpListIn F n P ops Q (o :: rest) a w :=
  wpListIn_plain hgd fun _ hK => by
    refine ⟨fun f hf => by simp [Oper.about, ho] at hf, ?_⟩
    rw [Oper.semAt_eq _ _ _ (fun c e => by rw [ho] at e; cases e)]
    unfold execOp
    simp only [ho, hx, Instr.loadAt, Instr.sureAddr, Sem.run_bind, Sem.run_pure, Result.andThen_ok, run_loadVar_row w g t ty cs fr d hg hu hd hi]
    exact hK _ _ h
end
theorem keep_rowP {F : List Nat} {w w1 : World} (h : Keep F w w1) {g : Nat} (hg : g ∈ F) (cs : Array Value) : Keep F w (w1.setRow g cs) :=
  h.trans ⟨rfl, rfl, rfl, by simp, fun k _ hF => by
    have : k ≠ g := fun e => hF (by rw [e]; exact hg)
    simp [World.setRow, Array.getElem?_modify, Ne.symm this]⟩
theorem Consts.low {B : Nat} {w w' : World} (h : Consts w) (hb : Below B w w') (h2 : 2 < B) : Consts w' := by
  obtain ⟨t', fr', hr'⟩ := h.go
  exact ⟨t', fr', (hb.block _ h2).trans hr'⟩
/-- bytes copied behind a prefix -/
theorem rowB_copy {pre l : Bs} {o m : Nat} (ho : pre.length = o) (hm : m ≤ l.length) : ((rowB 64 pre).toList.take o ++ (byteCells l).take m ++ (rowB 64 pre).toList.drop (o + m)).toArray = rowB 64 (pre ++ l.take m) := by
  have hl : (byteCells pre).length = o := by rw [byteCells_len, ho]
  have e1 : (rowB 64 pre).toList = byteCells pre ++ List.replicate (64 - pre.length) (Value.int .u8 0) := by rw [rowB]
  have e2 : (byteCells l).take m = byteCells (l.take m) := by simp [byteCells, List.map_take]
  rw [e1, List.take_left' hl, ← List.drop_drop, List.drop_left' hl, e2, rowB, byteCells_app, List.drop_replicate, List.length_append, List.length_take, ho, Nat.min_eq_left hm]
  congr 1
  rw [show 64 - (o + m) = 64 - o - m by omega]
theorem rowB_zeros {l : Bs} {z : Nat} (h : l.length + z ≤ 64) : rowB 64 (l ++ List.replicate z 0) = rowB 64 l := by
  have e : byteCells (List.replicate z (0 : UInt8)) = List.replicate z (Value.int .u8 0) := by simp [byteCells]
  rw [rowB, rowB, byteCells_app, e, List.append_assoc, List.replicate_append_replicate, List.length_append, List.length_replicate]
  congr 3
  omega
theorem rd_row {w : World} {q : Nat} {T : TypeId} {s : Bs} {K : Nat} (h : Blk w q T (rowB K s)) {off n : Nat} (hn : off + n ≤ s.length) : Rd w w.heap.size 1 (some ⟨q, off, none⟩) n (byteCells ((s.drop off).take n)) := by
  have hl : ((s.drop off).take n).length = n := by rw [List.length_take, List.length_drop]; omega
  refine ⟨by rw [byteCells_len, hl, Nat.mul_one], fun _ => ⟨q, off, rfl, h.lt, fun j u hu => ?_⟩⟩
  have hj : j < n := by have := (List.getElem?_eq_some_iff.1 hu).1; rw [byteCells_len, hl] at this; exact this
  rw [h.cell, rowB_get (by omega)]
  rw [byteCells, List.getElem?_map, List.getElem?_take, if_pos hj, List.getElem?_drop, List.getElem?_eq_getElem (by omega)] at hu
  rw [byteN, List.getD_eq_getElem?_getD, List.getElem?_eq_getElem (by omega)]
  exact hu

/-- what a round keeps: what lay below n₀, and the two boxes -/
def KpC (n₀ q1 q2 : Nat) (W W' : World) : Prop := Below n₀ W W' ∧ W'.heap[q1]? = W.heap[q1]? ∧ W'.heap[q2]? = W.heap[q2]?
section
variable {n₀ q1 q2 : Nat}
theorem KpC.refl (W : World) : KpC n₀ q1 q2 W W := ⟨Below.refl _ _, rfl, rfl⟩
theorem KpC.trans {A B C : World} (h : KpC n₀ q1 q2 A B) (k : KpC n₀ q1 q2 B C) : KpC n₀ q1 q2 A C := ⟨h.1.trans k.1, k.2.1.trans h.2.1, k.2.2.trans h.2.2⟩
theorem KpC.put {w W : World} {l : Nat} {o o' : Obj} (h1 : n₀ ≤ w.heap.size) (h2 : q1 < w.heap.size) (h3 : q2 < w.heap.size) (hl : w.heap.size ≤ l) (hg : W.heap[l]? = some o) (hc : o.isCells = false) (hw : o.isWalk = false) : KpC n₀ q1 q2 W (W.putObj l o') :=
  ⟨belowK_b (w := w) h1 W l o o' hl hg hc hw, by simp [World.putObj, show l ≠ q1 by omega], by simp [World.putObj, show l ≠ q2 by omega]⟩
theorem KpC.of_below {W W' : World} (h : Below W.heap.size W W') (h1 : n₀ ≤ W.heap.size) (h2 : q1 < W.heap.size) (h3 : q2 < W.heap.size) : KpC n₀ q1 q2 W W' := ⟨h.mono h1, h.block _ h2, h.block _ h3⟩
theorem KpC.cell1 {W W' : World} (h : KpC n₀ q1 q2 W W') (i : Nat) : W'.cell? ⟨q1, i, none⟩ = W.cell? ⟨q1, i, none⟩ := World.cell?_of_block (w := W) h.2.1
theorem KpC.cell2 {W W' : World} (h : KpC n₀ q1 q2 W W') (i : Nat) : W'.cell? ⟨q2, i, none⟩ = W.cell? ⟨q2, i, none⟩ := World.cell?_of_block (w := W) h.2.2
end
theorem AbidesFrom.below {β : Type} {B : Nat} {J : β → World → Prop} (h : AbidesFrom B J) {s : β} {W W' : World} (hs : J s W) (hb : Below W.heap.size W W') : J s W' :=
  h s W W' none hs ⟨hb.os, hb.tape, hb.output, hb.size, fun k hk _ => hb.block k hk⟩ (fun r e => by cases e)
theorem infoSector : (Tryz.prog.info? 83).map (fun i => (i.zero, i.size)) = some (some (.agg (rowB 64 [])), 64) := by kernel_rfl

set_option maxRecDepth 100000 in
set_option maxHeartbeats 2000000 in
theorem parts1_in (n : Nat) (hn : 1 ≤ n) (l q1 q2 n₀ : Nat) (s : ByteArray) (nb : Nat) (h2 : s.size ≤ 8000) (hnb : nb ≤ 4096) (J Jx : List Bs → World → Prop) (W : World) (hJ : AbidesFrom W.heap.size J)
    (hY : ∀ pre (x : Bs) W1, J pre W1 → x.length = 64 → pre.length < countN s.size → YieldAt Fence.wide (n - 1) Tryz.prog l #[.agg (rowB 64 x)] W1 fun e W' =>
      (e = .returned (.bool true) ∧ J (pre ++ [x]) W' ∧ KpC n₀ q1 q2 W1 W') ∨ (e = .returned (.bool false) ∧ Jx (pre ++ [x]) W'))
    (hn0 : 2 < n₀) (hq1 : q1 < W.heap.size) (hq2 : q2 < W.heap.size) (hn1 : n₀ ≤ W.heap.size) (hk : Consts W) (hT : W.cell? ⟨q1, 0, none⟩ = some (.string s)) (hM : W.cell? ⟨q2, 0, none⟩ = some (.int .i64 (nb : Int))) (h0 : J [] W) :
    CallsIn Fence.wide n Tryz.prog 90 #[.func (.yield l) #[] #[], .pointer (some ⟨q1, 0, none⟩), .pointer (some ⟨q2, 0, none⟩)] W fun e W' => (∃ v, e = .returned v) ∧
      ((∃ ys, ys = packB nb s.data.toList ∧ J ys W') ∨ (∃ pre : List Bs, True ∧ Jx pre W')) := by
  obtain ⟨N, hN⟩ : ∃ N, N = countN s.size := ⟨_, rfl⟩
  have HN := Lib.hid hN
  have hcnt : ∀ w, Calls Tryz.prog 34 #[.int .i64 (s.size : Int)] w (Ret (.int .i64 (N : Int)) w) := fun w => by
    have := count_any (s.size : Int) w
    rwa [countI_nat, ← hN] at this
  have HCN := Lib.hid hcnt
  rw [← hN] at hY
  have HY := Lib.hid hY
  have HJ := Lib.hid hJ
  have HK := Lib.hid hk
  have hNb : N ≤ 200 := by rw [hN]; unfold countN; split <;> (try split) <;> omega
  have hmix : Tryz.prog.follows .mixedOrders = true := by kernel_rfl
  have hF46 : Fence.wide.fn 91 := trivial
  have hF11 : Fence.wide.fn 34 := trivial
  have hF47 : Fence.wide.fn 75 := trivial
  clear hcnt hN hY hJ hk
  refine callsIn_of_wp Tryz.func90 rfl trivial ?_ rfl
  simp only [Tryz.ntmps90, List.size_toArray, List.length_cons, List.length_nil, Nat.reduceAdd, Nat.reduceSub, Array.replicate_succ, Array.replicate_zero, List.push_toArray, List.append_toArray, List.nil_append, List.cons_append]
  gi_wp2_with (gi_at_call 34; refine (callsIn_wide.2 (HCN.out _)).mono ?_; rintro e w2 ⟨rfl, rfl⟩)
  gi_loopw [11] (fun i wr => ∃ k : Nat, k ≤ N ∧ i = .int .i64 k ∧ J ((List.range k).map (sectB nb s.data.toList)) wr ∧ KpC n₀ q1 q2 W wr ∧ W.heap.size ≤ wr.heap.size) (fun i _ => N - (intOf i).toNat)
  case atStart => exact ⟨0, Nat.zero_le _, rfl, h0, KpC.refl _, Nat.le_refl _⟩
  case round =>
    obtain ⟨k, hkN, rfl, hJs, hnx, hsz⟩ := hrel
    obtain ⟨Wr, hWr⟩ : ∃ Wr, Wr = wr := ⟨_, rfl⟩
    subst hWr
    have hT1 : Wr.cell? ⟨q1, 0, none⟩ = some (.string s) := (hnx.cell1 0).trans hT
    have hM1 : Wr.cell? ⟨q2, 0, none⟩ = some (.int .i64 (nb : Int)) := (hnx.cell2 0).trans hM
    by_cases hlt : k < N
    · obtain ⟨t, ht⟩ : ∃ t, t = s.data.toList := ⟨_, rfl⟩
      have k0 : (0 : Int) ≤ (k : Int) := by omega
      have k1 : (k : Int) < (N : Int) := by omega
      have k2 : 48 * k ≤ s.size := count_le h2 (by rw [← HN.out]; exact hlt)
      have k3 : (48 * (k : Int)) ≤ (s.size : Int) := by omega
      have k4 : k ≤ 200 := by omega
      obtain ⟨sr, hsr⟩ : ∃ sr, s.extract (48 * k) s.size = sr := ⟨_, rfl⟩
      obtain ⟨m, hm⟩ : ∃ m, m = s.size - 48 * k := ⟨_, rfl⟩
      have zr : sr.size = m := by rw [← hsr, ByteArray.size_extract, hm]; omega
      have HRL := Lib.hid (show sr.data.toList = t.drop (48 * k) by rw [← hsr, Lib.extract_data, ht, List.take_of_length_le]; rw [List.length_drop, list_size]; omega)
      have HM := Lib.hid hm
      have hm8 : m ≤ 8000 := by omega
      obtain ⟨hzs, hss⟩ := zero_of_info infoSector
      obtain ⟨hzh, hsh⟩ := zero_of_info info32b
      have g1 : q1 < Wr.heap.size := by omega
      have g2 : q2 < Wr.heap.size := by omega
      have hT2 : (Wr.alloc (.cells (rowB 64 []) 83)).cell? ⟨q1, 0, none⟩ = some (.string s) := (World.cell?_alloc_lt Wr _ ⟨q1, 0, none⟩ g1).trans hT1
      have hM2 : (Wr.alloc (.cells (rowB 64 []) 83)).cell? ⟨q2, 0, none⟩ = some (.int .i64 (nb : Int)) := (World.cell?_alloc_lt Wr _ ⟨q2, 0, none⟩ g2).trans hM1
      have HSS := Lib.hid hss
      have HSH := Lib.hid hsh
      have HT := Lib.hid ht
      have HNX := Lib.hid hnx
      have HJS := Lib.hid hJs
      clear hm hlt hss hsh ht hnx hJs
      gi_wp2_with fail
      rw [hsr]
      obtain ⟨g, hg⟩ : ∃ g, g = Wr.heap.size := ⟨_, rfl⟩
      have Bg := Blk.new Wr 83 (rowB 64 [])
      have kb0 := below_new Wr (.cells (rowB 64 []) 83)
      obtain ⟨W1, hW1⟩ : ∃ W1, Wr.alloc (.cells (rowB 64 []) 83) = W1 := ⟨_, rfl⟩
      rw [hW1] at hT2 hM2 Bg kb0 ⊢
      have KB0 := Lib.hid (Keep.of_below kb0 [g])
      rw [← hg] at g1 g2 Bg ⊢
      have HG := Lib.hid hg
      have BG := Lib.hid Bg
      clear hW1 hg kb0 Bg
      gi_region_with_o (gi_at_call 91; refine (callsIn_wide.2 (put_any _ g 0 64 4 nb 83 [] (by exact BG.out) rfl (by omega) (by omega))).mono ?_; rintro e w2 ⟨rfl, B2, K2⟩)
      rw [List.nil_append] at B2
      have BB2 := Lib.hid B2
      have KB2 := Lib.hid (KB0.out.drew.trans K2)
      clear B2 K2 hT1 hM1 hT2 hM2
      gi_wp2_with fail
      refine (callsIn_wide.2 (put_any w2 g 4 60 2 k 83 (leN nb 4) BB2.out (le_len _ _) (by omega) (by omega))).mono ?_
      rintro e w3 ⟨rfl, B3, K3⟩
      have BB3 := Lib.hid B3
      have KB3 := Lib.hid (KB2.out.trans K3)
      clear B3 K3
      gi_wp2_with fail
      refine (callsIn_wide.2 (put_any w3 g 6 58 2 m 83 (leN nb 4 ++ leN k 2) BB3.out (by rw [List.length_append, le_len, le_len]) (by omega) (by omega))).mono ?_
      rintro e w4 ⟨rfl, B4, K4⟩
      obtain ⟨mc, hmc⟩ : ∃ mc, mc = Nat.min m 48 := ⟨_, rfl⟩
      have hmc48 : mc ≤ 48 := by rw [hmc]; exact Nat.min_le_right _ _
      have hpl : (leN nb 4 ++ leN k 2 ++ leN m 2).length = 8 := by rw [List.length_append, List.length_append, le_len, le_len, le_len]
      have hcp := run_copy_str (P := Tryz.prog) w4 84 9 3 5 g 8 48 56 sr mc (by rw [zr, hmc]) (rowB 64 (leN nb 4 ++ leN k 2 ++ leN m 2)) 83 Tryz.underlying84 (by obtain ⟨i0, hi, _, hz1, _⟩ := info_parts info5b; rw [hi, Option.map_some, hz1]) B4 (by rw [rowB_size (by omega)]; omega)
      rw [rowB_copy hpl (by rw [list_size, zr, hmc]; exact Nat.min_le_left _ _)] at hcp
      obtain ⟨w5, hw5⟩ : ∃ w5, w5 = w4.setRow g (rowB 64 (leN nb 4 ++ leN k 2 ++ leN m 2 ++ sr.data.toList.take mc)) := ⟨_, rfl⟩
      rw [← hw5] at hcp
      have HBD := Lib.hid (show rowB 64 (leN nb 4 ++ leN k 2 ++ leN m 2 ++ sr.data.toList.take mc) = rowB 64 (bodyB nb k (t.drop (48 * k))) by
        rw [bodyB, ← HRL.out, list_size, zr]
        have e : sr.data.toList.take mc = sr.data.toList.take 48 := by
          by_cases h : m ≤ 48
          · rw [hmc, show Nat.min m 48 = m from Nat.min_eq_left h, List.take_of_length_le (by rw [list_size, zr]; exact Nat.le_refl _), List.take_of_length_le (by rw [list_size, zr]; exact h)]
          · rw [hmc, show Nat.min m 48 = 48 from Nat.min_eq_right (by omega)]
        rw [e, ← List.append_assoc]
        exact (rowB_zeros (by rw [List.length_append, hpl, List.length_take, list_size, zr]; omega)).symm)
      obtain ⟨bd, hbd⟩ : ∃ bd, bd = bodyB nb k (t.drop (48 * k)) := ⟨_, rfl⟩
      have B5 := Lib.hid (show Blk w5 g 83 (rowB 64 bd) by rw [hw5, hbd, ← HBD.out]; exact B4.put _)
      have K5 := Lib.hid (show Keep [g] Wr w5 by rw [hw5]; exact keep_rowP (KB3.out.trans K4) (g := g) (by simp) _)
      have hbl : bd.length = 56 := by rw [hbd]; exact body_len _ _ _
      have HBB := Lib.hid hbd
      have HBL := Lib.hid hbl
      have RD5 := Lib.hid (show Rd w5 w5.heap.size 1 (some ⟨g, 0, none⟩) 56 (byteCells bd) by
        have := rd_row B5.out (off := 0) (n := 56) (by omega)
        rwa [List.drop_zero, List.take_of_length_le (by omega)] at this)
      have HGE := Lib.hid (show ∀ j, j ∈ [g] → Wr.heap.size ≤ j from fun j hj => by rw [List.mem_singleton] at hj; rw [hj, HG.out]; exact Nat.le_refl _)
      have KC5 := Lib.hid ((HK.out.low HNX.out.1 hn0).below (K5.out.below (Nat.le_refl _) HGE.out))
      clear B4 K4 hw5 hbd hbl hpl
      gi_wp2_with fail
      refine (callsIn_wide.2 (hash_any _ _ bd w5 RD5.out KC5.out)).mono ?_
      rintro e w6 ⟨rfl, b6⟩
      obtain ⟨RH, hRH⟩ : ∃ RH, RH = rowB 32 (sha56 bd) := ⟨_, rfl⟩
      obtain ⟨ZH, hZH⟩ : ∃ ZH, ZH = rowB 32 [] := ⟨_, rfl⟩
      rw [← hRH]
      rw [← hZH] at hzh
      have sRH : RH.size = 32 := by rw [hRH]; exact rowB_size (by rw [sha_len]; exact Nat.le_refl _)
      have HI2 := Lib.hid (show (Tryz.prog.info? 125).map (·.size) = some RH.size by rw [sRH]; exact HSH.out)
      have HZ2 := Lib.hid (show ZH.size = RH.size by rw [sRH, hZH]; rfl)
      have HO2 := Lib.hid (show RH.all (·.oneCell') = true by rw [hRH]; exact rowB_one _ _)
      have B6 := Lib.hid (B5.out.below b6 B5.out.lt)
      have K6 := Lib.hid (K5.out.trans (Keep.of_below b6 [g]))
      obtain ⟨r, hr⟩ : ∃ r, r = w6.heap.size := ⟨_, rfl⟩
      have Br := Blk.new w6 125 ZH
      rw [← hr] at Br
      have HM3 := Lib.hid (show (w6.alloc (.cells ZH 125)).heap[r]? = some (.cells ZH 125 (0, 0)) from Br)
      obtain ⟨w7, hw7⟩ : ∃ w7, w7 = (w6.alloc (.cells ZH 125)).setRow r RH := ⟨_, rfl⟩
      have C7 := Lib.hid (show Blk w7 r 125 (rowB 32 (sha56 bd)) by rw [hw7, ← hRH]; exact Br.put RH)
      have b67 : Below w6.heap.size w6 w7 := by rw [hw7]; exact below_row (below_new w6 _) (by rw [hr]; exact Nat.le_refl _) RH
      have B7 := Lib.hid (B6.out.below b67 B6.out.lt)
      have K7 := Lib.hid (K6.out.trans (Keep.of_below b67 [g]))
      have HR := Lib.hid hr
      have HW7 := Lib.hid hw7
      have HRH := Lib.hid hRH
      clear b6 b67 hr hw7 Br hRH hZH hcp sRH
      gi_wp2_with (first
        | (rw [← HR.out]; refine wpListIn_store_row rfl 125 _ _ rfl r RH rfl rfl 125 ZH HM3.out HI2.out HZ2.out HO2.out ?_; rw [← HW7.out]))
      dsimp only [Act.put]
      have hs5 : (Tryz.prog.info? 5).map (·.size) = some 1 := by obtain ⟨i0, hi, _, hz1, _⟩ := info_parts info5b; rw [hi, Option.map_some, hz1]
      have e8 : ((byteCells (sha56 bd)).take 8).length = 8 := by rw [List.length_take, byteCells_len, sha_len]; rfl
      have hcp2 : ∀ u : World, u.heap = w7.heap → (Builtin.copy_ #[84, 84] 3 #[.slice (some ⟨g, 56, none⟩) 8 8, .slice (some ⟨r, 0, none⟩) 32 32]).run Tryz.prog u = .ok (.int .i64 8) (u.setRow g (rowB 64 (checkedB bd))) := fun u hu => by
        have hc := run_copy_row (P := Tryz.prog) u 84 84 3 5 g 56 8 8 ⟨r, 0, none⟩ 32 32 (rowB 64 bd) 83 ((byteCells (sha56 bd)).take 8) Tryz.underlying84 hs5 (by rw [hu]; exact B7.out) (by rw [e8]; rfl) (fun j v hv => by
          rw [Addr.add_mid, Nat.zero_add]
          have hj : j < 8 := by have := (List.getElem?_eq_some_iff.1 hv).1; rw [e8] at this; exact this
          have hb : Blk u r 125 (rowB 32 (sha56 bd)) := by unfold Blk; rw [hu]; exact C7.out
          rw [hb.cell, rowB_get (by rw [sha_len]; omega)]
          rw [List.getElem?_take, if_pos hj, byteCells, List.getElem?_map, List.getElem?_eq_getElem (by rw [sha_len]; omega)] at hv
          rw [byteN, List.getD_eq_getElem?_getD, List.getElem?_eq_getElem (by rw [sha_len]; omega)]
          exact hv) (by rw [e8, rowB_size (by rw [HBL.out]; omega)]; omega) (fun v hv => by
          have := List.mem_of_mem_take hv
          rw [byteCells, List.mem_map] at this
          obtain ⟨x, _, rfl⟩ := this
          rfl)
        rw [e8, rowB_copy HBL.out (by rw [sha_len]; omega)] at hc
        rw [checkedB]
        exact hc
      have hcp3 := hcp2 w7.drew rfl
      obtain ⟨w8, hw8⟩ : ∃ w8, w8 = w7.drew.setRow g (rowB 64 (checkedB bd)) := ⟨_, rfl⟩
      rw [← hw8] at hcp3
      have hcl : (checkedB bd).length = 64 := checked_len HBL.out
      have HX := Lib.hid (show checkedB bd = sectB nb t k by rw [sectB, HBB.out])
      have C8 := Lib.hid (show w8.heap[g]? = some (.cells (rowB 64 (sectB nb t k)) 83 (0, 0)) by rw [← HX.out, hw8]; exact (show Blk w7.drew g 83 (rowB 64 bd) from B7.out).put _)
      have K8 := Lib.hid (show Keep [g] Wr w8 by rw [hw8]; exact keep_rowP K7.out.drew (g := g) (by simp) _)
      have HI8 := Lib.hid (show (Tryz.prog.info? 83).map (·.size) = some (rowB 64 (sectB nb t k)).size by rw [← HX.out, rowB_size (by rw [hcl]; exact Nat.le_refl _)]; exact HSS.out)
      have hb8 : Below Wr.heap.size Wr w8 := K8.out.below (Nat.le_refl _) HGE.out
      have hJ8 := AbidesFrom.below HJ.out HJS.out hb8
      have hlen : ((List.range k).map (sectB nb t)).length < N := by rw [List.length_map, List.length_range]; omega
      have KC8 := Lib.hid (show KpC n₀ q1 q2 W w8 from HNX.out.trans (KpC.of_below hb8 (by omega) (by rw [← HG.out]; exact g1) (by rw [← HG.out]; exact g2)))
      have HB8 := Lib.hid hb8
      obtain ⟨fn, tmps, assign, body, hy, hRy⟩ := HY.out _ (sectB nb t k) w8 (by rw [← HT.out] at hJ8; exact hJ8) (sect_len nb t k) hlen
      clear e8 hcp2 hw8 hb8 hJ8 hcl hlen
      gi_region_with_o (fail)
      gi_wp2_with (first
        | (refine wpListIn_load_row rfl 83 _ rfl g rfl 83 (rowB 64 (sectB nb t k)) (0, 0) _ C8.out Tryz.underlying83 rfl HI8.out ?_))
      refine hRy.mono ?_
      rintro e W9 (⟨rfl, hJ9, hk9⟩ | ⟨rfl, hJx9⟩)
      · gi_wp2
        go_roundw
        case rel => exact ⟨k + 1, by omega, by go_num, by rw [List.range_succ, List.map_append, HT.out] at *; exact hJ9, KC8.out.trans hk9, by have := KC8.out.1.size; have := hk9.1.size; omega⟩
        case measure => simp [intOf]; omega
      · gi_wp2
        refine bodyPost_ret (results_none rfl _ _ _) rfl ?_
        exact ⟨⟨_, rfl⟩, .inr ⟨_, trivial, hJx9⟩⟩
    · obtain rfl : k = N := by omega
      gi_wp2
      go_end0
      exact ⟨⟨_, rfl⟩, .inl ⟨_, by rw [packB, list_size, ← HN.out], hJs⟩⟩
end Go.Proofs.YtddpjahoeldleaaGreatDoor
