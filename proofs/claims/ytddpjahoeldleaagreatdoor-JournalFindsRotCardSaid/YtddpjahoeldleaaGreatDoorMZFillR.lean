/- Contract of filled. -/
import Derived.Test.YtddpjahoeldleaaGreatDoorMJStateB
import Derived.Test.YtddpjahoeldleaaGreatDoorMJStepsB
import Derived.Test.YtddpjahoeldleaaGreatDoorMJMore
import Derived.Test.YtddpjahoeldleaaGreatDoorMJReg
import Derived.Deep.Upon

/-! filled: a new disk with a journal on it, and records appended to it. -/
namespace Go.Proofs.YtddpjahoeldleaaGreatDoor
open Go.RowKit Go.Maps
open Dk (Sim)

section
variable {ops : Array Oper} {o : Oper} {rest : List Oper} {a : Act} {X : World} {Q : Exit → Act → World → Prop}
theorem list_appS (hgd : o.guard = none) (s x : Operand) (ho : o.op = .call { callee := .builtin .append, args := #[s, x], argTypes := #[28, 28] }) (hty : o.type = 28) (v : Value) (n : Nat) (zs : List Bs) (hs : a.eval s = v) (h : X.ownsRow 0 9 1 v n (strCells zs)) (z : Bs) (b : Nat) (hx : a.eval x = .slice (some ⟨b, 0, none⟩) 1 1)
    (ha : X.cell? ⟨b, 0, none⟩ = some (str z)) (hn : n ≤ 100000)
    (hK : ∀ A c X', X'.ownsRow 0 9 1 (.slice A (n + 1) c) (n + 1) (strCells (zs ++ [z])) → X.grownBy X' v.ownBlock → ((Value.slice A (n + 1) c).ownBlock = v.ownBlock ∨ (Value.slice A (n + 1) c).ownBlock = some X.heap.size) → wpList Tryz.prog ops Q rest (a.put o.dst (.slice A (n + 1) c)) X') :
    wpList Tryz.prog ops Q (o :: rest) a X := by
  have h := step_appS (ops := ops) (K := wpList Tryz.prog ops Q rest) (Q := Q) (E := True) hgd s x ho hty v n zs hs h z b hx ha hn hK
  have hw : Region.wanted o (yielded ops a.tmps) = true := by simp [Region.wanted, hgd]
  rw [if_pos hw] at h
  rw [wpList, if_pos hw]
  exact .inl h
end
/-- a list of texts of the law's own, beside a journal -/
structure Own1 (w0 W : World) (vT : Value) (R : List Bs) (vt : Value) : Prop where
  texts : W.ownsRow w0.heap.size 9 1 vT R.length (strCells R)
  apart : ∀ k, vT.ownBlock = some k → vt.ownBlock ≠ some k
section
variable {w0 W W' : World} {j g gb gp gw K : Nat} {vn vb vt vt' vT : Value} {J : JV} {S : Dk.St} {R : List Bs}
theorem Own1.below (h : Own1 w0 W vT R vt) (hb : Below W.heap.size W W') : Own1 w0 W' vT R vt := ⟨own_below h.texts hb, h.apart⟩
theorem Own1.app (h : Own1 w0 W vT R vt) (hj : JD w0 W j g gb gp gw K vn vb vt J S) (hk : Keep (j :: (ob vn ++ ob vt ++ [g, gb, gp, gw])) W W') (h2 : Aged W vt vt') : Own1 w0 W' vT R vt' := by
  refine ⟨own_keepF h.texts hk fun k hq hm => ?_, fun k hk e => ?_⟩
  · rcases List.mem_cons.1 hm with rfl | hm
    · exact row_neb hj.jat.head h.texts (by decide) _ hq (List.mem_cons_self ..)
    · rcases List.mem_append.1 hm with hm | hm
      · rcases List.mem_append.1 hm with hm | hm
        · exact types_ne h.texts hj.jat.nums (by decide) k hq hm
        · exact h.apart k hq (mem_ob.1 hm)
      · exact row_disk h.texts hj.dd.disk (by decide) (by decide) k hq hm
  · rcases h2 k e with e1 | e1
    · exact h.apart k hk e1
    · have := (h.texts.lt k hk).2; omega
/-- the law's list changes, the journal does not -/
theorem JD.list1 (h : JD w0 W j g gb gp gw K vn vb vt J S) (ho : Own1 w0 W vT R vt) (hk : Keep (ob vT) W W') : JD w0 W' j g gb gp gw K vn vb vt J S := by
  have hT : ∀ k, k ∈ ob vT → k ≠ j ∧ k ∉ ob vn ∧ k ∉ ob vb ∧ k ∉ [g, gb, gp, gw] := fun k hk => by
    rw [mem_ob] at hk
    exact ⟨fun e => row_neb h.jat.head ho.texts (by decide) k hk (by rw [e]; exact List.mem_cons_self ..), types_ne ho.texts h.jat.nums (by decide) k hk, types_ne ho.texts h.jat.bad (by decide) k hk, row_disk ho.texts h.dd.disk (by decide) (by decide) k hk⟩
  have hf : ∀ k, k ∈ ob vT → w0.heap.size ≤ k := fun k hk => (ho.texts.lt k (mem_ob.1 hk)).1
  refine ⟨⟨h.dd.disk.keep hk (fun k hk => ?_), h.dd.below.trans (hk.below h.dd.below.size hf), h.dd.g0, h.dd.gb0, h.dd.gp0, h.dd.gw0, h.dd.pend⟩, h.jat.keep hk (fun hm => ?_) (fun k hk hm => ?_) (fun k hk hm => ?_) (fun k hk hm => ?_), h.j0, h.fn, h.fb, h.ft⟩
  · have h4 := (hT k hk).2.2.2
    simp only [List.mem_cons, List.not_mem_nil, or_false, not_or] at h4
    exact h4
  · exact (hT _ hm).1 rfl
  · exact (hT _ hm).2.1 (mem_ob.2 hk)
  · exact (hT _ hm).2.2.1 (mem_ob.2 hk)
  · exact ho.apart k (mem_ob.1 hm) hk
/-- the list has grown -/
theorem Own1.grow {w9 : World} {v9 : Value} (h : Own1 w0 W vT R vt) (hj : JD w0 W j g gb gp gw K vn vb vt J S) {t : Bs} (G9 : Grew W vT w9 v9) (o9 : w9.ownsRow w0.heap.size 9 1 v9 (R.length + 1) (strCells (R ++ [t]))) : Own1 w0 w9 v9 (R ++ [t]) vt := by
  refine ⟨by rw [List.length_append, List.length_singleton]; exact o9, fun k hk e => ?_⟩
  rcases G9.aged k hk with e1 | e1
  · exact h.apart k e1 e
  · have := (hj.jat.texts.lt k e).2; omega
end
/-- element k of a script -/
theorem rd_step {w : World} {B n k : Nat} {A : Option Addr} {os : List StepV} (h : Script w B A n os) (hk : k < n) :
    ∃ b off o, A = some ⟨b, off, none⟩ ∧ b < B ∧ os[k]? = some o ∧ w.cell? ⟨b, off + k * 6, none⟩ = some (.int .i64 o.k) ∧ w.cell? ⟨b, off + k * 6 + 1, none⟩ = some (.int .i64 o.i) ∧ w.cell? ⟨b, off + k * 6 + 2, none⟩ = some (.int .i64 o.bit) ∧ w.cell? ⟨b, off + k * 6 + 3, none⟩ = some (.int .i64 o.size) ∧ w.cell? ⟨b, off + k * 6 + 4, none⟩ = some (.int .u8 (o.fill.toNat : Int)) ∧ w.cell? ⟨b, off + k * 6 + 5, none⟩ = some (.slice o.A o.n o.c) := by
  obtain ⟨b, off, e, hb, hc⟩ := h.rd.2 (by omega)
  have hl := h.len
  have ho : os[k]? = some os[k] := List.getElem?_eq_getElem (by omega)
  have at_ : ∀ j u, (stepCells os[k])[j]? = some u → w.cell? ⟨b, off + k * 6 + j, none⟩ = some u := fun j u hu => by
    have hj : j < 6 := by have := (List.getElem?_eq_some_iff.1 hu).1; simpa [stepCells] using this
    rw [Nat.add_assoc]
    exact hc _ u ((stepsCells_at os k j _ ho hj).trans hu)
  exact ⟨b, off, os[k], e, hb, ho, at_ 0 _ rfl, at_ 1 _ rfl, at_ 2 _ rfl, at_ 3 _ rfl, at_ 4 _ rfl, at_ 5 _ rfl⟩
theorem own_up {w : World} {base e s n : Nat} {v : Value} {xs : List Value} (h : w.ownsRow 0 e s v n xs) (hb : ∀ k, v.ownBlock = some k → base ≤ k) : w.ownsRow base e s v n xs := by
  refine ⟨h.1, ?_⟩
  rcases h.2 with hn | ⟨g, cap, cur, rfl, _, hg, rest⟩
  · exact .inl hn
  · exact .inr ⟨g, cap, cur, rfl, hb g (by simp [Value.ownBlock]), hg, rest⟩
theorem blk6 {w : World} {b : Nat} {ty : TypeId} {a0 a1 a2 a3 a4 a5 : Value} (h : Blk w b ty #[a0, a1, a2, a3, a4, a5]) : w.cell? ⟨b, 0, none⟩ = some a0 ∧ w.cell? ⟨b, 1, none⟩ = some a1 ∧ w.cell? ⟨b, 2, none⟩ = some a2 ∧ w.cell? ⟨b, 3, none⟩ = some a3 ∧ w.cell? ⟨b, 4, none⟩ = some a4 ∧ w.cell? ⟨b, 5, none⟩ = some a5 :=
  ⟨h.cell 0, h.cell 1, h.cell 2, h.cell 3, h.cell 4, h.cell 5⟩

/-- a step's text -/
def IsStep (t : Bs) : Prop := ∃ (z : Int) (f : UInt8), t = stepT z f
/-- what filled leaves -/
def FillPost (N : Nat) (w : World) : Ending → World → Prop := fun e w' => ∃ g gb gp gw K S T R vT, e = .returned (.tuple #[.pointer (some ⟨g, 0, none⟩), vT, .bool true]) ∧ DD w w' g gb gp gw K S ∧ K ≤ 2400 ∧ Sim S T ∧ Full T R ∧ R.length ≤ 12 ∧ T.s.length = N ∧ (∀ t ∈ R, IsStep t) ∧ w'.ownsRow w.heap.size 9 1 vT R.length (strCells R)
theorem app_at1 {w0 W : World} {j g gb gp gw K : Nat} {vn vb vt : Value} {R : List Bs} {S : Dk.St} {T : Dk.RSt} (h : JD w0 W j g gb gp gw K vn vb vt (fullJ R) S) (hk : Consts w0) (hK : K + 200 ≤ 100000) (hF : Full T R) (h4 : T.s.length ≤ 4096) (s : ByteArray) :
    Calls Tryz.prog 14 #[.pointer (some ⟨j, 0, none⟩), .string s] W (fun e W' => ∃ vn' vt', e = .returned (.tuple #[.int .i64 (appR (fullJ R) S s.data.toList).n, .int .i64 (appR (fullJ R) S s.data.toList).err]) ∧ JD w0 W' j g gb gp gw (K + 200) vn' vb vt' (appR (fullJ R) S s.data.toList).J (appR (fullJ R) S s.data.toList).S ∧ Keep (j :: (ob vn ++ ob vt ++ [g, gb, gp, gw])) W W' ∧ Aged W vn vn' ∧ Aged W vt vt') := by
  have hl := hF.len
  have hf := hF.few
  have hn : (fullJ R).nums.length ≤ 90000 := by show ((recsFrom 1 R).map _).length ≤ _; rw [List.length_map, ← List.length_map (f := Prod.fst), recs_fst, List.length_range']; omega
  exact (app_any W j g vn vb vt _ gb gp gw K S h.jat h.dd.disk h.dd.pend (hk.below h.dd.below) hK s (show 1 ≤ (R.length : Int) + 1 by omega) (show 0 ≤ ((imgFrom 1 R).length : Int) by omega) (show ((imgFrom 1 R).length : Int) ≤ 4096 by omega) hn (show R.length ≤ 90000 by omega)).mono fun e W' hp => h.app2 hp
set_option maxHeartbeats 8000000 in
set_option maxRecDepth 100000 in
theorem filled_any (N : Nat) (N1 : 1 ≤ N) (N2 : N ≤ 200) (Al : Option Addr) (nl cl : Nat) (os : List StepV) (w : World) (B0 : Nat) (hB : B0 ≤ w.heap.size) (hs : Script w B0 Al nl os) (hl : nl ≤ 12) (hk : Consts w) :
    Calls Tryz.prog 8 #[.int .i64 (N : Int), .slice Al nl cl] w (FillPost N w) := by
  have HK := Lib.hid hk
  have HS := Lib.hid hs
  clear hk hs
  go_enter Tryz.func8, Tryz.ntmps8
  go_wp2_with fail
  refine (Dk.new_any w N N1 (by omega)).mono ?_
  rintro e w1 hn
  obtain ⟨g, gb, gp, gw, rfl, d1⟩ := dd_new hn
  have D1 := Lib.hid d1
  have S1 := Lib.hid (Dk.sim_new N N [] N1)
  have F1 := Lib.hid (full_new N N [])
  have HC0 := Lib.hid (check0 S1.out rfl)
  have HOJ := Lib.hid (show openJ (Dk.newS N) = fullJ [] by rw [sim_open S1.out, F1.out.open_])
  clear d1 hn
  go_wp2_with fail
  refine (open_any w1 g gb gp gw 0 _ D1.out.disk (HK.out.below D1.out.below)).mono ?_
  rintro e w2 hp
  obtain ⟨j, vn, vb, vt, rfl, j2⟩ := D1.out.open_ hp HC0.out
  rw [HOJ.out] at j2
  have J2 := Lib.hid j2
  clear j2 hp
  go_wp2_with fail
  go_loopw [11, 40] (fun aT x wr => ∃ (i : Nat) (R : List Bs) (S : Dk.St) (T : Dk.RSt) (vn vt vT : Value), i ≤ nl ∧ R.length ≤ i ∧ x = .int .i64 i ∧ vT = aT ∧ Hid (JD w wr j g gb gp gw (200 * i) vn vb vt (fullJ R) S) ∧ Hid (Sim S T) ∧ Hid (Full T R) ∧ Hid (T.s.length = N) ∧ Hid (∀ t ∈ R, IsStep t) ∧ Hid (Own1 w wr vT R vt)) (fun _ x _ => nl - (intOf x).toNat)
  case atStart => exact ⟨0, [], _, _, vn, vt, _, by omega, Nat.le_refl _, rfl, rfl, J2, S1, F1, Lib.hid (by show (List.replicate N Dk.zSec).length = N; simp), Lib.hid (fun t h => by cases h), Lib.hid ⟨World.ownsRow_nil _ _ _ _, fun k hk => by simp [Value.ownBlock] at hk⟩⟩
  case round =>
    obtain ⟨i, R, S, T, vn, vt, vT, hi, hR, rfl, rfl, JX, SM, HF, L, HST, HO⟩ := hrel
    by_cases hlt : i < nl
    · obtain ⟨b, off, o, rfl, hbl, ho, x0, x1, x2, x3, x4, x5⟩ := rd_step (HS.out.keep (fun p hp => JX.out.dd.below.cell (Nat.lt_of_lt_of_le hp hB))) hlt
      obtain ⟨ok, hok⟩ : ∃ x, x = o.k := ⟨_, rfl⟩
      obtain ⟨oi, hoi⟩ : ∃ x, x = o.i := ⟨_, rfl⟩
      obtain ⟨ob_, hob⟩ : ∃ x, x = o.bit := ⟨_, rfl⟩
      obtain ⟨osz, hos⟩ : ∃ x, x = o.size := ⟨_, rfl⟩
      obtain ⟨of_, hof⟩ : ∃ x, x = o.fill := ⟨_, rfl⟩
      obtain ⟨oA, hoA⟩ : ∃ x, x = o.A := ⟨_, rfl⟩
      obtain ⟨on, hon⟩ : ∃ x, x = o.n := ⟨_, rfl⟩
      obtain ⟨oc, hoc⟩ : ∃ x, x = o.c := ⟨_, rfl⟩
      rw [← hok] at x0
      rw [← hoi] at x1
      rw [← hob] at x2
      rw [← hos] at x3
      rw [← hof] at x4
      rw [← hoA, ← hon, ← hoc] at x5
      clear hok hoi hob hos hof hoA hon hoc ho hbl
      have j1 : (i : Int) < (nl : Int) := by omega
      have j0 : (0 : Int) ≤ (i : Int) := by omega
      go_wp2_with fail
      obtain ⟨w1, hw1⟩ : ∃ w1, w1 = wr.alloc (.cells #[.int .i64 ok, .int .i64 oi, .int .i64 ob_, .int .i64 osz, .int .u8 (of_.toNat : Int), .slice oA on oc] 25) := ⟨_, rfl⟩
      have B1 := Lib.hid (show Below wr.heap.size wr w1 by rw [hw1]; exact below_new _ _)
      have Q1 := Lib.hid (show Blk w1 wr.heap.size 25 #[.int .i64 ok, .int .i64 oi, .int .i64 ob_, .int .i64 osz, .int .u8 (of_.toNat : Int), .slice oA on oc] by rw [hw1]; exact Blk.new _ _ _)
      rw [← hw1]
      clear hw1 x0 x1 x2 x3 x4 x5
      obtain ⟨y0, y1, y2, y3, y4, y5⟩ := blk6 Q1.out
      obtain ⟨t, ht⟩ : ∃ t, t = stepT osz of_ := ⟨_, rfl⟩
      obtain ⟨s, hs⟩ : ∃ s : ByteArray, s = ⟨t.toArray⟩ := ⟨_, rfl⟩
      have HSD := Lib.hid (show s.data.toList = t by rw [hs])
      have HIS := Lib.hid (show IsStep s.data.toList from ⟨osz, of_, by rw [hs, ht]⟩)
      have HTX := Lib.hid (show ∀ W, Calls Tryz.prog 15 #[.agg #[.int .i64 ok, .int .i64 oi, .int .i64 ob_, .int .i64 osz, .int .u8 (of_.toNat : Int), .slice oA on oc]] W (RetB (.string s) W) from fun W => by
        have h := rtext_any ok oi ob_ osz of_ oA on oc W
        rwa [← ht, show str t = .string s by rw [hs]] at h)
      clear ht hs
      go_wp2_with fail
      refine (HTX.out _).mono ?_
      rintro e w2 ⟨rfl, b2⟩
      have B2 := Lib.hid (below_go B1.out b2)
      have J2 := Lib.hid (JX.out.go B2.out)
      have O2 := Lib.hid (HO.out.below B2.out)
      have Q2 := Lib.hid (Q1.out.below b2 Q1.out.lt)
      clear b2 B1 y0 y1 y2 y3 y4 y5
      go_wp2_with fail
      refine (app_at1 J2.out HK.out (by omega) HF.out (by have := L.out; omega) s).mono ?_
      rintro e w3 ⟨vn', vt', rfl, j3, k3, ag1, ag2⟩
      have J3 := Lib.hid j3
      have O3 := Lib.hid (O2.out.app J2.out k3 ag2)
      have Q3 := Lib.hid (show Blk w3 wr.heap.size 25 _ from (k3.block _ Q2.out.lt (fun hm => by have := JX.out.far _ hm; omega)).trans Q2.out)
      clear j3 k3 ag1 ag2
      obtain ⟨a1, a2, a3, a4⟩ := sim_app SM.out (fullJ R) s.data.toList
      have HS4 := Lib.hid a4
      have HLN := Lib.hid (show R.length < 4096 by omega)
      rcases HF.out.app s.data.toList HLN.out with ⟨b1, b2, b3, b4, b5⟩ | ⟨b1, b2, b3⟩
      · rw [a1, a2, b1, b2]
        have J4 := Lib.hid (show JD w w3 j g gb gp gw (200 * i + 200) vn' vb vt' (fullJ (R ++ [s.data.toList])) _ by have h := J3.out; rw [a3, b3] at h; exact h)
        have F4 := Lib.hid b4
        have L4 := Lib.hid (b5.trans L.out)
        obtain ⟨y0, y1, y2, y3, y4, y5⟩ := blk6 Q3.out
        obtain ⟨AT, cT, rfl, -⟩ := own_slice O3.out.texts
        clear a1 a2 a3 a4 b1 b2 b3 b4 b5
        go_wp2_with fail
        refine (HTX.out _).mono ?_
        rintro e w4 ⟨rfl, b4⟩
        have J5 := Lib.hid (J4.out.go b4)
        have O5 := Lib.hid (O3.out.below b4)
        have NS := Lib.hid (show (w4.alloc (.cells #[.string s] 9)).cell? ⟨w4.heap.size, 0, none⟩ = some (str s.data.toList) from ((Blk.new w4 9 #[.string s]).cell 0).trans (by rw [← str_of (s := s) rfl]; rfl))
        clear b4 y0 y1 y2 y3 y4 y5
        go_wp2_with (at_builtin; refine list_appS rfl _ _ rfl rfl _ R.length R rfl ((own_weak O5.out.texts).alloc _) s.data.toList w4.heap.size rfl NS.out (by omega) ?_)
        intro A9 c9 w9 o9 g9 h9
        have G9 := Lib.hid (grew (w := w4) (below_new _ (.cells #[.string s] 9)) g9 (by rw [World.size_alloc]; exact h9))
        have J9 := Lib.hid (J5.out.list1 O5.out G9.out.keep)
        have O9 := Lib.hid (O5.out.grow J5.out G9.out (own_up o9 (fun q hq => by
          rcases G9.out.aged q hq with h | h
          · exact (O5.out.texts.lt q h).1
          · have := J5.out.dd.below.size; omega)))
        clear o9 g9 h9
        go_wp2_with fail
        go_roundw
        case rel => exact ⟨i + 1, R ++ [s.data.toList], _, _, _, _, _, by omega, by rw [List.length_append, List.length_singleton]; omega, by go_num, rfl, Lib.hid (J9.out.mono (by omega)), HS4, F4, L4, Lib.hid (fun x hx => (List.mem_append.1 hx).elim (HST.out x) (fun h => by rw [List.mem_singleton.1 h]; exact HIS.out)), O9⟩
        case measure => simp [intOf]; omega
      · rw [a1, a2]
        have J4 := Lib.hid (show JD w w3 j g gb gp gw (200 * i + 200) vn' vb vt' (fullJ R) _ by have h := J3.out; rw [a3, b2] at h; exact h)
        have HS5 := Lib.hid (show Sim (appR (fullJ R) S s.data.toList).S T by have h := a4; rw [b3] at h; exact h)
        obtain ⟨nn, hnn⟩ : ∃ nn, nn = (appT (fullJ R) T s.data.toList).n := ⟨_, rfl⟩
        rw [← hnn]
        rcases b1 with b1 | b1
        · rw [b1]
          clear a1 a2 a3 a4 b1 b2 b3 hnn
          go_wp2_with fail
          go_roundw
          case rel => exact ⟨i + 1, R, _, T, _, _, _, by omega, by omega, by go_num, rfl, Lib.hid (J4.out.mono (by omega)), HS5, HF, L, HST, O3⟩
          case measure => simp [intOf]; omega
        · rw [b1]
          clear a1 a2 a3 a4 b1 b2 b3 hnn
          go_wp2_with fail
          go_roundw
          case rel => exact ⟨i + 1, R, _, T, _, _, _, by omega, by omega, by go_num, rfl, Lib.hid (J4.out.mono (by omega)), HS5, HF, L, HST, O3⟩
          case measure => simp [intOf]; omega
    · obtain rfl : i = nl := by omega
      go_wp2_with fail
      go_ret3
      exact ⟨g, gb, gp, gw, _, S, T, R, _, rfl, JX.out.dd, by omega, SM.out, HF.out, by omega, L.out, HST.out, HO.out.texts⟩
theorem filled_bad (sectors : Int) (n1 : -9223372036854775808 ≤ sectors) (n2 : sectors ≤ 9223372036854775807) (hb : sectors < 1 ∨ 4096 < sectors) (v : Value) (w : World) : Calls Tryz.prog 8 #[.int .i64 sectors, v] w (Ret (.tuple #[.pointer none, .slice none 0 0, .bool false]) w) := by
  go_enter Tryz.func8, Tryz.ntmps8
  go_wp2_with fail
  refine (Dk.new_bad w sectors n1 n2 hb).mono ?_
  rintro e w' ⟨rfl, rfl⟩
  go_wp2_with fail
  go_ret3
  exact ⟨rfl, rfl⟩
end Go.Proofs.YtddpjahoeldleaaGreatDoor

/-! A slice of strings of the call's own that may start anywhere in its block. -/
namespace Go.Proofs.YtddpjahoeldleaaGreatDoor
open Go.RowKit

/-- v is a slice of strings of the call's own that holds xs -/
def QAt (w : World) (base : Nat) (v : Value) (xs : List Value) : Prop :=
  (v = .slice none 0 0 ∧ xs = []) ∨ ∃ g off cap, v = .slice (some ⟨g, off, none⟩) xs.length cap ∧ base ≤ g ∧ g < w.heap.size ∧ xs.length ≤ cap ∧ cap ≤ maxLen ∧
    (∀ j, j < cap → (w.cell? ⟨g, off + j, none⟩).isSome = true ∧ w.frozen? ⟨g, off + j, none⟩ = false) ∧ (∀ j u, xs[j]? = some u → w.cell? ⟨g, off + j, none⟩ = some u)

section
variable {w w' : World} {base : Nat} {v : Value} {xs : List Value}
theorem QAt.nil (w : World) (base : Nat) : QAt w base (.slice none 0 0) [] := .inl ⟨rfl, rfl⟩
theorem QAt.lt (h : QAt w base v xs) {k : Nat} (hk : v.ownBlock = some k) : base ≤ k ∧ k < w.heap.size := by
  rcases h with ⟨rfl, _⟩ | ⟨g, off, cap, rfl, h1, h2, _⟩
  · cases hk
  · injection hk with hk; subst hk; exact ⟨h1, h2⟩
theorem QAt.kept {row : Option Nat} (h : QAt w base v xs) (hg : w.grownBy w' row) (hne : v.ownBlock = none ∨ v.ownBlock ≠ row) : QAt w' base v xs := by
  rcases h with h | ⟨g, off, cap, rfl, h1, h2, h3, h4, h5, h6⟩
  · exact .inl h
  · have hb : w'.heap[g]? = w.heap[g]? := hg.block g h2 (hne.elim (fun h => nomatch h) id)
    exact .inr ⟨g, off, cap, rfl, h1, Nat.lt_of_lt_of_le h2 hg.size, h3, h4,
      fun j hj => ⟨by rw [World.cell?_of_block (a := ⟨g, off + j, none⟩) hb]; exact (h5 j hj).1, by rw [World.frozen?_of_block (a := ⟨g, off + j, none⟩) hb]; exact (h5 j hj).2⟩,
      fun j u hu => by rw [World.cell?_of_block (a := ⟨g, off + j, none⟩) hb]; exact h6 j u hu⟩
theorem QAt.below {B : Nat} (h : QAt w base v xs) (hb : Below B w w') (hB : w.heap.size ≤ B) : QAt w' base v xs := by
  rcases h with h | ⟨g, off, cap, rfl, h1, h2, h3, h4, h5, h6⟩
  · exact .inl h
  · have hb' : w'.heap[g]? = w.heap[g]? := hb.block g (by omega)
    exact .inr ⟨g, off, cap, rfl, h1, Nat.lt_of_lt_of_le h2 hb.size, h3, h4,
      fun j hj => ⟨by rw [World.cell?_of_block (a := ⟨g, off + j, none⟩) hb']; exact (h5 j hj).1, by rw [World.frozen?_of_block (a := ⟨g, off + j, none⟩) hb']; exact (h5 j hj).2⟩,
      fun j u hu => by rw [World.cell?_of_block (a := ⟨g, off + j, none⟩) hb']; exact h6 j u hu⟩
theorem QAt.base_le {base' : Nat} (h : QAt w base v xs) (hb : base' ≤ base) : QAt w base' v xs := by
  rcases h with h | ⟨g, off, cap, rfl, h1, h⟩
  · exact .inl h
  · exact .inr ⟨g, off, cap, rfl, Nat.le_trans hb h1, h⟩
/-- .. as a list that reads -/
theorem QAt.rd (h : QAt w base v xs) : ∃ A c, v = .slice A xs.length c ∧ xs.length ≤ c ∧ Rd w w.heap.size 1 A xs.length xs := by
  rcases h with ⟨rfl, rfl⟩ | ⟨g, off, cap, rfl, h1, h2, h3, h4, h5, h6⟩
  · exact ⟨none, 0, rfl, Nat.le_refl _, Rd.nil⟩
  · exact ⟨_, cap, rfl, h3, by simp, fun _ => ⟨g, off, rfl, h2, h6⟩⟩
theorem tape_setCells (g : Nat) : ∀ (vs : List Value) (o : Nat) (w : World), (w.setCells g o vs).tape = w.tape
  | [], _, _ => rfl
  | _ :: vs, o, _ => (tape_setCells g vs (o + 1) _).trans rfl
theorem run_append_q (w : World) (base : Nat) (v : Value) (xs : List Value) (h : QAt w base v xs) (hbase : base ≤ w.heap.size) (x : Value) (n : Nat) (news : List Value) (hs : Src Tryz.prog 1 28 x n news w) (hn : xs.length + n ≤ 1000000) :
    ∃ v' w', (Builtin.append_ #[28, 28] 28 #[v, x]).run Tryz.prog w = .ok v' w' ∧ QAt w' base v' (xs ++ news) ∧ w.grownBy w' v.ownBlock ∧ (v'.ownBlock = v.ownBlock ∨ v'.ownBlock = some w.heap.size) := by
  obtain ⟨i0, hi, hz0, hz1, hz2⟩ := info_parts info9
  have hnl : news.length = n := by have := hs.newsLen; omega
  have hlen : (xs ++ news).length = xs.length + n := by rw [List.length_append, hnl]
  have hs' : Src Tryz.prog i0.size 28 x n news w := by rw [hz1]; exact hs
  have grow : ∀ (A : Option Addr) (c : Nat), v = .slice A xs.length c → c < xs.length + n → (Builtin.firstCells 1 xs.length (.slice A xs.length c)).run Tryz.prog w.drew = .ok xs.toArray w.drew →
      ∃ v' w', (Builtin.append_ #[28, 28] 28 #[v, x]).run Tryz.prog w = .ok v' w' ∧ QAt w' base v' (xs ++ news) ∧ w.grownBy w' v.ownBlock ∧ (v'.ownBlock = v.ownBlock ∨ v'.ownBlock = some w.heap.size) := by
    rintro A c rfl hc hold
    have hrun := run_append_grow_src (P := Tryz.prog) w 28 28 28 9 i0 _ Tryz.underlying28 hi hz0 A xs.length c xs (by rw [hz1]; exact hold) x n news hs' hc (by omega) (growslice_fits (by omega) (by rw [hz2]; omega))
    have hge := grownCap_ge w (xs.length + n) c 9
    have hcm := grownCap_le_maxLen w (xs.length + n) c 9 (by unfold maxLen; omega)
    refine ⟨_, _, hrun, .inr ⟨w.heap.size, 0, _, by rw [hlen], hbase, by simp, by rw [hlen]; exact hge, hcm, fun j hj => ?_, fun j u hu => ?_⟩, ⟨rfl, rfl, rfl, by simp, fun k hk _ => heap_alloc_old w.drew _ hk⟩, .inr rfl⟩
    · rw [Nat.zero_add]
      have e1 : (w.drew.alloc (.cells ((xs ++ news).toArray ++ Builtin.zeroCells (Value.string ⟨#[]⟩).cells (grownCap w (xs.length + n) c 9 - (xs.length + n))) 9)).cell? ⟨w.heap.size, j, none⟩ = _ := World.cell?_alloc_new w.drew _ _ j
      refine ⟨?_, World.frozen?_alloc_new w.drew _ _ j⟩
      rw [e1, Array.getElem?_eq_getElem (by
        rw [Array.size_append, List.size_toArray, hlen, size_zeroCells]
        show j < xs.length + n + (grownCap w (xs.length + n) c 9 - (xs.length + n)) * 1
        omega)]
      rfl
    · rw [Nat.zero_add]
      have e1 : (w.drew.alloc (.cells ((xs ++ news).toArray ++ Builtin.zeroCells (Value.string ⟨#[]⟩).cells (grownCap w (xs.length + n) c 9 - (xs.length + n))) 9)).cell? ⟨w.heap.size, j, none⟩ = _ := World.cell?_alloc_new w.drew _ _ j
      have hj : j < (xs ++ news).length := (List.getElem?_eq_some_iff.1 hu).1
      rw [e1, Array.getElem?_append_left (by rw [List.size_toArray]; exact hj), List.getElem?_toArray]
      exact hu
  rcases h with ⟨rfl, rfl⟩ | ⟨g, off, cap, rfl, h1, h2, h3, h4, h5, h6⟩
  · by_cases h0 : n = 0
    · subst h0
      obtain rfl : news = [] := List.eq_nil_of_length_eq_zero hnl
      exact ⟨_, _, run_append_nothing (P := Tryz.prog) w 28 28 28 9 i0 Tryz.underlying28 hi none 0 0 (Nat.le_refl _) x hs', QAt.nil _ _, ⟨rfl, rfl, rfl, Nat.le_refl _, fun _ _ _ => rfl⟩, .inl rfl⟩
    · exact grow none 0 rfl (by omega) (by rfl)
  · by_cases hroom : xs.length + n ≤ cap
    · have hsome : ∀ j, j < news.length → (w.cell? ⟨g, off + xs.length * i0.size + j, none⟩).isSome = true := fun j hj => by
        rw [hz1, Nat.mul_one, Nat.add_assoc]; exact (h5 (xs.length + j) (by omega)).1
      have hfr : ∀ j, j < news.length → w.frozen? ⟨g, off + xs.length * i0.size + j, none⟩ = false := fun j hj => by
        rw [hz1, Nat.mul_one, Nat.add_assoc]; exact (h5 (xs.length + j) (by omega)).2
      have hrun := run_append_room_src (P := Tryz.prog) w 28 28 28 9 i0 Tryz.underlying28 hi g off xs.length cap x n news hs' hroom hsome hfr
      rw [hz1, Nat.mul_one] at hrun hsome
      have hkb := World.keptBut_setCells g (may := fun p => p.block = g) news (off + xs.length) w (fun _ _ => rfl)
      have hin : ∀ j (hj : j < news.length), (w.setCells g (off + xs.length) news).cell? ⟨g, off + xs.length + j, none⟩ = some (news[j]'hj) := fun j hj => World.cell?_setCells_in g news (off + xs.length) w hsome j hj
      have hout : ∀ j, j < xs.length ∨ xs.length + n ≤ j → (w.setCells g (off + xs.length) news).cell? ⟨g, off + j, none⟩ = w.cell? ⟨g, off + j, none⟩ := fun j hj =>
        World.cell?_setCells_out g news (off + xs.length) w ⟨g, off + j, none⟩ (fun _ _ => by show off + j < off + xs.length ∨ off + xs.length + news.length ≤ off + j; omega)
      refine ⟨_, _, hrun, .inr ⟨g, off, cap, by rw [hlen], h1, Nat.lt_of_lt_of_le h2 hkb.size, by rw [hlen]; exact hroom, h4, fun j hj => ⟨?_, by rw [World.frozen?_setCells]; exact (h5 j hj).2⟩, fun j u hu => ?_⟩,
        ⟨World.os_setCells _ _ _ _, ?_, World.output_setCells _ _ _ _, hkb.size, fun k hk hne => World.heap_setCells_other w g _ news hk (fun e => hne (by rw [e]; rfl))⟩, .inl rfl⟩
      · by_cases hj2 : j < xs.length ∨ xs.length + n ≤ j
        · rw [hout j hj2]; exact (h5 j hj).1
        · have := hin (j - xs.length) (by omega)
          rw [show off + xs.length + (j - xs.length) = off + j by omega] at this
          rw [this]; rfl
      · have hj : j < xs.length + n := by rw [← hlen]; exact (List.getElem?_eq_some_iff.1 hu).1
        by_cases hj2 : j < xs.length
        · rw [hout j (.inl hj2)]
          exact h6 j u (by rwa [List.getElem?_append_left hj2] at hu)
        · have := hin (j - xs.length) (by omega)
          rw [show off + xs.length + (j - xs.length) = off + j by omega] at this
          rw [this]
          rw [List.getElem?_append_right (by omega), List.getElem?_eq_getElem (by omega)] at hu
          exact hu
      · exact tape_setCells _ _ _ _
    · exact grow (some ⟨g, off, none⟩) cap rfl (by omega) (by
        exact run_firstCells_some w.drew 1 xs.length ⟨g, off, none⟩ xs.length cap xs (by omega) (fun j u hu => by rw [Addr.add_lit]; exact h6 j u hu))
end

theorem step_append_q (w : World) {ops : Array Oper} {o : Oper} {a : Act} {K : Act → World → Prop} {Q : Exit → Act → World → Prop} {E : Prop} (hgd : o.guard = none) (s x : Operand)
    (ho : o.op = .call { callee := .builtin .append, args := #[s, x], argTypes := #[28, 28] }) (hty : o.type = 28)
    (base : Nat) (v : Value) (xs : List Value) (hs : a.eval s = v) (hq : QAt w base v xs) (hbase : base ≤ w.heap.size)
    (xv : Value) (n : Nat) (news : List Value) (hx : a.eval x = xv) (hsrc : Src Tryz.prog 1 28 xv n news w) (hn : xs.length + n ≤ 1000000)
    (h : ∀ v' w', QAt w' base v' (xs ++ news) → w.grownBy w' v.ownBlock → (v'.ownBlock = v.ownBlock ∨ v'.ownBlock = some w.heap.size) → K (a.put o.dst v') w') :
    if Region.wanted o (yielded ops a.tmps) = true then Oper.wp Tryz.prog o a w K Q else E := by
  have hw : Region.wanted o (yielded ops a.tmps) = true := by simp [Region.wanted, hgd]
  rw [if_pos hw]
  obtain ⟨v', w', hr, h2, h3, h4⟩ := run_append_q w base v xs hq hbase xv n news hsrc hn
  unfold Oper.wp execOp
  simp only [ho, hty, resolve, invoke, builtin, Sem.run_bind, Sem.run_pure, Result.andThen_ok, List.map_toArray, List.map_cons, List.map_nil, hs, hx, hr]
  exact h v' w' h2 h3 h4
theorem QAt.empty {w : World} {base g : Nat} (h1 : base ≤ g) (h2 : g < w.heap.size) : QAt w base (.slice (some ⟨g, 0, none⟩) 0 0) [] :=
  .inr ⟨g, 0, 0, rfl, h1, h2, Nat.le_refl _, by decide, fun j hj => by omega, fun j u hu => by simp at hu⟩
theorem src_cellS {w : World} {g : Nat} {s : ByteArray} (h : w.cell? ⟨g, 0, none⟩ = some (.string s)) : Src Tryz.prog 1 28 (.slice (some ⟨g, 0, none⟩) 1 1) 1 [.string s] w :=
  Src.ofSlice _ Tryz.underlying28 _ 1 1 [.string s] rfl (fun j u hu => by
    match j, hu with
    | 0, hu => simp at hu; subst hu; rw [Addr.add_lit]; exact h
    | j + 1, hu => simp at hu) (by intro u hu; simp at hu; subst hu; rfl)
/-- strings that read -/
theorem src_rd {w : World} {B n c : Nat} {A : Option Addr} {ss : List Bs} (h : Rd w B 1 A n (strCells ss)) : Src Tryz.prog 1 28 (.slice A n c) n (strCells ss) w := by
  have hl := h.1
  cases A with
  | none =>
    have h0 : n = 0 := by
      rcases Nat.eq_zero_or_pos n with h0 | h0
      · exact h0
      · obtain ⟨_, _, e, _⟩ := h.2 h0; cases e
    subst h0
    have : strCells ss = [] := List.eq_nil_of_length_eq_zero (by omega)
    rw [this]
    exact Src.ofNil _ Tryz.underlying28 c
  | some a =>
    refine Src.ofSlice _ Tryz.underlying28 a n c (strCells ss) (by omega) (fun j u hu => ?_) (fun u hu => ?_)
    · have hj := (List.getElem?_eq_some_iff.1 hu).1
      obtain ⟨b, off, e, _, hcell⟩ := h.2 (by omega)
      injection e with e
      subst e
      have := hcell j u hu
      rwa [Addr.add_lit]
    · obtain ⟨s, _, rfl⟩ := List.mem_map.1 hu; rfl
end Go.Proofs.YtddpjahoeldleaaGreatDoor
