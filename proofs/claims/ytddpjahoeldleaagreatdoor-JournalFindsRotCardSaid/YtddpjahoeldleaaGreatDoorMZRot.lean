/- The walk of JournalFindsRot. -/
import Derived.Test.YtddpjahoeldleaaGreatDoorMZFillR
import Derived.Test.YtddpjahoeldleaaGreatDoorMPRot
import Derived.Test.YtddpjahoeldleaaGreatDoorMJSanity
import Derived.Test.YtddpjahoeldleaaGreatDoorMJMore

namespace Go.Proofs.YtddpjahoeldleaaGreatDoor
open Go.RowKit Go.Maps
open Dk (Sim kI)

/-! the map of the bits that were turned -/
def heldB (D : Dk.Dt) (i : Nat) : Bool := match D.atKey (kI (i : Int)) (.lit (.bool false)) with
  | .lit (.bool b) => b
  | _ => false
/-- a map that holds the first parts of F -/
structure MapF (w : World) (m K : Nat) (F : List (Nat × Nat)) : Prop where
  own : ∃ D : Dk.Dt, w.ownsMap Tryz.prog 3 (plainElem Tryz.prog 4) m K D ∧ size D = F.length ∧ ∀ i : Nat, heldB D i = decide (i ∈ F.map Prod.fst) ∧ has D (kI (i : Int)) = decide (i ∈ F.map Prod.fst)
section
variable {w w' : World} {m K : Nat} {F : List (Nat × Nat)}
theorem MapF.new (w : World) : MapF (w.alloc (.map #[] 0)) w.heap.size 0 [] :=
  ⟨.map [], World.ownsMap_made w Tryz.prog 3 (plainElem Tryz.prog 4), rfl, fun _ => ⟨rfl, rfl⟩⟩
theorem MapF.lt (h : MapF w m K F) : m < w.heap.size := let ⟨_, h, _⟩ := h.own; h.lt
theorem MapF.same (h : MapF w m K F) (hb : w'.heap[m]? = w.heap[m]?) : MapF w' m K F := let ⟨D, h1, h2⟩ := h.own; ⟨D, Dk.ownsMap_block h1 hb, h2⟩
theorem MapF.keep (h : MapF w m K F) {G : List Nat} (hk : Keep G w w') (hm : m ∉ G) : MapF w' m K F := h.same (hk.block m h.lt hm)
theorem MapF.below (h : MapF w m K F) (hb : Below w.heap.size w w') : MapF w' m K F := h.same (hb.block m h.lt)
theorem MapF.look (h : MapF w m K F) (i : Nat) (hi : i ≤ 100000) : (Instr.lookup 63 (.map (some m)) (.int .i64 (i : Int)) false).run Tryz.prog w = .ok (.bool (decide (i ∈ F.map Prod.fst))) w := by
  obtain ⟨D, h1, _, h3⟩ := h.own
  obtain ⟨v, ps, hr, hv⟩ := h1.lookup Dk.law3 Tryz.underlying63 (Dk.zero4 w) (plainElem_bool Tryz.underlying4 false) (Dk.key_i (i := (i : Int)) (by omega) (by omega))
  obtain ⟨b, rfl, hd⟩ := Dk.plainElem_bool_inv Tryz.underlying4 hv
  simp only [Prod.mk.injEq] at hd
  have e : heldB D i = b := by unfold heldB; rw [hd.1]
  rw [← (h3 i).1, e]; exact hr
theorem MapF.store (h : MapF w m K F) (i b : Nat) (hi : i ≤ 100000) (hK : K ≤ 100000) (hn : i ∉ F.map Prod.fst) : ∃ w', (Instr.mapUpdate 63 (.map (some m)) (.int .i64 (i : Int)) (.bool true)).run Tryz.prog w = .ok () w' ∧ MapF w' m (K + 1) (F ++ [(i, b)]) ∧ Keep [m] w w' := by
  obtain ⟨D, h1, h2, h3⟩ := h.own
  obtain ⟨w', hr, hm, ht⟩ := h1.store Dk.law3 Tryz.underlying63 (by unfold maxLen; omega) (Dk.key_i (i := (i : Int)) (by omega) (by omega)) (plainElem_bool Tryz.underlying4 true)
  have hh : has D (kI (i : Int)) = false := by rw [(h3 i).2]; exact decide_eq_false hn
  refine ⟨w', hr, ⟨_, hm, ?_, fun j => ?_⟩, (Keep.refl _ _).turned ht (by simp)⟩
  · rw [size_put (h1.tidy Dk.law3), hh, h2, List.length_append]; rfl
  · by_cases e : j = i
    · subst e
      have hmm : j ∈ (F ++ [(j, b)]).map Prod.fst := by simp
      rw [decide_eq_true hmm, has_put_same h1.isMap (Dk.kI_key _), heldB, atKey_put_same h1.isMap (Dk.kI_key _)]
      exact ⟨rfl, rfl⟩
    · have hmm : decide (j ∈ (F ++ [(i, b)]).map Prod.fst) = decide (j ∈ F.map Prod.fst) := by
        rw [decide_eq_decide]
        simp [e]
      rw [hmm, has_put_other (Dk.kI_ne e), heldB, atKey_put_other (Dk.kI_ne e)]
      exact h3 j
theorem MapF.len (h : MapF w m K F) (ty : TypeId) : (Builtin.len_ #[63] ty #[.map (some m)]).run Tryz.prog w = .ok (.int .i64 (F.length : Int)) w := by
  obtain ⟨D, h1, h2, _⟩ := h.own
  rw [← h2]
  exact h1.len Tryz.underlying63 ty
end
/-- a map's change and a disk -/
theorem DD.keepM {w0 W W' : World} {g gb gp gw K m : Nat} {S : Dk.St} (h : DD w0 W g gb gp gw K S) (hk : Keep [m] W W') (hm : w0.heap.size ≤ m) (hne : m ∉ [g, gb, gp, gw]) : DD w0 W' g gb gp gw K S := by
  refine ⟨h.disk.keep hk (fun k hk => ?_), h.below.trans (hk.below h.below.size (fun k hk => by rw [List.mem_singleton.1 hk]; exact hm)), h.g0, h.gb0, h.gp0, h.gw0, h.pend⟩
  rw [List.mem_singleton.1 hk]
  simp only [List.mem_cons, List.not_mem_nil, or_false, not_or] at hne
  exact hne
theorem DD.postR {w0 W W' : World} {g gb gp gw K K' : Nat} {S S' : Dk.St} {v : Value} {e : Ending} (h : DD w0 W g gb gp gw K S) (hp : Dk.DPost v g gb gp gw K' S' W e W') (hP : Dk.PendOK S') : e = .returned v ∧ DD w0 W' g gb gp gw K' S' ∧ Keep [g, gb, gp, gw] W W' :=
  ⟨hp.1, ⟨hp.2.1, h.below.trans (hp.2.2.below h.below.size h.four), h.g0, h.gb0, h.gp0, h.gw0, hP⟩, hp.2.2⟩
theorem DD.open2 {w0 W W' : World} {g gb gp gw K : Nat} {S : Dk.St} (h : DD w0 W g gb gp gw K S) {e : Ending} (hp : OpenPost W g S e W') (hc : Dk.checkE S 0 = 0) : ∃ j vn vb vt, e = .returned (.tuple #[.pointer (some ⟨j, 0, none⟩), .int .i64 0]) ∧ JD w0 W' j g gb gp gw K vn vb vt (openJ S) S ∧ Below W.heap.size W W' := by
  obtain ⟨hb, hp⟩ := hp
  rcases hp with ⟨hn, _⟩ | ⟨_, j, vn, vb, vt, rfl, hj, hj0, f1, f2, f3⟩
  · exact absurd hc hn
  · have hs := h.below.size
    exact ⟨j, vn, vb, vt, rfl, ⟨h.go hb, hj, Nat.le_trans hs hj0, fresh_older f1 hs, fresh_older f2 hs, fresh_older f3 hs⟩, hb⟩

def u16Cells (bs : List Nat) : List Value := bs.map fun b : Nat => Value.int .u16 (b : Int)
theorem Rd.u16 {w : World} {B n : Nat} {A : Option Addr} {bs : List Nat} (h : Rd w B 1 A n (u16Cells bs)) {k : Nat} (hk : k < n) : ∃ b off x, A = some ⟨b, off, none⟩ ∧ x ∈ bs ∧ w.cell? ⟨b, off + k, none⟩ = some (.int .u16 (x : Int)) := by
  obtain ⟨b, off, u, e, _, hu, hc⟩ := h.at1 hk
  rw [u16Cells, List.getElem?_map, Option.map_eq_some_iff] at hu
  obtain ⟨x, hx, rfl⟩ := hu
  exact ⟨b, off, x, e, List.mem_of_getElem? hx, hc⟩
theorem rd_take {w : World} {B n j b o : Nat} {R : List Bs} (h : Rd w B 1 (some ⟨b, o, none⟩) n (strCells R)) (hn : R.length = n) (hj : j ≤ n) : Rd w B 1 (some ⟨b, o, none⟩) j (strCells (R.take j)) := by
  refine ⟨by simp [strCells]; omega, fun h0 => ?_⟩
  obtain ⟨b', o', e, hb, hc⟩ := h.2 (by omega)
  refine ⟨b', o', e, hb, fun q u hu => hc q u ?_⟩
  rw [strCells, List.map_take, List.getElem?_take] at hu
  split at hu
  · exact hu
  · cases hu
theorem rd_drop {w : World} {B n k b o : Nat} {R : List Bs} (h : Rd w B 1 (some ⟨b, o, none⟩) n (strCells R)) (hn : R.length = n) (hk : k ≤ n) : Rd w B 1 (some ⟨b, o + k, none⟩) (n - k) (strCells (R.drop k)) := by
  refine ⟨by simp [strCells]; omega, fun h0 => ?_⟩
  obtain ⟨b', o', e, hb, hc⟩ := h.2 (by omega)
  injection e with e
  injection e with e1 e2
  subst e1 e2
  refine ⟨b, o + k, rfl, hb, fun q u hu => ?_⟩
  rw [Nat.add_assoc]
  refine hc _ u ?_
  rwa [strCells, List.map_drop, List.getElem?_drop] at hu
theorem rd_cut {w : World} {B n k b o cT : Nat} {R : List Bs} (h : Rd w B 1 (some ⟨b, o, none⟩) n (strCells R)) (hn : R.length = n) (hc : n ≤ cT) (hk : k ≤ n) : Rd w B 1 (if cT = k then some ⟨b, o, none⟩ else some ⟨b, o + k, none⟩) (n - k) (strCells (R.drop k)) := by
  by_cases e : cT = k
  · rw [if_pos e]
    refine ⟨by simp [strCells]; omega, fun h0 => by omega⟩
  · rw [if_neg e]
    exact rd_drop h hn hk
/-- where record h begins -/
def atR (R : List Bs) (j : Nat) : Nat := (imgFrom 1 (R.take j)).length
theorem atR_succ {R : List Bs} {j : Nat} (hj : j < R.length) : atR R (j + 1) = atR R j + countN (R[j]).length := by
  rw [atR, atR, List.take_succ_eq_append_getElem hj, img_snoc, List.length_append, pack_len]

set_option maxHeartbeats 16000000 in
set_option maxRecDepth 100000 in
theorem law_rot (sectors : Int) (n1 : -9223372036854775808 ≤ sectors) (n2 : sectors ≤ 9223372036854775807) (Al : Option Addr) (nl cl : Nat) (os : List StepV) (kk : Nat) (hkk : kk ≤ 255) (Ab : Option Addr) (nb cb : Nat) (bs : List Nat) (hbs : ∀ b ∈ bs, b < 65536) (w : World)
    (hs : Script w w.heap.size Al nl os) (hl : nl ≤ 9223372036854775807) (hb : Rd w w.heap.size 1 Ab nb (u16Cells bs)) (hb2 : nb ≤ 9223372036854775807) (hk : Consts w) (hkr : RConsts w) :
    Calls Tryz.prog 6 #[.int .i64 sectors, .slice Al nl cl, .int .u8 (kk : Int), .slice Ab nb cb] w (RetB (.bool true) w) := by
  have HK := Lib.hid hk
  have HKR := Lib.hid hkr
  have HS := Lib.hid hs
  have HB := Lib.hid hb
  have HBS := Lib.hid hbs
  clear hk hs hb hkr hbs
  by_cases g1 : 200 < sectors
  · go_enter Tryz.func6, Tryz.ntmps6
    go_wp2_with fail
    refine (sanity_any _ HK.out).mono ?_
    rintro e w' ⟨rfl, b⟩
    go_wp2_with fail
    go_ret
    exact ⟨rfl, b⟩
  by_cases g2 : 12 < nl
  · have d2 : (12 : Int) < (nl : Int) := by omega
    go_enter Tryz.func6, Tryz.ntmps6
    go_wp2_with fail
    refine (sanity_any _ HK.out).mono ?_
    rintro e w' ⟨rfl, b⟩
    go_wp2_with fail
    go_ret
    exact ⟨rfl, b⟩
  have d2 : ¬ (12 : Int) < (nl : Int) := by omega
  by_cases g3 : 8 < nb
  · have d3 : (8 : Int) < (nb : Int) := by omega
    go_enter Tryz.func6, Tryz.ntmps6
    go_wp2_with fail
    refine (sanity_any _ HK.out).mono ?_
    rintro e w' ⟨rfl, b⟩
    go_wp2_with fail
    go_ret
    exact ⟨rfl, b⟩
  have d3 : ¬ (8 : Int) < (nb : Int) := by omega
  rcases Nat.eq_zero_or_pos nb with rfl | g5
  · go_enter Tryz.func6, Tryz.ntmps6
    go_wp2_with fail
    refine (sanity_any _ HK.out).mono ?_
    rintro e w' ⟨rfl, b⟩
    go_wp2_with fail
    go_ret
    exact ⟨rfl, b⟩
  have d5 : ((nb : Int) == 0) = false := beq_eq_false_iff_ne.2 (by omega)
  by_cases g4 : sectors < 1
  · go_enter Tryz.func6, Tryz.ntmps6
    go_wp2_with fail
    refine (filled_bad sectors n1 n2 (.inl g4) _ _).mono ?_
    rintro e w' ⟨rfl, rfl⟩
    go_wp2_with fail
    refine (sanity_any _ HK.out).mono ?_
    rintro e w' ⟨rfl, b⟩
    go_wp2_with fail
    go_ret
    exact ⟨rfl, b⟩
  obtain ⟨N, rfl⟩ : ∃ N : Nat, sectors = (N : Int) := ⟨sectors.toNat, by omega⟩
  have N1 : 1 ≤ N := by omega
  have N2 : N ≤ 200 := by omega
  clear n1 n2 g1 g2 g3 g4
  go_enter Tryz.func6, Tryz.ntmps6
  go_wp2_with fail
  refine (filled_any N N1 N2 Al nl cl os w w.heap.size (Nat.le_refl _) HS.out (by omega) HK.out).mono ?_
  rintro e w2 ⟨g, gb, gp, gw, K, S, T, R, vT, rfl, d2, k2, s2, f2, r2, l2, t2, o2⟩
  have D2 := Lib.hid d2
  have SM := Lib.hid s2
  have HF := Lib.hid f2
  have L2 := Lib.hid l2
  have ST := Lib.hid t2
  have O2 := Lib.hid o2
  obtain ⟨AT, cT, rfl, hcT⟩ := own_slice o2
  clear d2 s2 f2 l2 o2 t2
  obtain ⟨M, hM⟩ : ∃ M, M = R.length := ⟨_, rfl⟩
  have HM := Lib.hid hM
  rw [← hM] at r2 O2 hcT ⊢
  clear hM
  rcases Nat.eq_zero_or_pos M with rfl | hM0
  · go_wp2_with fail
    refine (sanity_any _ (HK.out.below D2.out.below)).mono ?_
    rintro e w' ⟨rfl, b⟩
    have B := Lib.hid (below_go D2.out.below b)
    clear b
    go_wp2_with fail
    go_ret
    exact ⟨rfl, B.out⟩
  have e0 : ((M : Int) == 0) = false := beq_eq_false_iff_ne.2 (by omega)
  obtain ⟨H, hH⟩ : ∃ H, H = kk % M := ⟨_, rfl⟩
  have hHM : H < M := by rw [hH]; exact Nat.mod_lt _ hM0
  have m1 : ((kk : Int).tmod (M : Int)) = (H : Int) := by rw [Int.tmod_eq_emod_of_nonneg (by omega), hH]; rfl
  have m2 : IntKind.i64.wrap (H : Int) = (H : Int) := IntWalk.i64_in _ (by omega)
  obtain ⟨gT, oT, rfl, -, -⟩ := (Rd.of_own O2.out).2 hM0
  have c1 : H ≤ cT := by omega
  have c2 : ¬ cT = 0 := by omega
  clear hH
  go_wp2_with fail
  go_quiet (fail)
  obtain ⟨w3, hw3⟩ : ∃ w3, w3 = w2.drewN nq := ⟨_, rfl⟩
  have B3 := Lib.hid (show Below w2.heap.size w2 w3 by rw [hw3]; exact below_drewN (Below.refl _ _) nq)
  rw [← hw3]
  clear hw3
  have D3 := Lib.hid (D2.out.go B3.out)
  have O3 := Lib.hid (own_below O2.out B3.out)
  have TX := Lib.hid (show ∀ W, Below w3.heap.size w3 W → ∀ j (hj : j < R.length), W.cell? ⟨gT, oT + j, none⟩ = some (str R[j]) from fun W hb j hj => by
    obtain ⟨b, o, e, -, hc⟩ := ((Rd.of_own O3.out).go hb).str HM.out.symm (k := j) (by rw [HM.out]; exact hj)
    injection e with e
    injection e with e1 e2
    subst e1 e2
    exact hc)
  clear B3 D2 O2
  go_wp2_with fail
  go_loopw [12, 73] (fun aT x wr => ∃ (j a : Nat), j ≤ H ∧ x = .int .i64 j ∧ aT = .int .i64 a ∧ a ≤ 200 * j ∧ wr = w3 ∧ Hid (a = atR R j)) (fun _ x _ => H - (intOf x).toNat)
  case atStart => exact ⟨0, 0, by omega, rfl, rfl, by omega, rfl, Lib.hid rfl⟩
  case round =>
    obtain ⟨j, a, hj, rfl, rfl, ha, rfl, HA⟩ := hrel
    by_cases hlt : j < H
    · have hjR : j < R.length := by have := HM.out; omega
      obtain ⟨sj, hsj⟩ : ∃ sj : ByteArray, sj = ⟨R[j].toArray⟩ := ⟨_, rfl⟩
      have x0 : wr.cell? ⟨gT, oT + j, none⟩ = some (.string sj) := by rw [hsj]; exact TX.out _ (Below.refl _ _) j hjR
      obtain ⟨c, hc⟩ : ∃ c, c = countI (sj.size : Int) := ⟨_, rfl⟩
      have CN := Lib.hid (show Calls Tryz.prog 34 #[.int .i64 (sj.size : Int)] wr (Ret (.int .i64 (c : Int)) wr) by rw [hc]; exact count_any _ _)
      have HC := Lib.hid (show c = countN (R[j]).length by rw [hc, hsj, mk_size, countI_nat])
      have hc2 : c ≤ 200 := by rw [HC.out]; unfold countN; split <;> (try split) <;> omega
      have j1 : (j : Int) < (H : Int) := by omega
      have j0 : (0 : Int) ≤ (j : Int) := by omega
      have j2 : (j : Int) < (M : Int) := by omega
      have HA2 := Lib.hid (show a + c = atR R (j + 1) by rw [atR_succ hjR, HA.out, HC.out])
      clear hsj hc
      go_wp2_with fail
      refine CN.out.mono ?_
      rintro e w' ⟨rfl, rfl⟩
      go_wp2_with fail
      go_roundw
      case rel => exact ⟨j + 1, a + c, by omega, by go_num, by go_num, by omega, True.intro, HA2⟩
      case measure => simp [intOf]; omega
    · obtain rfl : j = H := by omega
      have hjR : j < R.length := by have := HM.out; omega
      obtain ⟨t, ht⟩ : ∃ t, t = R[j] := ⟨_, rfl⟩
      obtain ⟨sj, hsj⟩ : ∃ sj : ByteArray, sj = ⟨t.toArray⟩ := ⟨_, rfl⟩
      have x0 : wr.cell? ⟨gT, oT + j, none⟩ = some (.string sj) := by rw [hsj, ht]; exact TX.out _ (Below.refl _ _) j hjR
      obtain ⟨c, hc⟩ : ∃ c, c = countI (sj.size : Int) := ⟨_, rfl⟩
      have CN := Lib.hid (show Calls Tryz.prog 34 #[.int .i64 (sj.size : Int)] wr (Ret (.int .i64 (c : Int)) wr) by rw [hc]; exact count_any _ _)
      have HC := Lib.hid (show c = countN t.length by rw [hc, hsj, mk_size, countI_nat])
      have hc2 : c ≤ 200 := by rw [HC.out]; unfold countN; split <;> (try split) <;> omega
      have HT := Lib.hid (show R[j]? = some t by rw [ht, List.getElem?_eq_getElem hjR])
      have j0 : (0 : Int) ≤ (j : Int) := by omega
      have j2 : (j : Int) < (M : Int) := by omega
      clear hsj hc ht hjR
      have hmm := @run_makeMap Tryz.prog
      go_wp2_with fail
      refine CN.out.mono ?_
      rintro e w' ⟨rfl, rfl⟩
      go_wp2_with fail
      obtain ⟨w4, hw4⟩ : ∃ w4, w4 = wr.alloc (.map #[] 0) := ⟨_, rfl⟩
      obtain ⟨m, hm⟩ : ∃ m, m = wr.heap.size := ⟨_, rfl⟩
      have B4 := Lib.hid (show Below wr.heap.size wr w4 by rw [hw4]; exact below_new _ _)
      have M4 := Lib.hid (show MapF w4 m 0 [] by rw [hw4, hm]; exact MapF.new _)
      have HMN := Lib.hid (show m ∉ [g, gb, gp, gw] by
        have h := D3.out.disk.lt
        simp only [List.mem_cons, List.not_mem_nil, or_false, not_or]
        omega)
      have HMW := Lib.hid (show w.heap.size ≤ m by rw [hm]; exact D3.out.below.size)
      have HMT := Lib.hid (show gT ≠ m from fun e => by
        have h := (O3.out.lt (k := gT) rfl).2
        omega)
      rw [← hw4, ← hm]
      clear hw4 hm
      have D4 := Lib.hid (D3.out.go B4.out)
      have O4 := Lib.hid (own_below O3.out B4.out)
      have c3 : 1 ≤ c := by rw [HC.out]; exact count_pos (HF.out.small t (List.mem_of_getElem? HT.out))
      clear D3 O3 TX B4 CN x0 hmm
      go_loopw [92] (fun x wq => ∃ (q : Nat) (F : List (Nat × Nat)) (S : Dk.St) (T : Dk.RSt), q ≤ nb ∧ x = .int .i64 q ∧ F.length ≤ q ∧ (q = 0 ∨ F ≠ []) ∧ Hid (DD w wq g gb gp gw K S) ∧ Hid (Sim S T) ∧ Hid (Rots T R j t F) ∧ Hid (wq.ownsRow w.heap.size 9 1 (.slice (some ⟨gT, oT, none⟩) M cT) M (strCells R)) ∧ Hid (MapF wq m q F) ∧ Hid ((F.map Prod.fst).Nodup) ∧ Hid (∀ x ∈ F, x.1 < countN t.length ∧ x.2 < 512)) (fun x _ => nb - (intOf x).toNat)
      case atStart => exact ⟨0, [], S, T, by omega, rfl, Nat.le_refl _, .inl rfl, D4, SM, Lib.hid (HF.out.rots HT.out), O4, M4, Lib.hid List.nodup_nil, Lib.hid (fun x hx => by cases hx)⟩
      case round =>
        obtain ⟨q, F, S, T, hq, rfl, hFq, hF0, DX, SX, RX, OX, MX, ND, FX⟩ := hrel
        by_cases hlt : q < nb
        · obtain ⟨bb, ob2, b, rfl, hbm, y0⟩ := (HB.out.keep (fun p hp => DX.out.below.cell hp)).u16 hlt
          have hb5 := HBS.out b hbm
          have j1 : (q : Int) < (nb : Int) := by omega
          have j0 : (0 : Int) ≤ (q : Int) := by omega
          clear hbm
          obtain ⟨i, hi⟩ : ∃ i, i = b / 512 % c := ⟨_, rfl⟩
          have hic : i < c := by rw [hi]; exact Nat.mod_lt _ c3
          have q1 : max (1 : Int) (c : Int) = (c : Int) := by omega
          have q2 : (b : Int) / 512 % (c : Int) = (i : Int) := by rw [hi]; rfl
          obtain ⟨d, hd⟩ : ∃ d, d = b % 512 := ⟨_, rfl⟩
          have hdl : d < 512 := by omega
          have q3 : (b : Int) % 512 = (d : Int) := by rw [hd]; rfl
          have hlk := MX.out.look i (by omega)
          clear hi hd
          by_cases hmem : i ∈ F.map Prod.fst
          · rw [decide_eq_true hmem] at hlk
            have hF1 : F ≠ [] := fun e => by rw [e] at hmem; cases hmem
            clear hmem
            go_wp2_with fail
            go_roundw
            case rel => exact ⟨q + 1, F, S, T, by omega, by go_num, by omega, .inr hF1, DX, SX, RX, OX, Lib.hid (let ⟨D, h1, h2⟩ := MX.out.own; ⟨D, h1.mono (by omega), h2⟩), ND, FX⟩
            case measure => simp [intOf]; omega
          · rw [decide_eq_false hmem] at hlk
            obtain ⟨w5, hst, m5, k5⟩ := MX.out.store i d (by omega) (by omega) hmem
            have M5 := Lib.hid m5
            have D5 := Lib.hid (DX.out.keepM k5 HMW.out HMN.out)
            have O5 := Lib.hid (own_keepF OX.out k5 (fun k hk hx => HMT.out ((Option.some.inj hk).trans (List.mem_singleton.1 hx))))
            have ND5 := Lib.hid (show ((F ++ [(i, d)]).map Prod.fst).Nodup by
              rw [List.map_append, List.nodup_append]
              refine ⟨ND.out, by simp, fun x hx y hy e => hmem ?_⟩
              have h2 : y = i := by simpa using hy
              rw [← h2, ← e]
              exact hx)
            have FX5 := Lib.hid (show ∀ x ∈ F ++ [(i, d)], x.1 < countN t.length ∧ x.2 < 512 from fun x hx => by
              rcases List.mem_append.1 hx with h | h
              · exact FX.out x h
              · rw [List.mem_singleton.1 h]; exact ⟨by rw [← HC.out]; exact hic, hdl⟩)
            obtain ⟨r1, r2, -⟩ := rot_step RX.out (i := i) (b := d) (by rw [← HC.out]; exact hic) hdl
            have hat : (((imgFrom 1 (R.take j)).length + i : Nat) : Int) = (a : Int) + (i : Int) := by
              have : (imgFrom 1 (R.take j)).length = a := HA.out.symm
              omega
            rw [hat] at r1 r2
            have R5 := Lib.hid r2
            have S5 := Lib.hid (SX.out.rot ((a : Int) + (i : Int)) (d : Int))
            have E5 := (SX.out.rotE ((a : Int) + (i : Int)) (d : Int)).trans r1
            have RT := Lib.hid (show Calls Tryz.prog 27 #[.pointer (some ⟨g, 0, none⟩), .int .i64 ((a : Int) + (i : Int)), .int .i64 (d : Int)] w5 (Dk.DPost (.int .i64 0) g gb gp gw K (Dk.rotS S ((a : Int) + (i : Int)) (d : Int)) w5) by
              have h := Dk.rot_any w5 g gb gp gw K S D5.out.disk ((a : Int) + (i : Int)) (d : Int)
              rwa [E5] at h)
            have hlF : (F ++ [(i, d)]).length ≤ q + 1 := by rw [List.length_append, List.length_singleton]; omega
            clear m5 k5 hmem r1 r2 hat E5
            go_wp2_with fail
            refine RT.out.mono ?_
            rintro e w6 hp
            obtain ⟨rfl, d6, k6⟩ := D5.out.postR hp S5.out.pendOK
            have D6 := Lib.hid d6
            have O6 := Lib.hid (own_keepF O5.out k6 (row_disk O5.out D5.out.disk (by decide) (by decide)))
            have M6 := Lib.hid (M5.out.keep k6 HMN.out)
            clear hp d6 k6
            go_wp2_with fail
            go_roundw
            case rel => exact ⟨q + 1, F ++ [(i, d)], _, _, by omega, by go_num, hlF, .inr (by simp), D6, S5, R5, O6, M6, ND5, FX5⟩
            case measure => simp [intOf]; omega
        · obtain rfl : q = nb := by omega
          have hF1 : F ≠ [] := hF0.resolve_left (by omega)
          have HFQ := Lib.hid hFq
          clear hFq hF0 hlt
          obtain ⟨nB, hnb⟩ : ∃ x, x = S.bl.length := ⟨_, rfl⟩
          obtain ⟨gv, hgv⟩ : ∃ x, x = genB S.bl R := ⟨_, rfl⟩
          have HGV := Lib.hid hgv
          have IM := Lib.hid (show Calls Tryz.prog 18 #[.pointer (some ⟨g, 0, none⟩)] wr (fun e W' => ∃ A c, e = .returned (.slice A nB c) ∧ Rd W' W'.heap.size 1 A nB (strCells S.bl) ∧ Below wr.heap.size wr W') by
            refine (Dk.image_any wr g gb gp gw _ S DX.out.disk).mono ?_
            rintro e W' ⟨A, c, rfl, hr, -, hb, hf⟩
            rw [show (strCells S.bl).length = nB by rw [hnb]; simp [strCells]] at hr ⊢
            exact ⟨A, c, rfl, hr, hb⟩)
          have GN := Lib.hid (show ∀ W, Below wr.heap.size wr W → ∀ A c, Rd W W.heap.size 1 A nB (strCells S.bl) → Calls Tryz.prog 17 #[.slice A nB c, .slice (some ⟨gT, oT, none⟩) M cT] W (RetB (.bool gv) W) from fun W h A c h1 => by
            rw [hgv]
            exact genuine_any A nB c S.bl _ M cT R W h1 ((Rd.of_own OX.out).go h) (by have := DX.out.disk.n2; omega) (by omega) (HKR.out.below (below_go DX.out.below h)))
          clear hnb hgv
          go_wp2_with fail
          refine IM.out.mono ?_
          rintro e w5 ⟨A5, c5, rfl, rd5, b5⟩
          have B5 := Lib.hid b5
          have R5 := Lib.hid rd5
          clear b5 rd5
          go_wp2_with fail
          refine (GN.out w5 B5.out A5 c5 R5.out).mono ?_
          rintro e w6 ⟨rfl, b6⟩
          have B6 := Lib.hid (below_go B5.out b6)
          have D6 := Lib.hid (DX.out.go B6.out)
          have O6 := Lib.hid (own_below OX.out B6.out)
          have M6 := Lib.hid (MX.out.below B6.out)
          clear b6 IM GN
          cases gv
          · go_wp2_with fail
            refine (sanity_any w6 (HK.out.below D6.out.below)).mono ?_
            rintro e w7 ⟨rfl, b7⟩
            have B7 := Lib.hid (below_go D6.out.below b7)
            clear b7
            go_wp2_with fail
            go_ret
            exact ⟨rfl, B7.out⟩
          · have hlen := HF.out.len
            obtain ⟨L1, L3, L4, L5, L6, L7⟩ := rot_law RX.out (by rw [← HM.out]; exact r2) HT.out (fun t ht => by
              obtain ⟨z, f, rfl⟩ := ST.out t ht
              exact ⟨f, by rw [stepT, step_size]⟩) HF.out.small (by have := L2.out; omega) hF1 ND.out FX.out (by rw [← SX.out.texts]; exact HGV.out.symm)
            obtain ⟨G, hG⟩ : ∃ x, x = openT T := ⟨_, rfl⟩
            rw [← hG] at L1 L3 L4 L5 L6 L7
            have HL1 := Lib.hid L1
            have HL3 := Lib.hid L3
            have HL4 := Lib.hid L4
            have HL5 := Lib.hid L5
            have HL6 := Lib.hid L6
            have HL7 := Lib.hid L7
            have HC0 := Lib.hid (check0 SX.out RX.out.off)
            have HOJ := Lib.hid (show openJ S = G by rw [sim_open SX.out, hG])
            clear L1 L3 L4 L5 L6 L7 hG hlen
            go_wp2_with fail
            refine (open_any w6 g gb gp gw K S D6.out.disk (HK.out.below D6.out.below)).mono ?_
            rintro e w7 hp
            obtain ⟨jo, vn, vb, vt, rfl, j7, b7⟩ := D6.out.open2 hp HC0.out
            rw [HOJ.out] at j7
            have J7 := Lib.hid j7
            have O7 := Lib.hid (own_below O6.out b7)
            have M7 := Lib.hid (M6.out.below b7)
            clear hp j7 b7
            go_wp2_with fail
            have BX := Lib.hid (show Below w7.heap.size w7 (w7.alloc (.cells #[] 9)).drew from (below_new w7 _).drew)
            have HX := Lib.hid (show w7.heap.size < (w7.alloc (.cells #[] 9)).drew.heap.size by show _ < (w7.alloc _).heap.size; simp)
            have c4 : (j : Int) + 1 ≤ (M : Int) := by omega
            have c5 : (M : Int) ≤ (cT : Int) := by omega
            have c6 : (0 : Int) ≤ (j : Int) + 1 := by omega
            have c7 : IntKind.i64.wrap ((j : Int) + 1) = (j : Int) + 1 := IntWalk.i64_in _ (by omega)
            have c8 : (j : Int) ≤ (cT : Int) := by omega
            have RX1 := Lib.hid (show Rd (w7.alloc (.cells #[] 9)).drew (w7.alloc (.cells #[] 9)).drew.heap.size 1 (some ⟨gT, oT, none⟩) j (strCells (R.take j)) from rd_take ((Rd.of_own O7.out).go BX.out) HM.out.symm (by omega))
            have HR12 := Lib.hid r2
            have HCT := Lib.hid hcT
            have HJM := Lib.hid hHM
            have HSL := Lib.hid (show (strCells (R.take j)).length = j by have := HM.out; simp [strCells]; omega)
            have HST := Lib.hid (show [] ++ strCells (R.take j) ++ strCells (R.drop (j + 1)) = strCells (R.take j ++ R.drop (j + 1)) by simp [strCells])
            have HRL := Lib.hid (show (strCells (R.take j ++ R.drop (j + 1))).length = M - 1 by have := HM.out; simp [strCells]; omega)
            go_wp2_with fail
            go_region_held3 (fun _ => True)
              (first | exact True.intro | go_keep)
              (first
              | (refine step_append_q _ (by rfl) _ _ (by rfl) (by rfl) w7.heap.size (.slice (some ⟨w7.heap.size, 0, none⟩) 0 0) [] (by rfl) (QAt.empty (Nat.le_refl _) HX.out) BX.out.size (.slice (some ⟨gT, oT, none⟩) j cT) j (strCells (R.take j)) (by rfl) (src_rd RX1.out) (by have := HR12.out; simp; omega) ?_; intro v8 w8 hq8 hg8 _; have B8 := Lib.hid (Below.grown BX.out hg8 BX.out.size (fun k hk => Nat.le_of_eq (Option.some.inj hk))); have HQ8 := Lib.hid hq8; have RX2 := Lib.hid (rd_cut ((Rd.of_own O7.out).go B8.out) HM.out.symm HCT.out (cT := cT) (k := j + 1) (by have := HJM.out; omega)); clear hq8 hg8)
              | (refine step_append_q _ (by rfl) _ _ (by rfl) (by rfl) w7.heap.size v8 ([] ++ strCells (R.take j)) (by rfl) HQ8.out B8.out.size (.slice (if cT = j + 1 then some ⟨gT, oT, none⟩ else some ⟨gT, oT + (j + 1), none⟩) (M - (j + 1)) (cT - (j + 1))) (M - (j + 1)) (strCells (R.drop (j + 1))) (by rfl) (src_rd RX2.out) (by have := HR12.out; have := HSL.out; simp; omega) ?_; intro v9 w9 hq9 hg9 _; rw [HST.out] at hq9; obtain ⟨A9, c9, e9, -, hr9⟩ := hq9.rd; rw [HRL.out] at e9 hr9; subst e9; have B9 := Lib.hid (Below.grown B8.out hg9 B8.out.size (fun k hk => (HQ8.out.lt hk).1)); have RM9 := Lib.hid hr9; clear hq9 hg9 hr9))
            have J9 := Lib.hid (J7.out.go B9.out)
            have M9 := Lib.hid (M7.out.below B9.out)
            obtain ⟨P, hP⟩ : ∃ x, x = M - 1 := ⟨_, rfl⟩
            obtain ⟨RS, hRS⟩ : ∃ x, x = R.take j ++ R.drop (j + 1) := ⟨_, rfl⟩
            have HG := Lib.hid (show G.texts = RS by rw [hRS]; exact HL1.out)
            have HPL := Lib.hid (show RS.length = P by rw [hRS, hP]; have := HRL.out; simpa [strCells] using this)
            have RN9 := Lib.hid (show Rd w9 w9.heap.size 1 A9 P (strCells RS) by rw [hRS, hP]; exact RM9.out)
            have hP2 : P ≤ 12 := by omega
            rw [← hP]
            clear hP hRS RM9 RX1 RX2 HQ8 BX HX HSL HST HRL c4 c5 c8 B8
            obtain ⟨nd, hnd⟩ : ∃ x, x = G.bad.length := ⟨_, rfl⟩
            obtain ⟨zb, hzb⟩ : ∃ x, x = G.bad := ⟨_, rfl⟩
            have HND := Lib.hid hnd
            have BD := Lib.hid (show ∀ W, Below w9.heap.size w9 W → Calls Tryz.prog 35 #[.pointer (some ⟨jo, 0, none⟩)] W (OwnPost W.heap.size 3 1 nd (intCells zb) W) from fun W h => by
              rw [hnd, hzb]
              exact bad_any W jo g vn vb vt G (J9.out.jat.below h) (by have := HL4.out; have := HFQ.out; omega))
            have b1 : ((nd : Int) == 0) = false := beq_eq_false_iff_ne.2 (by have := HL3.out; omega)
            obtain ⟨fl, hfl⟩ : ∃ x, x = F.length := ⟨_, rfl⟩
            have b2 : ¬ (fl : Int) < (nd : Int) := by have := HL4.out; omega
            have ML := Lib.hid (show ∀ W, Below w9.heap.size w9 W → ∀ ty, (Builtin.len_ #[63] ty #[.map (some m)]).run Tryz.prog W = .ok (.int .i64 (fl : Int)) W from fun W h ty => by
              rw [hfl]; exact (M9.out.below h).len ty)
            have TX := Lib.hid (show Calls Tryz.prog 11 #[.pointer (some ⟨jo, 0, none⟩)] w9 (OwnPost w9.heap.size 9 1 P (strCells RS) w9) by
              have h := jtexts_any w9 jo g vn vb vt G J9.out.jat (by rw [HG.out, HPL.out]; omega)
              rwa [HG.out, HPL.out] at h)
            obtain ⟨AD, hAD⟩ : ∃ x, x = (if cT = j + 1 then some (⟨gT, oT, none⟩ : Addr) else some ⟨gT, oT + (j + 1), none⟩) := ⟨_, rfl⟩
            rw [← hAD]
            clear hnd hzb hfl hAD
            go_wp2_with fail
            refine TX.out.mono ?_
            rintro e w10 ⟨v10, rfl, own10, b10⟩
            obtain ⟨A10, c10, rfl, -⟩ := own_slice own10
            have X10 := Lib.hid own10
            have B10 := Lib.hid b10
            have R10 := Lib.hid (RN9.out.go b10)
            clear own10 b10 TX
            go_wp2_with fail
            refine (sameTexts_any A10 A9 P P c10 c9 RS RS w10 (Rd.of_own X10.out) R10.out HPL.out HPL.out (by omega) true (Lib.hid (decide_eq_true rfl))).mono ?_
            rintro e w11 ⟨rfl, b11⟩
            have B11 := Lib.hid (below_go B10.out b11)
            clear b11
            go_wp2_with fail
            refine (BD.out w11 B11.out).mono ?_
            rintro e w12 ⟨v12, rfl, own12, b12⟩
            obtain ⟨A12, c12, rfl, -⟩ := own_slice own12
            have B12 := Lib.hid (below_go B11.out b12)
            clear own12 b12
            go_wp2_with fail
            refine (BD.out w12 B12.out).mono ?_
            rintro e w13 ⟨v13, rfl, own13, b13⟩
            obtain ⟨A13, c13, rfl, -⟩ := own_slice own13
            have B13 := Lib.hid (below_go B12.out b13)
            have ml := ML.out w13 B13.out
            clear own13 b13
            go_wp2_with fail
            have D13 := Lib.hid (J9.out.dd.go B13.out)
            refine (sanity_any w13 (HK.out.below D13.out.below)).mono ?_
            rintro e w14 ⟨rfl, b14⟩
            have B14 := Lib.hid (below_go B13.out b14)
            have BW := Lib.hid (below_go D13.out.below b14)
            have b3 : IntKind.i64.wrap ((M : Int) - 1) = (M : Int) - 1 := IntWalk.i64_in _ (by omega)
            clear b14 ml
            by_cases hlast : j + 1 = M
            · have b4 : ((j : Int) == (M : Int) - 1) = true := beq_iff_eq.2 (by omega)
              go_wp2_with fail
              go_ret
              exact ⟨rfl, BW.out⟩
            · have b4 : ((j : Int) == (M : Int) - 1) = false := beq_eq_false_iff_ne.2 (by omega)
              have LO := Lib.hid (show lostL G.nums M = [(j : Int) + 1] from lost_one (by omega) (by rw [HM.out]; exact HL5.out))
              have DG := Lib.hid (show Calls Tryz.prog 12 #[.pointer (some ⟨jo, 0, none⟩)] w14 (OwnPost w14.heap.size 3 1 1 (intCells [(j : Int) + 1]) w14) by
                have h := damaged_any w14 jo g vn vb vt G (J9.out.jat.below B14.out) (by have := HL6.out; omega) (fun z hz => by have := (HL5.out z).1 hz; have := HM.out; omega) M (by rw [HM.out]; exact HL7.out (by have := HM.out; omega)) (by omega)
                rwa [LO.out] at h)
              go_wp2_with fail
              refine DG.out.mono ?_
              rintro e w15 ⟨v15, rfl, own15, b15⟩
              obtain ⟨A15, c15, rfl, -⟩ := own_slice own15
              have X15 := Lib.hid own15
              have BW15 := Lib.hid (below_go BW.out b15)
              clear own15 b15
              go_wp2_with fail
              refine (sameInts_any A15 _ 1 1 c15 1 [(j : Int) + 1] [(j : Int) + 1] _ ((Rd.of_own X15.out).go (below_new _ _)) (rd_lit w15 3 [.int .i64 ((j : Int) + 1)]) rfl (by decide)).mono ?_
              rintro e w16 ⟨rfl, b16⟩
              have BW16 := Lib.hid (below_go (below_go BW15.out (below_new _ _)) b16)
              clear b16
              go_wp2_with fail
              go_ret
              exact ⟨rfl, BW16.out⟩
end Go.Proofs.YtddpjahoeldleaaGreatDoor
