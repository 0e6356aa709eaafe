/- The reference's methods: Flush, Mount. -/
import Derived.Test.YtibhnjnfifpepaaRefOps2
namespace Go.Proofs.Ytibhnjnfifpepaa
open Go.RowKit Go.Maps

def cntD (l : List Sec) : Nat := (l.filter (·.dirty)).length
def mountTo (pf : Nat → Int) (l : List Sec) (i : Nat) : List Sec := mountL pf (l.take i) 0 ++ l.drop i
theorem mountL_length (pf : Nat → Int) : ∀ (l : List Sec) (k : Nat), (mountL pf l k).length = l.length
  | [], _ => rfl
  | x :: r, k => by
    rw [mountL]
    split
    · rw [List.length_cons, mountL_length pf r, List.length_cons]
    · rw [List.length_cons, mountL_length pf r, List.length_cons]
theorem mountL_append (pf : Nat → Int) (b : List Sec) : ∀ (a : List Sec) (k : Nat), mountL pf (a ++ b) k = mountL pf a k ++ mountL pf b (k + cntD a)
  | [], k => rfl
  | x :: r, k => by
    rw [List.cons_append, mountL, mountL]
    by_cases hd : x.dirty = true
    · rw [if_pos hd, if_pos hd, mountL_append pf b r (k + 1), List.cons_append, show cntD (x :: r) = cntD r + 1 by simp [cntD, hd], show k + 1 + cntD r = k + (cntD r + 1) by omega]
    · rw [if_neg hd, if_neg hd, mountL_append pf b r k, List.cons_append, show cntD (x :: r) = cntD r by simp [cntD, hd]]
theorem mountTo_length (pf : Nat → Int) (l : List Sec) (i : Nat) : (mountTo pf l i).length = l.length := by
  rw [mountTo, List.length_append, mountL_length, List.length_take, List.length_drop]; omega
theorem mountTo_zero (pf : Nat → Int) (l : List Sec) : mountTo pf l 0 = l := rfl
theorem mountTo_end (pf : Nat → Int) (l : List Sec) : mountTo pf l l.length = mountL pf l 0 := by rw [mountTo, List.take_length, List.drop_length, List.append_nil]
theorem mountTo_at (pf : Nat → Int) (l : List Sec) (i : Nat) (hi : i < l.length) : (mountTo pf l i)[i]? = l[i]? := by
  rw [mountTo, List.getElem?_append_right (by rw [mountL_length, List.length_take]; omega), mountL_length, List.length_take, Nat.min_eq_left (by omega), Nat.sub_self, List.getElem?_drop, Nat.add_zero]
theorem take_snoc {l : List Sec} {i : Nat} {x : Sec} (hx : l[i]? = some x) : l.take (i + 1) = l.take i ++ [x] ∧ l.drop i = x :: l.drop (i + 1) := by
  obtain ⟨hi, rfl⟩ := List.getElem?_eq_some_iff.1 hx
  exact ⟨List.take_succ_eq_append_getElem hi, List.drop_eq_getElem_cons hi⟩
theorem mountTo_skip (pf : Nat → Int) {l : List Sec} {i : Nat} {x : Sec} (hx : l[i]? = some x) (hd : x.dirty = false) : mountTo pf l (i + 1) = mountTo pf l i ∧ cntD (l.take (i + 1)) = cntD (l.take i) := by
  obtain ⟨e1, e2⟩ := take_snoc hx
  constructor
  · rw [mountTo, mountTo, e1, e2, mountL_append, mountL, if_neg (by rw [hd]; simp), mountL, List.append_assoc]; rfl
  · rw [e1]; simp [cntD, hd]
theorem mountTo_step (pf : Nat → Int) {l : List Sec} {i : Nat} {x : Sec} (hx : l[i]? = some x) (hd : x.dirty = true) : mountTo pf l (i + 1) = (mountTo pf l i).set i (settleX x (pf (cntD (l.take i)))) ∧ cntD (l.take (i + 1)) = cntD (l.take i) + 1 := by
  obtain ⟨e1, e2⟩ := take_snoc hx
  have hi := (List.getElem?_eq_some_iff.1 hx).1
  constructor
  · rw [mountTo, mountTo, e1, e2, mountL_append, mountL, if_pos hd, mountL, List.set_append_right _ _ (by rw [mountL_length, List.length_take]; omega), mountL_length, List.length_take, Nat.min_eq_left (by omega), Nat.sub_self, List.set_cons_zero, Nat.zero_add, List.append_assoc]; rfl
  · rw [e1]; simp [cntD, hd]
theorem cntD_le (l : List Sec) : cntD l ≤ l.length := List.length_filter_le _ _

set_option maxHeartbeats 1000000 in
set_option maxRecDepth 100000 in
theorem rflush_any (w : World) (r gs : Nat) (T : RSt) (h : RefAt w r gs T) :
    Calls Try.prog 40 #[.pointer (some ⟨r, 0, none⟩)] w (RPost (.int .i64 (rFlushE T)) r gs (rFlushS T) w) := by
  obtain ⟨c0, c1, c2⟩ := h.heads
  have H := Lib.hid h
  cases ho : T.off
  · rw [ho] at c1
    obtain ⟨E, hE⟩ : ∃ E, E = rStepE T := ⟨_, rfl⟩
    have e1 : rFlushE T = E := by rw [rFlushE, ho, hE]; rfl
    have HS := Lib.hid (show rFlushS T = if E ≠ 0 then rStepS T else { rStepS T with s := mountL (fun _ => 64) T.s 0 } by rw [rFlushS, if_neg (by simp [ho]), hE])
    rw [e1]
    have HE := Lib.hid hE
    clear h ho e1 hE c0 c2
    go_enter Try.func40, Try.ntmps40
    go_wp2_with fail
    refine (rstep_any w r gs T H.out).mono ?_
    rintro e w1 ⟨rfl, h1, k1⟩
    rw [← HE.out]
    have H1 := Lib.hid h1
    have K1 := Lib.hid k1
    clear h1 k1
    by_cases hE0 : E = 0
    · subst hE0
      have HTS := Lib.hid (rstep_s T)
      obtain ⟨n, hn⟩ : ∃ n, n = T.s.length := ⟨_, rfl⟩
      have n2 := H.out.n2
      rw [← hn] at n2
      have HN := Lib.hid hn
      clear hn
      go_wp2_with fail
      go_loopw [4] (fun v wr => ∃ i : Nat, i ≤ n ∧ v = .int .i64 i ∧ Hid (RefAt wr r gs { rStepS T with s := mountTo (fun _ => 64) T.s i }) ∧ Hid (Keep [r, gs] w wr)) (fun v _ => n - (intOf v).toNat)
      case atStart => exact ⟨0, by omega, rfl, Lib.hid (by rw [mountTo_zero, ← HTS.out]; exact H1.out), K1⟩
      case round =>
        obtain ⟨i, hi, rfl, R, K⟩ := hrel
        obtain ⟨e0, -, -⟩ := R.out.heads
        rw [show ({ rStepS T with s := mountTo (fun _ => 64) T.s i } : RSt).s.length = n from (mountTo_length _ _ _).trans HN.out.symm] at e0
        by_cases hlt : i < n
        · have hil : i < T.s.length := by have := HN.out; omega
          obtain ⟨x, hx⟩ : ∃ x, T.s[i]? = some x := ⟨_, List.getElem?_eq_getElem hil⟩
          have HX := Lib.hid hx
          have hx2 : (mountTo (fun _ => 64) T.s i)[i]? = some x := (mountTo_at _ _ _ hil).trans hx
          have HX2 := Lib.hid hx2
          obtain ⟨-, -, d2, -⟩ := R.out.sec hx2
          have j1 : (i : Int) < (n : Int) := by omega
          have j0 : (0 : Int) ≤ (i : Int) := by omega
          clear hx hx2 hil
          cases hd : x.dirty
          · rw [hd] at d2
            have HD := Lib.hid hd
            clear hd
            go_wp2_with fail
            go_roundw
            case rel => exact ⟨i + 1, by omega, by go_num, Lib.hid (by rw [(mountTo_skip _ HX.out HD.out).1]; exact R.out), K⟩
            case measure => simp [intOf]; omega
          · rw [hd] at d2
            have HD := Lib.hid hd
            clear hd
            go_wp2_with fail
            refine (rsettle_any wr r gs _ R.out i x HX2.out HD.out 64).mono ?_
            rintro e w2 ⟨rfl, h2, k2⟩
            have H2 := Lib.hid h2
            have K2 := Lib.hid (K.out.trans k2)
            clear h2 k2
            go_wp2_with fail
            go_roundw
            case rel => exact ⟨i + 1, by omega, by go_num, Lib.hid (by rw [(mountTo_step _ HX.out HD.out).1]; exact H2.out), K2⟩
            case measure => simp [intOf]; omega
        · obtain rfl : i = n := by omega
          go_wp2_with fail
          go_ret
          refine RPost.ret ?_ R.out K.out
          rw [HS.out, if_neg (by simp), HN.out, mountTo_end]
    · have hb : (E == 0) = false := beq_eq_false_iff_ne.2 hE0
      go_wp2_with fail
      go_ret
      exact RPost.ret (by rw [HS.out, if_pos hE0]) H1.out K1.out
  · rw [ho] at c1
    have hE : rFlushE T = 24 := by rw [rFlushE, ho]; rfl
    have HS := Lib.hid (show T = rFlushS T by rw [rFlushS, if_pos ho])
    rw [hE]
    clear h hE ho c0 c2
    go_enter Try.func40, Try.ntmps40
    go_wp2_with fail
    go_ret
    exact RPost.ret HS.out H.out (Keep.refl _ _)

set_option maxHeartbeats 2000000 in
set_option maxRecDepth 100000 in
theorem rmount_any (w : World) (r gs : Nat) (T : RSt) (h : RefAt w r gs T) (A : Option Addr) (n' c' : Nat) (ps : List Int)
    (hp : Rd w w.heap.size 1 A n' (intCells ps)) (hn' : n' ≤ 9223372036854775807) (hpF : 0 < n' → ∀ b x, A = some ⟨b, x, none⟩ → b ∉ [r, gs]) :
    Calls Try.prog 42 #[.pointer (some ⟨r, 0, none⟩), .slice A n' c'] w (RPost (.tuple #[]) r gs (rMountS T ps) w) := by
  have hl : ps.length = n' := by have := hp.1; simpa [intCells] using this
  have HL := Lib.hid hl
  have H := Lib.hid h
  have HP := Lib.hid hp
  have HPF := Lib.hid hpF
  obtain ⟨n, hn⟩ : ∃ n, n = T.s.length := ⟨_, rfl⟩
  have n2 := h.n2
  rw [← hn] at n2
  have HN := Lib.hid hn
  clear hn h hp hpF hl
  go_enter Try.func42, Try.ntmps42
  go_wp2_with fail
  go_loopw [4, 5] (fun u v wr => ∃ i : Nat, i ≤ n ∧ u = .int .i64 (cntD (T.s.take i) : Nat) ∧ v = .int .i64 i ∧ Hid (RefAt wr r gs { T with s := mountTo (pickF ps) T.s i }) ∧ Hid (Keep [r, gs] w wr)) (fun _ v _ => n - (intOf v).toNat)
  case atStart => exact ⟨0, by omega, rfl, rfl, Lib.hid (by rw [mountTo_zero]; exact H.out), Lib.hid (Keep.refl _ _)⟩
  case round =>
    obtain ⟨i, hi, rfl, rfl, R, K⟩ := hrel
    obtain ⟨e0, -, -⟩ := R.out.heads
    rw [show ({ T with s := mountTo (pickF ps) T.s i } : RSt).s.length = n from (mountTo_length _ _ _).trans HN.out.symm] at e0
    by_cases hlt : i < n
    · have hil : i < T.s.length := by have := HN.out; omega
      obtain ⟨x, hx⟩ : ∃ x, T.s[i]? = some x := ⟨_, List.getElem?_eq_getElem hil⟩
      have HX := Lib.hid hx
      have hx2 : (mountTo (pickF ps) T.s i)[i]? = some x := (mountTo_at _ _ _ hil).trans hx
      have HX2 := Lib.hid hx2
      obtain ⟨-, -, d2, -⟩ := R.out.sec hx2
      have j1 : (i : Int) < (n : Int) := by omega
      have j0 : (0 : Int) ≤ (i : Int) := by omega
      have hcl : cntD (T.s.take i) ≤ i := Nat.le_trans (cntD_le _) (by rw [List.length_take]; omega)
      cases hd : x.dirty
      · rw [hd] at d2
        have HD := Lib.hid hd
        have HC := Lib.hid (mountTo_skip (pickF ps) hx hd)
        clear hd hx hx2 hil
        generalize hcu : cntD (T.s.take i) = cu at *
        have HCU := Lib.hid hcu
        clear hcu
        go_wp2_with fail
        go_roundw
        case rel => exact ⟨i + 1, by omega, by rw [HC.out.2], by go_num, Lib.hid (by rw [HC.out.1]; exact R.out), K⟩
        case measure => simp [intOf]; omega
      · rw [hd] at d2
        have HD := Lib.hid hd
        have HC := Lib.hid (mountTo_step (pickF ps) hx hd)
        clear hd hx hx2 hil
        generalize hcu : cntD (T.s.take i) = cu at *
        have HCU := Lib.hid hcu
        clear hcu
        have ju : (0 : Int) ≤ (cu : Int) := by omega
        by_cases hkn : cu < n'
        · obtain ⟨b, o, e, hbb, hcc⟩ := HP.out.2 (by omega)
          subst e
          have hnF := HPF.out (by omega) b o rfl
          have hpk : wr.cell? ⟨b, o + cu, none⟩ = some (.int .i64 (ps.getD cu 0)) := by
            rw [K.out.cell (p := ⟨b, o + cu, none⟩) hbb hnF]
            refine hcc cu _ ?_
            have hkp : cu < ps.length := by have := HL.out; omega
            rw [intCells, List.getElem?_map, List.getElem?_eq_getElem hkp, Option.map_some, List.getD_eq_getElem?_getD, List.getElem?_eq_getElem hkp, Option.getD_some]
          have HPK := Lib.hid (show pickF ps cu = ps.getD cu 0 by rw [pickF, if_pos (by have := HL.out; omega)])
          generalize ps.getD cu 0 = pk at *
          have i2 : (cu : Int) < (n' : Int) := by omega
          clear hcc hnF
          go_wp2_with fail
          refine (rsettle_any wr r gs _ R.out i x HX2.out HD.out pk).mono ?_
          rintro e w2 ⟨rfl, h2, k2⟩
          have H2 := Lib.hid h2
          have K2 := Lib.hid (K.out.trans k2)
          clear h2 k2
          go_wp2_with fail
          go_roundw
          case rel => exact ⟨i + 1, by omega, by rw [HC.out.2]; go_num, by go_num, Lib.hid (by rw [HC.out.1, HPK.out]; exact H2.out), K2⟩
          case measure => simp [intOf]; omega
        · have HPK := Lib.hid (show pickF ps cu = 64 by rw [pickF, if_neg (by have := HL.out; omega)])
          go_wp2_with fail
          refine (rsettle_any wr r gs _ R.out i x HX2.out HD.out 64).mono ?_
          rintro e w2 ⟨rfl, h2, k2⟩
          have H2 := Lib.hid h2
          have K2 := Lib.hid (K.out.trans k2)
          clear h2 k2
          go_wp2_with fail
          go_roundw
          case rel => exact ⟨i + 1, by omega, by rw [HC.out.2]; go_num, by go_num, Lib.hid (by rw [HC.out.1, HPK.out]; exact H2.out), K2⟩
          case measure => simp [intOf]; omega
    · obtain rfl : i = n := by omega
      have f1 := R.out.head.frozen 1
      have f2 := R.out.head.frozen 2
      obtain ⟨-, e1, e2⟩ := R.out.heads
      have hfin := (R.out.setOff false).setLeft (-1) (by decide) (by decide)
      have HF := Lib.hid hfin
      have KF := Lib.hid ((K.out.setCell (a := ⟨r, 1, none⟩) (by simp) (.bool false)).setCell (a := ⟨r, 2, none⟩) (by simp) (.int .i64 (-1)))
      clear hfin
      go_wp2_with fail
      go_end0
      refine ⟨rfl, ?_, KF.out⟩
      have he : rMountS T ps = { T with s := mountTo (pickF ps) T.s i, off := false, left := -1 } := by rw [HN.out, mountTo_end]; rfl
      rw [he]
      exact HF.out
end Go.Proofs.Ytibhnjnfifpepaa
