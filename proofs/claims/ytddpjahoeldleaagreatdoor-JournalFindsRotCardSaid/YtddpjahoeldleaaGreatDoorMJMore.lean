/- Contracts of Image, Mount and Damaged. -/
import Derived.Test.YtddpjahoeldleaaGreatDoorMPSane
import Derived.Test.YtddpjahoeldleaaGreatDoorMJWrite
import Derived.Test.YtddpjahoeldleaaGreatDoorMPack
import Derived.Test.YtddpjahoeldleaaGreatDoorMDFlush
import Derived.Test.YtddpjahoeldleaaGreatDoorMUnpack

/-! Mount, Trip. -/
namespace Go.Proofs.YtddpjahoeldleaaGreatDoor.Dk
open Go.RowKit Go.Maps Go.Sort Go.Shelf


set_option maxHeartbeats 4000000 in
set_option maxRecDepth 100000 in
theorem mount_gen (w : World) (g gb gp gw K : Nat) (S : St) (h : DiskAt w g gb gp gw K S) (hK : K ≤ 100000) (hP : PendOK S) (A' : Option Addr) (n' c' : Nat) (ps : List Int)
    (hp : Rd w w.heap.size 1 A' n' (intCells ps)) (hn' : n' ≤ 9223372036854775807) (hpF : 0 < n' → ∀ b o, A' = some ⟨b, o, none⟩ → b ∉ [g, gb, gp, gw]) :
    Calls Tryz.prog 16 #[.pointer (some ⟨g, 0, none⟩), .slice A' n' c'] w (DPost (.tuple #[]) g gb gp gw K (mountS S ps) w) := by
  have hl : ps.length = n' := by have := hp.1; simpa [intCells] using this
  have HL := Lib.hid hl
  have H := Lib.hid h
  have HPF := Lib.hid hpF
  have HPP := Lib.hid hp
  have HPO := Lib.hid hP
  clear h hl hpF hp hP
  go_enter Tryz.func16, Tryz.ntmps16
  go_wp2_with fail
  refine (pending_any w g gb gp gw K S H.out hK).mono ?_
  rintro e w3 ⟨v, rfl, hrow, hb3⟩
  obtain ⟨A, cp, rfl, hcp⟩ := own_slice hrow
  have h3 := H.out.below hb3
  have k3 := Keep.of_below hb3 [g, gb, gp, gw]
  have hsz := keys_size S.pend
  have hsz2 := H.out.pend.size_le
  obtain ⟨ks, hks⟩ : ∃ ks, ks = keysOf S.pend := ⟨_, rfl⟩
  have HS := Lib.hid (show mountS S ps = { settleK S ks (pickF ps) ks.length with off := false, left := -1 } by rw [hks]; rfl)
  rw [← hks] at hrow hsz hcp ⊢
  have hok : ∀ z ∈ ks, 0 ≤ z ∧ z < (S.bl.length : Int) := by
    intro z hz
    rw [hks] at hz
    exact HPO.out z hz
  obtain ⟨m, hm⟩ : ∃ m, m = ks.length := ⟨_, rfl⟩
  rw [← hm] at hrow HS hsz hcp ⊢
  have hmb : m ≤ 100000 := by omega
  have HROW := Lib.hid hrow
  have H3 := Lib.hid h3
  have K3 := Lib.hid k3
  have HM := Lib.hid hm
  have HOK := Lib.hid hok
  have hFb : ∀ k, k ∈ [g, gb, gp, gw] → k < w.heap.size := by
    intro k hk
    have := H.out.lt
    simp only [List.mem_cons, List.not_mem_nil, or_false] at hk
    rcases hk with rfl | rfl | rfl | rfl <;> omega
  have HFB := Lib.hid hFb
  clear hrow h3 k3 hsz hsz2 hks hm hok hb3 hFb hcp
  go_wp2_with fail
  go_loopw [10] (fun x wr => ∃ k : Nat, k ≤ m ∧ x = .int .i64 k ∧ Hid (DiskAt wr g gb gp gw K (settleK S ks (pickF ps) k)) ∧ Hid (Keep [g, gb, gp, gw] w wr) ∧ Hid (wr.ownsRow w.heap.size 3 1 (.slice A m cp) m (ks.map encZ))) (fun x _ => m - (intOf x).toNat)
  case atStart => exact ⟨0, by omega, rfl, H3, K3, HROW⟩
  case round =>
    obtain ⟨k, hk, rfl, hD, hKp, hR⟩ := hrel
    by_cases hlt : k < m
    · have hkl : k < ks.length := by have := HM.out; omega
      obtain ⟨gk, ck, hv, hgb, hgl⟩ := World.ownsRow.form hR.out (by omega)
      injection hv with hA hn1 hc1
      subst hA
      subst hc1
      clear hn1
      have hcell := hR.out.cellAt (g := gk) (j := k) (by omega)
      rw [List.getElem?_map, List.getElem?_eq_getElem hkl, Option.map_some] at hcell
      have hz := HOK.out _ (List.getElem_mem hkl)
      obtain ⟨zi, hzi⟩ := Int.eq_ofNat_of_zero_le hz.1
      rw [hzi] at hcell hz
      have HZ := Lib.hid (show ks.getD k 0 = (zi : Int) by rw [List.getD_eq_getElem?_getD, List.getElem?_eq_getElem hkl, Option.getD_some, hzi])
      have hcell : wr.cell? ⟨gk, k, none⟩ = some (.int .i64 (zi : Int)) := hcell
      have hir : zi < (settleK S ks (pickF ps) k).bl.length := by rw [settleK_len]; omega
      have HIR := Lib.hid hir
      have i1 : (k : Int) < (m : Int) := by omega
      clear hz hzi hkl hir hgb hgl
      by_cases hkn : k < n'
      · obtain ⟨b, o, e, hbb, hcc⟩ := HPP.out.2 (by omega)
        subst e
        have hnF := HPF.out (by omega) b o rfl
        have hpk : wr.cell? ⟨b, o + k, none⟩ = some (.int .i64 (ps.getD k 0)) := by
          rw [hKp.out.cell (p := ⟨b, o + k, none⟩) hbb hnF]
          refine hcc k _ ?_
          have hkp : k < ps.length := by have := HL.out; omega
          rw [intCells, List.getElem?_map, List.getElem?_eq_getElem hkp, Option.map_some, List.getD_eq_getElem?_getD, List.getElem?_eq_getElem hkp, Option.getD_some]
        have HPK := Lib.hid (show pickF ps k = ps.getD k 0 by rw [pickF, if_pos (by have := HL.out; omega)])
        generalize ps.getD k 0 = pk at *
        have i2 : (k : Int) < (n' : Int) := by omega
        clear hcc hnF
        go_wp2_with fail
        refine (settle_any wr g gb gp gw K _ hD.out zi HIR.out pk).mono ?_
        rintro e w5 ⟨rfl, h5, k5⟩
        have H5 := Lib.hid h5
        have K5 := Lib.hid (hKp.out.trans k5)
        have R5 := Lib.hid (ownsRow_keep hR.out k5 HFB.out)
        clear h5 k5
        go_wp2_with fail
        go_roundw
        case rel =>
          refine ⟨k + 1, by omega, by go_num, ?_, K5, R5⟩
          have : settleK S ks (pickF ps) (k + 1) = settleS (settleK S ks (pickF ps) k) zi pk := by rw [settleK, HZ.out, Int.toNat_natCast, HPK.out]
          rw [this]
          exact H5
        case measure => simp [intOf]; omega
      · have HPK := Lib.hid (show pickF ps k = 64 by rw [pickF, if_neg (by have := HL.out; omega)])
        go_wp2_with fail
        refine (settle_any wr g gb gp gw K _ hD.out zi HIR.out 64).mono ?_
        rintro e w5 ⟨rfl, h5, k5⟩
        have H5 := Lib.hid h5
        have K5 := Lib.hid (hKp.out.trans k5)
        have R5 := Lib.hid (ownsRow_keep hR.out k5 HFB.out)
        clear h5 k5
        go_wp2_with fail
        go_roundw
        case rel =>
          refine ⟨k + 1, by omega, by go_num, ?_, K5, R5⟩
          have : settleK S ks (pickF ps) (k + 1) = settleS (settleK S ks (pickF ps) k) zi 64 := by rw [settleK, HZ.out, Int.toNat_natCast, HPK.out]
          rw [this]
          exact H5
        case measure => simp [intOf]; omega
    · obtain rfl : m = k := by omega
      have f3 := hD.out.free 3
      have f4 := hD.out.free 4
      have d3 := hD.out.cells.2.2.2.1
      have d4 := hD.out.cells.2.2.2.2
      have hfin := (hD.out.setOff false).setLeft (-1) (by decide) (by decide)
      have HF := Lib.hid hfin
      have KF := Lib.hid ((hKp.out.setCell (a := ⟨g, 3, none⟩) (by simp) (.bool false)).setCell (a := ⟨g, 4, none⟩) (by simp) (.int .i64 (-1)))
      clear hfin
      go_wp2_with fail
      go_end0
      exact DPost.ret0 (by rw [HS.out]) HF.out KF.out
theorem mount_any (w : World) (g gb gp gw K : Nat) (S : St) (h : DiskAt w g gb gp gw K S) (hK : K ≤ 100000) (hP : PendOK S) (A' : Option Addr) (n' c' : Nat) (ps : List Int)
    (hp : Rd w w.heap.size 1 A' n' (intCells ps)) (hn' : n' ≤ 9223372036854775807) (hpF : ∀ b o, A' = some ⟨b, o, none⟩ → b ∉ [g, gb, gp, gw]) :
    Calls Tryz.prog 16 #[.pointer (some ⟨g, 0, none⟩), .slice A' n' c'] w (DPost (.tuple #[]) g gb gp gw K (mountS S ps) w) :=
  mount_gen w g gb gp gw K S h hK hP A' n' c' ps hp hn' fun _ => hpF
theorem trip_any (w : World) (g gb gp gw K : Nat) (S : St) (h : DiskAt w g gb gp gw K S) (n : Int) (l1 : -9223372036854775808 ≤ n) (l2 : n ≤ 9223372036854775807) :
    Calls Tryz.prog 13 #[.pointer (some ⟨g, 0, none⟩), .int .i64 n] w (DPost (.tuple #[]) g gb gp gw K { S with left := n } w) := by
  have hn := h.setLeft n l1 l2
  have c4 := h.cells.2.2.2.2
  have f4 := h.free 4
  have H := Lib.hid h
  have HN := Lib.hid hn
  clear h hn
  go_enter Tryz.func13, Tryz.ntmps13
  go_wp2_with fail
  go_end0
  exact ⟨rfl, HN.out, (Keep.refl _ _).setCell (by simp) _⟩

end Go.Proofs.YtddpjahoeldleaaGreatDoor.Dk

/-! Image. -/
namespace Go.Proofs.YtddpjahoeldleaaGreatDoor.Dk
open Go.RowKit Go.Maps

def imgTo (bl : List Bs) (k : Nat) : List Bs := (List.range bl.length).map fun i => if i < k then bl.getD i [] else []
theorem imgTo_zero (bl : List Bs) : strCells (imgTo bl 0) = List.replicate bl.length (str []) := by
  apply List.ext_getElem
  · simp [strCells, imgTo]
  · intro i h1 h2
    simp [strCells, imgTo]
theorem imgTo_end (bl : List Bs) : imgTo bl bl.length = bl := by
  apply List.ext_getElem
  · simp [imgTo]
  · intro i h1 h2
    simp only [imgTo, List.getElem_map, List.getElem_range]
    rw [if_pos h2, List.getD_eq_getElem?_getD, List.getElem?_eq_getElem h2, Option.getD_some]
theorem imgTo_step (bl : List Bs) (k : Nat) : strCells (imgTo bl (k + 1)) = (strCells (imgTo bl k)).set k (str (bl.getD k [])) := by
  apply List.ext_getElem
  · simp [strCells, imgTo]
  · intro i h1 h2
    rw [List.getElem_set]
    simp only [strCells, imgTo, List.getElem_map, List.getElem_range]
    by_cases e : k = i
    · subst e; rw [if_pos (by omega), if_pos rfl]
    · rw [if_neg e]
      by_cases h : i < k
      · rw [if_pos (by omega), if_pos h]
      · rw [if_neg (by omega), if_neg h]

theorem info9 : (Tryz.prog.info? 9).map (fun i => (i.zero, i.size, i.bytes)) = some (some (.string ⟨#[]⟩), 1, 16) := by kernel_rfl
def ListPost (xs : List Value) (w : World) (e : Ending) (w' : World) : Prop :=
  ∃ A c, e = .returned (.slice A xs.length c) ∧ Rd w' w'.heap.size 1 A xs.length xs ∧ xs.length ≤ c ∧ Below w.heap.size w w' ∧ ∀ b o, A = some ⟨b, o, none⟩ → w.heap.size ≤ b
theorem Rd.blk {w : World} {g : Nat} {t : TypeId} {cs : Array Value} (h : Blk w g t cs) (n : Nat) (hn : cs.size = n) : Rd w w.heap.size 1 (some ⟨g, 0, none⟩) n cs.toList := by
  refine ⟨by simp [hn], fun _ => ⟨g, 0, rfl, h.lt, fun j u hu => ?_⟩⟩
  rw [Nat.zero_add, h.cell]
  simpa using hu

set_option maxHeartbeats 2000000 in
set_option maxRecDepth 100000 in
theorem image_any (w : World) (g gb gp gw K : Nat) (S : St) (h : DiskAt w g gb gp gw K S) : Calls Tryz.prog 18 #[.pointer (some ⟨g, 0, none⟩)] w (ListPost (strCells S.bl) w) := by
  obtain ⟨i0, hi, hz0, hz1, hz2⟩ := info_parts info9
  have n2 := h.n2
  have hmk := run_make_rowN (P := Tryz.prog) 28 9 i0 _ Tryz.underlying28 hi hz0 .i64 .i64 S.bl.length S.bl.length (Nat.le_refl _) (by rw [hz2]; omega) (by omega) w
  have hC0 : (madeCells (Value.string ⟨#[]⟩).cells (S.bl.length * i0.size)).toList = strCells (imgTo S.bl 0) := by
    rw [imgTo_zero, hz1, Nat.mul_one]; exact made_list _ _
  generalize madeCells (Value.string ⟨#[]⟩).cells (S.bl.length * i0.size) = C0 at *
  have HC := Lib.hid hC0
  have c0 := h.cells.1
  have hlt := h.lt
  obtain ⟨l1, l2, l3, l4⟩ := hlt
  have H := Lib.hid h
  obtain ⟨n, hn⟩ : ∃ n, n = S.bl.length := ⟨_, rfl⟩
  rw [← hn] at hmk c0 n2
  have HN := Lib.hid hn
  clear hC0 hz0 hz1 hz2 hi h hn
  have c0' : (w.alloc (.cells C0 9)).cell? ⟨g, 0, none⟩ = some (.slice (some ⟨gb, 0, none⟩) n S.cap) := (World.cell?_alloc_lt w _ ⟨g, 0, none⟩ l1).trans c0
  go_enter Tryz.func18, Tryz.ntmps18
  go_wp2_with fail
  go_loopw [16] (fun x wr => ∃ (k : Nat) (C : Array Value), k ≤ n ∧ x = .int .i64 k ∧ C.toList = strCells (imgTo S.bl k) ∧ Blk wr w.heap.size 9 C ∧ Below w.heap.size w wr) (fun x _ => n - (intOf x).toNat)
  case atStart => exact ⟨0, C0, by omega, rfl, HC.out, Blk.new _ _ _, Below.alloc (Below.refl _ _) (Nat.le_refl _) _⟩
  case round =>
    obtain ⟨k, C, hk, rfl, hC, hB, hb⟩ := hrel
    have hsz := hb.size
    have Hc := Lib.hid hC
    have d := H.out.below hb
    have e0 := d.cells.1
    rw [← HN.out] at e0
    clear hC hmk c0 c0' HC
    by_cases hlt : k < n
    · have hk' : k < S.bl.length := by have := HN.out; omega
      have hbb : (S.bl.getD k []).length = 64 := by
        rw [List.getD_eq_getElem?_getD, List.getElem?_eq_getElem hk', Option.getD_some]
        exact H.out.b64 _ (List.getElem_mem hk')
      have hcv := conv_bytes wr gb (k * 64) (S.bl.getD k []) hbb (fun j hj => d.byte hk' hj) 64
      have cc : wr.cell? ⟨w.heap.size, k, none⟩ = C[k]? := hB.cell k
      have cf : wr.frozen? ⟨w.heap.size, k, none⟩ = false := hB.frozen k
      have hCs : C.size = n := by have := congrArg List.length Hc.out; simp [strCells, imgTo] at this; have := HN.out; omega
      rw [Array.getElem?_eq_getElem (by omega)] at cc
      generalize C[k]'(by omega) = old at cc
      have HS := Lib.hid (imgTo_step S.bl k)
      obtain ⟨b, hbx⟩ : ∃ b, b = S.bl.getD k [] := ⟨_, rfl⟩
      rw [← hbx] at hcv HS
      have i1 : (k : Int) < (n : Int) := by omega
      have i0 : (0 : Int) ≤ (k : Int) := by omega
      clear hbx hbb d hCs hk'
      go_wp2_with fail
      go_roundw
      case rel =>
        refine ⟨k + 1, C.setIfInBounds k (str b), by omega, by go_num, ?_, hB.set_ k _, hb.setCell (Nat.le_refl _) _⟩
        rw [HS.out, ← Hc.out]
        simp
      case measure => simp [intOf]; omega
    · obtain rfl : n = k := by omega
      go_wp2_with fail
      go_ret
      have hCl := Hc.out
      rw [HN.out, imgTo_end] at hCl
      have hCs : C.size = n := by have := congrArg List.length hCl; simp [strCells] at this; have := HN.out; omega
      have hl : (strCells S.bl).length = n := by rw [← hCl]; simpa using hCs
      refine ⟨some ⟨w.heap.size, 0, none⟩, n, ?_, ?_, Nat.le_of_eq hl, hb, fun b o e => by injection e with e; injection e with e1 e2; omega⟩
      · rw [hl]; rfl
      · rw [hl, ← hCl]; exact Rd.blk hB n hCs
end Go.Proofs.YtddpjahoeldleaaGreatDoor.Dk

/-! Damaged: the numbers that are not there. -/
namespace Go.Proofs.YtddpjahoeldleaaGreatDoor
open Go.RowKit Go.Maps

/-- what a map of numbers to booleans says -/
def inM (D : Dk.Dt) (i : Int) : Bool := Dk.wornB ⟨[], .map [], D, false, 0, 0, []⟩ i
theorem inM_empty (i : Int) : inM (.map []) i = false := rfl
theorem inM_put {D : Dk.Dt} (hD : IsMap D) (i j : Int) : inM (D.put (Dk.kI i) (.lit (.bool true))) j = (decide (i = j) || inM D j) := by
  by_cases h : i = j
  · subst h
    rw [decide_eq_true rfl]
    show (match (D.put (Dk.kI i) (.lit (.bool true))).atKey (Dk.kI i) (.lit (.bool false)) with | .lit (.bool b) => b | _ => false) = _
    rw [atKey_put_same hD (show WideAt.IsKeyLit (Dk.kI i) from trivial)]
    rfl
  · rw [decide_eq_false h]
    show (match (D.put (Dk.kI i) (.lit (.bool true))).atKey (Dk.kI j) (.lit (.bool false)) with | .lit (.bool b) => b | _ => false) = _
    rw [atKey_put_other (fun e => h (by unfold Dk.kI at e; injection e with _ e; exact e.symm))]
    rfl
theorem snoc_mem (l : List Int) (z y : Int) : (decide (z = y) || decide (y ∈ l)) = decide (y ∈ l ++ [z]) := by
  by_cases h1 : z = y
  · subst h1; simp
  · have h2 : ¬ y = z := fun e => h1 e.symm
    simp [h1, h2]
/-- the numbers from 1 to m that are not there -/
def lostL (nums : List Int) (m : Nat) : List Int := ((List.range m).map fun k : Nat => (k : Int) + 1).filter fun z => !decide (z ∈ nums)
theorem lost_succ (nums : List Int) (m : Nat) : lostL nums (m + 1) = if ((m : Int) + 1) ∈ nums then lostL nums m else lostL nums m ++ [(m : Int) + 1] := by
  unfold lostL
  rw [List.range_succ, List.map_append, List.filter_append]
  by_cases h : ((m : Int) + 1) ∈ nums
  · rw [if_pos h]; simp [h]
  · rw [if_neg h]; simp [h]
theorem lost_len (nums : List Int) (m : Nat) : (lostL nums m).length ≤ m := by
  unfold lostL
  refine Nat.le_trans (List.length_filter_le _ _) ?_
  simp

set_option maxHeartbeats 2000000 in
set_option maxRecDepth 100000 in
theorem damaged_any (w : World) (j g : Nat) (vn vb vt : Value) (J : JV) (h : JAt w j g vn vb vt J) (hn : J.nums.length ≤ 90000) (hb : ∀ z ∈ J.nums, 0 ≤ z ∧ z ≤ 90000) (M : Nat) (hM : J.next = (M : Int) + 1) (hM2 : M ≤ 90000) :
    Calls Tryz.prog 12 #[.pointer (some ⟨j, 0, none⟩)] w (OwnPost w.heap.size 3 1 (lostL J.nums M).length (intCells (lostL J.nums M)) w) := by
  obtain ⟨_, c1, _, _, c4, _, _⟩ := h.cells
  rw [hM] at c4
  obtain ⟨An, cn, rfl, _⟩ := own_slice h.nums
  obtain ⟨n, hnl⟩ : ∃ n, n = J.nums.length := ⟨_, rfl⟩
  obtain ⟨zs, hzs⟩ : ∃ zs, zs = J.nums := ⟨_, rfl⟩
  have HR := Lib.hid (Rd.of_own h.nums)
  rw [← hnl, ← hzs] at HR
  have HZL := Lib.hid (show zs.length = n by rw [hzs, hnl])
  rw [← hnl] at c1 hn
  rw [← hzs]
  have HZB := Lib.hid (show ∀ z ∈ zs, 0 ≤ z ∧ z ≤ 90000 by rw [hzs]; exact hb)
  have C4 := Lib.hid c4
  have hjl := h.head.lt
  have hmm := @run_makeMap Tryz.prog
  obtain ⟨i0, hi, hz0, hz1, hz2⟩ := info_parts info3
  clear h hnl hzs hM c4 hb
  go_enter Tryz.func12, Tryz.ntmps12
  go_wp2_with fail
  obtain ⟨w1, hw1⟩ : ∃ w1, w1 = w.alloc (.map #[] 0) := ⟨_, rfl⟩
  have M1 := Lib.hid (show w1.ownsMap Tryz.prog 3 (plainElem Tryz.prog 4) w.heap.size 0 (.map []) from Dk.ownsMap_empty (by rw [hw1]; exact heap_alloc_new w _))
  have B1 := Lib.hid (show Below w.heap.size w w1 by rw [hw1]; exact below_new _ _)
  have S1 := Lib.hid (show w1.heap.size = w.heap.size + 1 by rw [hw1, World.size_alloc])
  rw [← hw1]
  clear hw1 hmm c1
  go_loopw [14] (fun x wr => ∃ (k : Nat) (D : Dk.Dt), k ≤ n ∧ x = .int .i64 k ∧ Hid (wr.ownsMap Tryz.prog 3 (plainElem Tryz.prog 4) w.heap.size k D) ∧ Hid (∀ z, inM D z = decide (z ∈ zs.take k)) ∧ Hid (Below w.heap.size w wr)) (fun x _ => n - (intOf x).toNat)
  case atStart => exact ⟨0, .map [], by omega, rfl, M1, Lib.hid (fun z => by rw [inM_empty]; simp), B1⟩
  case round =>
    obtain ⟨k, D, hk, rfl, MD, HD, B⟩ := hrel
    by_cases hlt : k < n
    · obtain ⟨b, off, rfl, hbl, hcell⟩ := (HR.out.below B.out).int hlt
      obtain ⟨z, hz⟩ : ∃ z, z = zs.getD k 0 := ⟨_, rfl⟩
      rw [← hz] at hcell
      have HTK := Lib.hid (show zs.take (k + 1) = zs.take k ++ [z] by
        have hkl : k < zs.length := by have := HZL.out; omega
        rw [hz, List.getD_eq_getElem?_getD, List.getElem?_eq_getElem hkl, Option.getD_some, List.take_succ_eq_append_getElem hkl])
      have hzb := HZB.out z (by
        have hkl : k < zs.length := by have := HZL.out; omega
        rw [hz, List.getD_eq_getElem?_getD, List.getElem?_eq_getElem hkl, Option.getD_some]
        exact List.getElem_mem hkl)
      have j1 : (k : Int) < (n : Int) := by omega
      have j0 : (0 : Int) ≤ (k : Int) := by omega
      obtain ⟨w5, hr, hm, ht⟩ := MD.out.store Dk.law3 Tryz.underlying63 (by unfold maxLen; omega) (Dk.key_i (i := z) (by omega) (by omega)) (plainElem_bool Tryz.underlying4 true)
      have HM5 := Lib.hid hm
      have B5 := Lib.hid (B.out.trans (((Keep.refl [w.heap.size] wr).turned ht (by simp)).below B.out.size (fun i hi => by rw [List.mem_singleton] at hi; omega)))
      have HI5 := Lib.hid (fun y => inM_put MD.out.isMap z y)
      clear hz hm ht
      go_wp2_with fail
      go_roundw
      case rel => exact ⟨k + 1, _, by omega, by go_num, HM5, Lib.hid (fun y => by rw [HI5.out, HD.out, HTK.out]; exact snoc_mem _ z y), B5⟩
      case measure => simp [intOf]; omega
    · obtain rfl : k = n := by omega
      have HD := Lib.hid (show ∀ y, inM D y = decide (y ∈ zs) by
        intro y
        rw [HD.out, List.take_of_length_le (by rw [HZL.out]; exact Nat.le_refl _)])
      clear HR HZL HZB
      go_wp2_with fail
      go_loopw [6, 7] (fun o x wr => ∃ (m : Nat) (v : Value), m ≤ M ∧ x = .int .i64 ((m : Int) + 1) ∧ v = o ∧ Hid (wr.ownsRow (w.heap.size + 1) 3 1 v (lostL zs m).length (intCells (lostL zs m))) ∧ Hid (wr.ownsMap Tryz.prog 3 (plainElem Tryz.prog 4) w.heap.size k D) ∧ Hid (Below w.heap.size w wr)) (fun _ x _ => M + 1 - (intOf x).toNat)
      case atStart => exact ⟨0, .slice none 0 0, by omega, rfl, rfl, Lib.hid (World.ownsRow_nil _ _ _ _), MD, B⟩
      case round =>
        obtain ⟨m, v, hm, rfl, rfl, R, MD, B⟩ := hrel
        have c4 := (B.out.cell (p := ⟨j, 4, none⟩) hjl).trans C4.out
        by_cases hlt : m < M
        · have j1 : (m : Int) + 1 < (M : Int) + 1 := by omega
          have hlk := Dk.look_worn (S := ⟨[], .map [], D, false, 0, 0, []⟩) MD.out (i := (m : Int) + 1) (by omega) (by omega)
          obtain ⟨b, hb⟩ : ∃ b, b = inM D ((m : Int) + 1) := ⟨_, rfl⟩
          rw [show Dk.wornB ⟨[], .map [], D, false, 0, 0, []⟩ ((m : Int) + 1) = b from hb.symm] at hlk
          have HB := Lib.hid (show decide (((m : Int) + 1) ∈ zs) = b by rw [← HD.out, hb])
          clear hb
          cases b
          · have HL := Lib.hid (show lostL zs (m + 1) = lostL zs m ++ [(m : Int) + 1] by rw [lost_succ, if_neg (of_decide_eq_false HB.out)])
            have hsz := lost_len zs m
            go_wp2_with (at_builtin; refine wpList_append_own _ rfl _ _ 23 rfl (w.heap.size + 1) 3 i0 _ 1 8 Tryz.underlying23 hi hz0 hz1 hz2 rfl (by decide) v _ _ rfl (R.out.alloc _) ⟨wr.heap.size, 0, none⟩ 1 1 [.int .i64 ((m : Int) + 1)] rfl rfl (cells_one _ _ _) (by simp [Value.oneCell']) (by unfold maxLen; omega) (by omega) (by have := B.out.size; rw [World.size_alloc]; omega) ?_)
            intro v6 w6 hown6 hgrow6 _
            have O6 := Lib.hid (show w6.ownsRow (w.heap.size + 1) 3 1 v6 (lostL zs (m + 1)).length (intCells (lostL zs (m + 1))) by rw [HL.out, List.length_append, List.length_singleton, intCells_snoc]; exact hown6)
            have hbw : Below wr.heap.size wr (wr.alloc (.cells #[.int .i64 ((m : Int) + 1)] 3)) := below_new _ _
            have K6 : Keep v.ownBlock.toList wr w6 := ⟨hgrow6.os.trans hbw.os, hgrow6.tape.trans hbw.tape, hgrow6.output.trans hbw.output, Nat.le_trans hbw.size hgrow6.size, fun i hi hF => (hgrow6.block i (Nat.lt_of_lt_of_le hi hbw.size) (fun e => hF (by rw [← e]; simp))).trans (hbw.block i hi)⟩
            have B6 := Lib.hid (B.out.trans (K6.below B.out.size (fun i hi => by have := (R.out.lt i (by simpa using hi)).1; omega)))
            have M6 := Lib.hid (Dk.ownsMap_block MD.out (K6.block w.heap.size MD.out.lt (fun hi => by have := (R.out.lt w.heap.size (by simpa using hi)).1; omega)))
            obtain ⟨A6, c6, rfl, -⟩ := own_slice hown6
            clear hown6 hgrow6 hbw K6
            go_wp2_with fail
            go_roundw
            case rel => exact ⟨m + 1, _, by omega, by go_num, rfl, O6, M6, B6⟩
            case measure => simp [intOf]; omega
          · have HL := Lib.hid (show lostL zs (m + 1) = lostL zs m by rw [lost_succ, if_pos (of_decide_eq_true HB.out)])
            go_wp2_with fail
            go_roundw
            case rel => exact ⟨m + 1, v, by omega, by go_num, rfl, Lib.hid (by rw [HL.out]; exact R.out), MD, B⟩
            case measure => simp [intOf]; omega
        · obtain rfl : m = M := by omega
          go_wp2_with fail
          go_ret
          obtain ⟨A, c, rfl, _⟩ := own_slice R.out
          exact ⟨_, rfl, own_base R.out (by omega), B.out⟩
end Go.Proofs.YtddpjahoeldleaaGreatDoor

/-! Unpack: what a good sector says, as five results. -/
namespace Go.Proofs.YtddpjahoeldleaaGreatDoor
open Go.RowKit

theorem results_tmp5 {fn : Func} {a b c d e : Tmp} (h : fn.results = #[.tmp a, .tmp b, .tmp c, .tmp d, .tmp e]) (tmps : Array Value) (P : Program) (w : World) :
    (results fn tmps).run P w = .ok (.tuple #[tmps.getD a undef, tmps.getD b undef, tmps.getD c undef, tmps.getD d undef, tmps.getD e undef]) w := by
  simp [results, h]

set_option maxHeartbeats 1000000 in
theorem unpack5_any (s : ByteArray) (w : World) (hk : Consts w) :
    Calls Tryz.prog 41 #[.string s] w (RetB (.tuple #[.int .i64 ((unpackB s.data.toList).number : Int), .int .i64 ((unpackB s.data.toList).part : Int), .int .i64 ((unpackB s.data.toList).left : Int), str (unpackB s.data.toList).payload, .bool (unpackB s.data.toList).ok]) w) := by
  obtain ⟨hz, hsz⟩ := zero_of_info infoJpart
  have HC := Lib.hid (unpack_any s w hk)
  obtain ⟨p, hp⟩ : ∃ p, p = unpackB s.data.toList := ⟨_, rfl⟩
  rw [← hp] at HC ⊢
  obtain ⟨y, hy⟩ : ∃ y : ByteArray, y = ⟨p.payload.toArray⟩ := ⟨_, rfl⟩
  rw [partRow, show str p.payload = .string y by rw [hy]] at HC
  rw [show str p.payload = .string y by rw [hy]]
  obtain ⟨n, hn⟩ : ∃ n, n = p.number := ⟨_, rfl⟩
  obtain ⟨k, hk'⟩ : ∃ n, n = p.part := ⟨_, rfl⟩
  obtain ⟨l, hl⟩ : ∃ n, n = p.left := ⟨_, rfl⟩
  obtain ⟨b, hb⟩ : ∃ n, n = p.ok := ⟨_, rfl⟩
  rw [← hn, ← hk', ← hl, ← hb] at HC ⊢
  clear hk hp hy hn hk' hl hb
  go_enter Tryz.func41, Tryz.ntmps41
  go_wp2_with fail
  refine HC.out.mono ?_
  rintro e w2 ⟨rfl, b2⟩
  have HB2 := Lib.hid b2
  clear b2
  go_wp2_with fail
  have q0 := (Blk.new w2 80 #[.int .i64 n, .int .i64 k, .int .i64 l, .string y, .bool b]).cell 0
  have q1 := (Blk.new w2 80 #[.int .i64 n, .int .i64 k, .int .i64 l, .string y, .bool b]).cell 1
  have q2 := (Blk.new w2 80 #[.int .i64 n, .int .i64 k, .int .i64 l, .string y, .bool b]).cell 2
  have q3 := (Blk.new w2 80 #[.int .i64 n, .int .i64 k, .int .i64 l, .string y, .bool b]).cell 3
  have q4 := (Blk.new w2 80 #[.int .i64 n, .int .i64 k, .int .i64 l, .string y, .bool b]).cell 4
  simp only [List.getElem?_toArray, List.getElem?_cons_zero, List.getElem?_cons_succ] at q0 q1 q2 q3 q4
  go_quiet (fail)
  go_wp2_with fail
  (try simp only [Exit.inBlock, Exit.then])
  refine bodyPost_ret (results_tmp5 rfl _ _ _) rfl ?_
  exact ⟨rfl, below_drewN (below_alloc' HB2.out _) _⟩
end Go.Proofs.YtddpjahoeldleaaGreatDoor
