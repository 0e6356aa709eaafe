/- Mount. -/
import Derived.Test.YtibhnjnfifpepaaFlush
namespace Go.Proofs.Ytibhnjnfifpepaa
open Go.RowKit Go.Maps Go.Sort Go.Shelf

def intCells (zs : List Int) : List Value := zs.map (Value.int .i64)
def pickF (ps : List Int) (k : Nat) : Int := if k < ps.length then ps.getD k 0 else 64
def mountS (S : St) (ps : List Int) : St := { settleK S (keysOf S.pend) (pickF ps) (keysOf S.pend).length with off := false, left := -1 }
theorem Keep.cell {F : List Nat} {w w' : World} (h : Keep F w w') {p : Addr} (hp : p.block < w.heap.size) (hF : p.block ∉ F) : w'.cell? p = w.cell? p := World.cell?_of_block (w := w) (h.block p.block hp hF)

set_option maxHeartbeats 4000000 in
set_option maxRecDepth 100000 in
theorem mount_gen (w : World) (g gb gp gw K : Nat) (S : St) (h : DiskAt w g gb gp gw K S) (hK : K ≤ 100000) (hP : PendOK S) (A' : Option Addr) (n' c' : Nat) (ps : List Int)
    (hp : Rd w w.heap.size 1 A' n' (intCells ps)) (hn' : n' ≤ 9223372036854775807) (hpF : 0 < n' → ∀ b o, A' = some ⟨b, o, none⟩ → b ∉ [g, gb, gp, gw]) :
    Calls Try.prog 23 #[.pointer (some ⟨g, 0, none⟩), .slice A' n' c'] w (DPost (.tuple #[]) g gb gp gw K (mountS S ps) w) := by
  have hl : ps.length = n' := by have := hp.1; simpa [intCells] using this
  have HL := Lib.hid hl
  have H := Lib.hid h
  have HPF := Lib.hid hpF
  have HPP := Lib.hid hp
  have HPO := Lib.hid hP
  clear h hl hpF hp hP
  go_enter Try.func23, Try.ntmps23
  go_wp2_with fail
  refine (pending_any w g gb gp gw K S H.out hK).mono ?_
  rintro e w3 ⟨v, rfl, hrow, hb3⟩
  obtain ⟨A, cp, rfl, hcp⟩ := own_slice hrow
  have h3 := H.out.below hb3
  have k3 := Keep.of_below hb3 [g, gb, gp, gw]
  have hsz := keys_size S.pend
  have hsz2 := H.out.pend.size_le
  obtain ⟨ks, hks⟩ : ∃ ks, ks = keysOf S.pend := ⟨_, rfl⟩
  have HS := Lib.hid (show mountS S ps = { settleK S ks (pickF ps) ks.length with off := false, left := -1 } by rw [hks]; rfl)
  rw [← hks] at hrow hsz hcp ⊢
  have hok : ∀ z ∈ ks, 0 ≤ z ∧ z < (S.bl.length : Int) := by
    intro z hz
    rw [hks] at hz
    exact HPO.out z hz
  obtain ⟨m, hm⟩ : ∃ m, m = ks.length := ⟨_, rfl⟩
  rw [← hm] at hrow HS hsz hcp ⊢
  have hmb : m ≤ 100000 := by omega
  have HROW := Lib.hid hrow
  have H3 := Lib.hid h3
  have K3 := Lib.hid k3
  have HM := Lib.hid hm
  have HOK := Lib.hid hok
  have hFb : ∀ k, k ∈ [g, gb, gp, gw] → k < w.heap.size := by
    intro k hk
    have := H.out.lt
    simp only [List.mem_cons, List.not_mem_nil, or_false] at hk
    rcases hk with rfl | rfl | rfl | rfl <;> omega
  have HFB := Lib.hid hFb
  clear hrow h3 k3 hsz hsz2 hks hm hok hb3 hFb hcp
  go_wp2_with fail
  go_loopw [10] (fun x wr => ∃ k : Nat, k ≤ m ∧ x = .int .i64 k ∧ Hid (DiskAt wr g gb gp gw K (settleK S ks (pickF ps) k)) ∧ Hid (Keep [g, gb, gp, gw] w wr) ∧ Hid (wr.ownsRow w.heap.size 3 1 (.slice A m cp) m (ks.map encZ))) (fun x _ => m - (intOf x).toNat)
  case atStart => exact ⟨0, by omega, rfl, H3, K3, HROW⟩
  case round =>
    obtain ⟨k, hk, rfl, hD, hKp, hR⟩ := hrel
    by_cases hlt : k < m
    · have hkl : k < ks.length := by have := HM.out; omega
      obtain ⟨gk, ck, hv, hgb, hgl⟩ := World.ownsRow.form hR.out (by omega)
      injection hv with hA hn1 hc1
      subst hA
      subst hc1
      clear hn1
      have hcell := hR.out.cellAt (g := gk) (j := k) (by omega)
      rw [List.getElem?_map, List.getElem?_eq_getElem hkl, Option.map_some] at hcell
      have hz := HOK.out _ (List.getElem_mem hkl)
      obtain ⟨zi, hzi⟩ := Int.eq_ofNat_of_zero_le hz.1
      rw [hzi] at hcell hz
      have HZ := Lib.hid (show ks.getD k 0 = (zi : Int) by rw [List.getD_eq_getElem?_getD, List.getElem?_eq_getElem hkl, Option.getD_some, hzi])
      have hcell : wr.cell? ⟨gk, k, none⟩ = some (.int .i64 (zi : Int)) := hcell
      have hir : zi < (settleK S ks (pickF ps) k).bl.length := by rw [settleK_len]; omega
      have HIR := Lib.hid hir
      have i1 : (k : Int) < (m : Int) := by omega
      clear hz hzi hkl hir hgb hgl
      by_cases hkn : k < n'
      · obtain ⟨b, o, e, hbb, hcc⟩ := HPP.out.2 (by omega)
        subst e
        have hnF := HPF.out (by omega) b o rfl
        have hpk : wr.cell? ⟨b, o + k, none⟩ = some (.int .i64 (ps.getD k 0)) := by
          rw [hKp.out.cell (p := ⟨b, o + k, none⟩) hbb hnF]
          refine hcc k _ ?_
          have hkp : k < ps.length := by have := HL.out; omega
          rw [intCells, List.getElem?_map, List.getElem?_eq_getElem hkp, Option.map_some, List.getD_eq_getElem?_getD, List.getElem?_eq_getElem hkp, Option.getD_some]
        have HPK := Lib.hid (show pickF ps k = ps.getD k 0 by rw [pickF, if_pos (by have := HL.out; omega)])
        generalize ps.getD k 0 = pk at *
        have i2 : (k : Int) < (n' : Int) := by omega
        clear hcc hnF
        go_wp2_with fail
        refine (settle_any wr g gb gp gw K _ hD.out zi HIR.out pk).mono ?_
        rintro e w5 ⟨rfl, h5, k5⟩
        have H5 := Lib.hid h5
        have K5 := Lib.hid (hKp.out.trans k5)
        have R5 := Lib.hid (ownsRow_keep hR.out k5 HFB.out)
        clear h5 k5
        go_wp2_with fail
        go_roundw
        case rel =>
          refine ⟨k + 1, by omega, by go_num, ?_, K5, R5⟩
          have : settleK S ks (pickF ps) (k + 1) = settleS (settleK S ks (pickF ps) k) zi pk := by rw [settleK, HZ.out, Int.toNat_natCast, HPK.out]
          rw [this]
          exact H5
        case measure => simp [intOf]; omega
      · have HPK := Lib.hid (show pickF ps k = 64 by rw [pickF, if_neg (by have := HL.out; omega)])
        go_wp2_with fail
        refine (settle_any wr g gb gp gw K _ hD.out zi HIR.out 64).mono ?_
        rintro e w5 ⟨rfl, h5, k5⟩
        have H5 := Lib.hid h5
        have K5 := Lib.hid (hKp.out.trans k5)
        have R5 := Lib.hid (ownsRow_keep hR.out k5 HFB.out)
        clear h5 k5
        go_wp2_with fail
        go_roundw
        case rel =>
          refine ⟨k + 1, by omega, by go_num, ?_, K5, R5⟩
          have : settleK S ks (pickF ps) (k + 1) = settleS (settleK S ks (pickF ps) k) zi 64 := by rw [settleK, HZ.out, Int.toNat_natCast, HPK.out]
          rw [this]
          exact H5
        case measure => simp [intOf]; omega
    · obtain rfl : m = k := by omega
      have f3 := hD.out.free 3
      have f4 := hD.out.free 4
      have d3 := hD.out.cells.2.2.2.1
      have d4 := hD.out.cells.2.2.2.2
      have hfin := (hD.out.setOff false).setLeft (-1) (by decide) (by decide)
      have HF := Lib.hid hfin
      have KF := Lib.hid ((hKp.out.setCell (a := ⟨g, 3, none⟩) (by simp) (.bool false)).setCell (a := ⟨g, 4, none⟩) (by simp) (.int .i64 (-1)))
      clear hfin
      go_wp2_with fail
      go_end0
      exact DPost.ret0 (by rw [HS.out]) HF.out KF.out
theorem mount_any (w : World) (g gb gp gw K : Nat) (S : St) (h : DiskAt w g gb gp gw K S) (hK : K ≤ 100000) (hP : PendOK S) (A' : Option Addr) (n' c' : Nat) (ps : List Int)
    (hp : Rd w w.heap.size 1 A' n' (intCells ps)) (hn' : n' ≤ 9223372036854775807) (hpF : ∀ b o, A' = some ⟨b, o, none⟩ → b ∉ [g, gb, gp, gw]) :
    Calls Try.prog 23 #[.pointer (some ⟨g, 0, none⟩), .slice A' n' c'] w (DPost (.tuple #[]) g gb gp gw K (mountS S ps) w) :=
  mount_gen w g gb gp gw K S h hK hP A' n' c' ps hp hn' fun _ => hpF
end Go.Proofs.Ytibhnjnfifpepaa
