/- Valid, the program's and the reference's. -/
import Derived.Test.YtflfachkoffiiaaClauses
namespace Go.Proofs.Ytflfachkoffiiaa
open Go.RowKit

def badC (c : ClV) : Bool := decide (16 < c.name.length) || decide (8 < c.must.length) || decide (8 < c.nots.length) || c.must.any (fun s => !condB s) || c.nots.any (fun s => !atomB s)
def validB (l : List ClV) : Bool := decide (l.length ≤ 32) && !l.any badC
theorem mk_list (b : Bs) : (⟨b.toArray⟩ : ByteArray).data.toList = b := rfl

theorem notCond_any (x : Bs) (w : World) (hx : x.length ≤ 9223372036854775807) : Calls Try.prog 29 #[str x] w (RetB (.bool (!condB x)) w) := by
  have H := fun b hb => cond_any ⟨x.toArray⟩ w (by rw [mk_size]; exact hx) b hb
  rw [mk_list] at H
  obtain ⟨p, hp⟩ : ∃ p, condB x = p := ⟨_, rfl⟩
  have HP := Lib.hid hp
  rw [hp]
  unfold str
  clear hp
  go_enter Try.func29, Try.ntmps29
  go_wp2_with fail
  refine (H p HP).mono ?_
  rintro e w' ⟨rfl, hb⟩
  clear H
  go_wp2_with fail
  go_ret
  exact RetB.of rfl hb
theorem notAtom_any (x : Bs) (w : World) : Calls Try.prog 31 #[str x] w (RetB (.bool (!atomB x)) w) := by
  have H := fun b hb => atom_any ⟨x.toArray⟩ w b hb
  rw [mk_list] at H
  obtain ⟨p, hp⟩ : ∃ p, atomB x = p := ⟨_, rfl⟩
  have HP := Lib.hid hp
  rw [hp]
  unfold str
  clear hp
  go_enter Try.func31, Try.ntmps31
  go_wp2_with fail
  refine (H p HP).mono ?_
  rintro e w' ⟨rfl, rfl⟩
  clear H
  go_wp2_with fail
  go_ret
  exact RetB.of rfl (Below.refl _ _)
theorem eg29 : ∀ args w, (callFunc 29 args).run Try.prog w = .ok (.enter 29 args) w := enters_of Try.func29 (by kernel_rfl) rfl
theorem eg31 : ∀ args w, (callFunc 31 args).run Try.prog w = .ok (.enter 31 args) w := enters_of Try.func31 (by kernel_rfl) rfl
theorem eg27 : ∀ args w, (callFunc 27 args).run Try.prog w = .ok (.enter 27 args) w := enters_of Try.func27 (by kernel_rfl) rfl

set_option maxHeartbeats 2000000 in
theorem bad_any (c : ClV) (w : World) (h : ClAt w w.heap.size c) : Calls Try.prog 27 #[clVal c] w (RetB (.bool (badC c)) w) := by
  obtain ⟨name, A1, n1, c1, must, A2, n2, c2, nots⟩ := c
  have l1 := h.l1
  have l2 := h.l2
  obtain ⟨nm, m1, m2, r1, r2, f1, f2⟩ := h
  dsimp only at nm m1 m2 r1 r2 f1 f2 l1 l2
  have hb0 := below_new w (.cells #[str name, .slice A1 n1 c1, .slice A2 n2 c2] 36)
  have H1 := Lib.hid (r1.go hb0)
  have H2 := Lib.hid (r2.go hb0)
  have HB0 := Lib.hid hb0
  have HR := Lib.hid (show (decide (16 < name.length) || decide (8 < n1) || decide (8 < n2) || must.any (fun s => !condB s) || nots.any (fun s => !atomB s)) = badC ⟨name, A1, n1, c1, must, A2, n2, c2, nots⟩ by unfold badC; rw [l1, l2])
  have F1 := Lib.hid f1
  obtain ⟨sn, hsn⟩ : ∃ sn : ByteArray, sn = ⟨name.toArray⟩ := ⟨_, rfl⟩
  have zn : sn.size = name.length := by rw [hsn, mk_size]
  obtain ⟨nl, hnl⟩ : ∃ nl, nl = name.length := ⟨_, rfl⟩
  rw [← hnl] at zn HR
  obtain ⟨r, hr⟩ : ∃ r, badC ⟨name, A1, n1, c1, must, A2, n2, c2, nots⟩ = r := ⟨_, rfl⟩
  rw [hr] at HR ⊢
  unfold clVal
  rw [show str name = .string sn by rw [hsn]] at H1 H2 HB0
  show Calls Try.prog 27 #[.agg #[str name, .slice A1 n1 c1, .slice A2 n2 c2]] w _
  rw [show str name = .string sn by rw [hsn]]
  have N1 := Lib.hid m1
  have N2 := Lib.hid m2
  clear hb0 r1 r2 f1 f2 hsn hnl hr l1 l2
  by_cases h1 : 16 < nl
  · go_enter Try.func27, Try.ntmps27
    go_wp2_with fail
    go_ret
    exact RetB.of (by rw [← HR.out]; simp [h1]) HB0.out
  by_cases h2 : 8 < n1
  · go_enter Try.func27, Try.ntmps27
    go_wp2_with fail
    go_ret
    exact RetB.of (by rw [← HR.out]; simp [h2]) HB0.out
  by_cases h3 : 8 < n2
  · go_enter Try.func27, Try.ntmps27
    go_wp2_with fail
    go_ret
    exact RetB.of (by rw [← HR.out]; simp [h3]) HB0.out
  cases ha : must.any (fun s => !condB s)
  · have HA := Lib.hid ha
    rw [ha, decide_eq_false h1, decide_eq_false h2, decide_eq_false h3] at HR
    clear ha
    go_enter Try.func27, Try.ntmps27
    go_wp2_with fail
    refine (containsS_any 29 #[] eg29 (fun s => !condB s) A1 n1 c1 must _ H1.out N1.out (fun W x hx _ => notCond_any x W (F1.out x hx)) false HA).mono ?_
    rintro e w1 ⟨rfl, b1⟩
    have H2' := Lib.hid (H2.out.go b1)
    have HB1 := Lib.hid (below_go HB0.out b1)
    have k2 : w1.cell? ⟨w.heap.size, 2, none⟩ = some (.slice A2 n2 c2) := by
      rw [b1.cell (p := ⟨w.heap.size, 2, none⟩) (by simp), World.cell?_alloc_at _ _ _ _ rfl]; rfl
    clear b1
    go_wp2_with fail
    refine (containsS_any 31 #[] eg31 (fun s => !atomB s) A2 n2 c2 nots _ H2'.out N2.out (fun W x _ _ => notAtom_any x W) r (Lib.hid (by rw [← HR.out]; simp))).mono ?_
    rintro e w2 ⟨rfl, b2⟩
    go_wp2_with fail
    go_ret
    refine RetB.of ?_ (below_go HB1.out b2)
    show Value.bool r = Value.bool (decide (16 < (nl : Int)) || decide (8 < (n1 : Int)) || decide (8 < (n2 : Int)) || r)
    rw [decide_eq_false (by omega : ¬ 16 < (nl : Int)), decide_eq_false (by omega : ¬ 8 < (n1 : Int)), decide_eq_false (by omega : ¬ 8 < (n2 : Int))]
    rfl
  · have HA := Lib.hid ha
    rw [ha, decide_eq_false h1, decide_eq_false h2, decide_eq_false h3] at HR
    clear ha
    go_enter Try.func27, Try.ntmps27
    go_wp2_with fail
    refine (containsS_any 29 #[] eg29 (fun s => !condB s) A1 n1 c1 must _ H1.out N1.out (fun W x hx _ => notCond_any x W (F1.out x hx)) true HA).mono ?_
    rintro e w1 ⟨rfl, b1⟩
    have HB1 := Lib.hid (below_go HB0.out b1)
    clear b1
    go_wp2_with fail
    go_ret
    exact RetB.of (by rw [← HR.out]; rfl) HB1.out

theorem valid_any (A : Option Addr) (n c : Nat) (l : List ClV) (w : World) (h : Cls w w.heap.size A n l) (hn : n ≤ 9223372036854775807) (b : Bool) (hb : Hid (validB l = b)) : Calls Try.prog 11 #[.slice A n c] w (RetB (.bool b) w) := by
  have H := Lib.hid h
  have HL := Lib.hid h.len
  by_cases h32 : n ≤ 32
  · obtain ⟨r, hr⟩ : ∃ r, l.any badC = r := ⟨_, rfl⟩
    have HR := Lib.hid hr
    have HB := Lib.hid (show (!r) = b by rw [← hb.out, validB, h.len, decide_eq_true h32, hr]; rfl)
    clear h hr hb
    go_enter Try.func11, Try.ntmps11
    go_wp2_with fail
    refine (containsC_any 27 #[] eg27 badC A n c l _ H.out hn (fun W x hx hbw => bad_any x W (((H.out.all x hx).keep (fun p hp => hbw.cell hp)).more hbw.size)) r HR).mono ?_
    rintro e w1 ⟨rfl, b1⟩
    go_wp2_with fail
    go_ret
    exact RetB.of (by rw [← HB.out]; rfl) b1
  · have HB := Lib.hid (show false = b by rw [← hb.out, validB, h.len, decide_eq_false h32]; rfl)
    clear h hb
    go_enter Try.func11, Try.ntmps11
    go_wp2_with fail
    go_ret
    exact RetB.of (by rw [← HB.out]; rfl) (Below.refl _ _)
end Go.Proofs.Ytflfachkoffiiaa
