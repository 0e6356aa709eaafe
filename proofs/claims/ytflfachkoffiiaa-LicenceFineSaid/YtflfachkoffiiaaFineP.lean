/- The program's Fine. -/
import Derived.Test.YtflfachkoffiiaaFine
namespace Go.Proofs.Ytflfachkoffiiaa
open Go.RowKit

theorem fine_sorted {l : List ClV} {n : Nat} (hl : l.length = n) (sel : List Int) : fineB l (sortedTo sel n) = fineB l sel :=
  fineB_same (fun i h0 h1 => by rw [sortedTo_mem]; exact ⟨fun h => h.1, fun h => ⟨h, h0, by omega⟩⟩)
theorem sorted_range {sel : List Int} {n : Nat} : ∀ i ∈ sortedTo sel n, 0 ≤ i ∧ i < n := fun i hi => by rw [sortedTo_mem] at hi; omega

set_option maxRecDepth 100000 in
theorem pfine_any (A1 : Option Addr) (n1 c1 : Nat) (l : List ClV) (A : Option Addr) (n c : Nat) (sel : List Int) (w : World) (h1 : Cls w w.heap.size A1 n1 l) (hn1 : n1 ≤ 9223372036854775807) (h2 : Rd w w.heap.size 1 A n (intCells sel)) (hn : n ≤ 1000) :
    Calls Try.prog 13 #[.slice A1 n1 c1, .slice A n c] w (RetB (.bool (fineV l sel)) w) := by
  have HL := Lib.hid h1.len
  have H1 := Lib.hid h1
  have H2 := Lib.hid h2
  clear h1 h2
  cases hv : validB l
  · have HV := Lib.hid hv
    clear hv
    go_enter Try.func13, Try.ntmps13
    go_wp2_with fail
    refine (valid_any A1 n1 c1 l w H1.out hn1 false HV).mono ?_
    rintro e w1 ⟨rfl, b1⟩
    go_wp2_with fail
    go_ret
    exact RetB.of (by rw [fineV, HV.out]; rfl) b1
  · have HV := Lib.hid hv
    have HSM := Lib.hid (small_of_valid hv)
    have h32 : n1 ≤ 32 := by have := HSM.out.1; have := HL.out; omega
    have hsl := sortedTo_len sel n1
    obtain ⟨b, hb⟩ : ∃ b, fineB l sel = b := ⟨_, rfl⟩
    have HB := Lib.hid (show fineB l (sortedTo sel n1) = b by rw [fine_sorted HL.out, hb])
    rw [fineV, hv, hb, Bool.true_and]
    clear hv hb
    go_enter Try.func13, Try.ntmps13
    go_wp2_with fail
    refine (valid_any A1 n1 c1 l w H1.out hn1 true HV).mono ?_
    rintro e w1 ⟨rfl, b1⟩
    have HB1 := Lib.hid b1
    clear b1
    go_wp2_with fail
    refine (sorted_any A1 n1 c1 A n c sel w1 (H2.out.go HB1.out) (by omega)).mono ?_
    rintro e w2 ⟨As, cs, rfl, hr, hc, b2⟩
    have HR := Lib.hid hr
    have HB2 := Lib.hid b2
    clear hr b2
    go_wp2_with fail
    refine (fine_any A1 n1 c1 l As _ cs (sortedTo sel n1) w2 ((H1.out.go HB1.out).go HB2.out) HR.out HSM.out (by omega) sorted_range).mono ?_
    rintro e w3 ⟨rfl, b3⟩
    rw [HB.out]
    go_wp2_with fail
    go_ret
    exact RetB.of rfl (below_go (below_go HB1.out HB2.out) b3)
end Go.Proofs.Ytflfachkoffiiaa
