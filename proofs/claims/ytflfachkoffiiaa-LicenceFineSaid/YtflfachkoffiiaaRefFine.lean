/- The reference's Fine. -/
import Derived.Test.YtflfachkoffiiaaFollows
namespace Go.Proofs.Ytflfachkoffiiaa
open Go.RowKit

def OkI (l : List ClV) (ms : List Bs) (i : Int) : Prop := ∀ c, clOf l i = some c → ∀ s ∈ c.nots, ¬ Der ms s
theorem fine_all {l : List ClV} {sel : List Int} {n : Nat} (hl : sel.length = n) (h : ∀ i ∈ sel.take n, OkI l (mustsB l sel) i) : fineB l sel = true := by
  rw [List.take_of_length_le (by omega)] at h
  exact fineB_iff.2 (fun i hi c hc s hs => h i hi c hc s hs)
theorem fine_bad {l : List ClV} {sel : List Int} {i : Int} {c : ClV} {s : Bs} (h : i ∈ sel) (hc : clOf l i = some c) (hs : s ∈ c.nots) (hd : Der (mustsB l sel) s) : fineB l sel = false := by
  rw [← Bool.not_eq_true, fineB_iff]
  exact fun hf => hf i h c hc s hs hd
theorem ok_out {l : List ClV} {ms : List Bs} {i : Int} (h : ¬ (0 ≤ i ∧ i < l.length)) : OkI l ms i := fun _ hc => absurd (clOf_in hc) h
theorem clOf_nat {l : List ClV} {i : Nat} {c : ClV} (h : l[i]? = some c) : clOf l i = some c := by unfold clOf; rw [if_pos (by omega), Int.toNat_natCast, h]
theorem ok_in {l : List ClV} {ms : List Bs} {i : Nat} {c : ClV} {n : Nat} (h : l[i]? = some c) (hn : c.nots.length = n) (hs : ∀ s ∈ c.nots.take n, ¬ Der ms s) : OkI l ms i := by
  intro c' hc s hs'
  rw [clOf_nat h] at hc
  obtain rfl := Option.some.inj hc
  rw [List.take_of_length_le (by omega)] at hs
  exact hs s hs'

set_option maxHeartbeats 8000000 in
set_option maxRecDepth 100000 in
theorem rfine_any (A1 : Option Addr) (n1 c1 : Nat) (l : List ClV) (A : Option Addr) (n c : Nat) (sel : List Int) (w : World) (h1 : Cls w w.heap.size A1 n1 l) (hn1 : n1 ≤ 9223372036854775807) (h2 : Rd w w.heap.size 1 A n (intCells sel)) (hn : n ≤ 1000) :
    Calls Try.prog 15 #[.slice A1 n1 c1, .slice A n c] w (RetB (.bool (fineV l sel)) w) := by
  have HL := Lib.hid h1.len
  have HS := Lib.hid (int_len h2)
  have H1 := Lib.hid h1
  have H2 := Lib.hid h2
  clear h1 h2
  cases hv : validB l
  · have HV := Lib.hid hv
    clear hv
    go_enter Try.func15, Try.ntmps15
    go_wp2_with fail
    refine (rvalid_any A1 n1 c1 l w H1.out hn1 false HV).mono ?_
    rintro e w1 ⟨rfl, b1⟩
    go_wp2_with fail
    go_ret
    exact RetB.of (by rw [fineV, HV.out]; rfl) b1
  · have HV := Lib.hid hv
    have hs := small_of_valid hv
    have h32 : n1 ≤ 32 := by have := hs.1; have := HL.out; omega
    have HSM := Lib.hid hs
    have HML := Lib.hid (musts_len (fun c hc => (hs.2 c hc).1) sel)
    obtain ⟨b, hb⟩ : ∃ b, fineB l sel = b := ⟨_, rfl⟩
    rw [fineV, hv, hb, Bool.true_and]
    have HB := Lib.hid hb
    clear hv hs hb
    go_enter Try.func15, Try.ntmps15
    go_wp2_with fail
    refine (rvalid_any A1 n1 c1 l w H1.out hn1 true HV).mono ?_
    rintro e w1 ⟨rfl, b1⟩
    have HB1 := Lib.hid b1
    clear b1
    go_wp2_with fail
    refine (follows_any A1 n1 c1 l A n c sel w1 ((H1.out.go HB1.out)) ((H2.out.go HB1.out)) HSM.out hn).mono ?_
    rintro e w2 ⟨v, rfl, hq, b2⟩
    obtain ⟨Ao, co, rfl, hco, hro⟩ := hq.rd
    obtain ⟨ms, hms⟩ : ∃ ms, ms = mustsB l sel := ⟨_, rfl⟩
    have hdr : ∀ s, (followsB ms).contains s = true ↔ Der ms s := fun s => by rw [List.contains_iff_mem, mem_follows]
    obtain ⟨out, hout⟩ : ∃ out, out = followsB ms := ⟨_, rfl⟩
    rw [← hms] at hro hco HML ⊢
    rw [← hout] at hro hco hdr ⊢
    obtain ⟨no, hno⟩ : ∃ no, no = out.length := ⟨_, rfl⟩
    rw [show (strCells out).length = no by rw [hno, strCells, List.length_map]] at hro hco ⊢
    have hno9 : no ≤ 9223372036854775807 := by
      have h9 := mid_len ms (ms.length + 1) 0
      rw [mid_zero] at h9
      have := HML.out
      have := HS.out
      rw [hno, hout, followsB]; omega
    have HO := Lib.hid hno.symm
    have HRO := Lib.hid hro
    have HD := Lib.hid hdr
    have HMS := Lib.hid hms
    have HB2 := Lib.hid (below_go HB1.out b2)
    have H1' := Lib.hid ((H1.out.go HB1.out).go b2)
    have H2' := Lib.hid ((H2.out.go HB1.out).go b2)
    clear hro hdr hms hno hout hco hq b2 HB1 H1 H2
    go_wp2_with fail
    go_loopw [6] (fun x wr => ∃ k : Nat, k ≤ n ∧ x = .int .i64 k ∧ Hid (∀ i ∈ sel.take k, OkI l ms i) ∧ wr = w2) (fun x _ => n - (intOf x).toNat)
    case atStart => exact ⟨0, by omega, rfl, Lib.hid (by simp), rfl⟩
    case round =>
      obtain ⟨k, hk, rfl, M, rfl⟩ := hrel
      by_cases hlt : k < n
      · obtain ⟨b2, o2, rfl, _, x1⟩ := H2'.out.int hlt
        have hkl : k < sel.length := by have := HS.out; omega
        have j1 : (k : Int) < (n : Int) := by omega
        have j0 : (0 : Int) ≤ (k : Int) := by omega
        have hz : sel.getD k 0 = sel[k] := by rw [List.getD_eq_getElem?_getD, List.getElem?_eq_getElem hkl]; rfl
        rw [hz] at x1
        have HX := Lib.hid (List.getElem?_eq_getElem hkl)
        obtain ⟨z, hzz⟩ : ∃ z, z = sel[k] := ⟨_, rfl⟩
        rw [← hzz] at x1 HX
        clear hz hzz
        by_cases hz0 : 0 ≤ z
        · by_cases hz1 : z < n1
          · obtain ⟨i, rfl⟩ : ∃ i : Nat, z = i := ⟨z.toNat, by omega⟩
            have hi : i < n1 := by omega
            obtain ⟨b1, o1, x, rfl, _, hx, hxa, y0, y1, y2⟩ := H1'.out.at_ hi
            have l2 := hxa.l2
            have r2 := hxa.r2
            obtain ⟨nm, Am, nq, cq, must, Bm, nr, cr, nots⟩ := x
            have HC := Lib.hid hx
            have m2 := hxa.m2
            dsimp only at l2 r2 y0 y1 y2 m2
            have L2 := Lib.hid l2
            have R2 := Lib.hid r2
            clear hxa y0 y1 l2 r2 hx
            have jd : decide (n1 ≤ i) = false := decide_eq_false (by omega)
            go_wp2_with fail
            go_loopw [7] (fun y wq => ∃ q : Nat, q ≤ nr ∧ y = .int .i64 q ∧ Hid (∀ s ∈ nots.take q, ¬ Der ms s) ∧ wq = wr) (fun y _ => nr - (intOf y).toNat)
            case atStart => exact ⟨0, by omega, rfl, Lib.hid (by simp), rfl⟩
            case round =>
              obtain ⟨q, hq, rfl, M1, rfl⟩ := hrel
              by_cases hql : q < nr
              · obtain ⟨b3, o3, rfl, _, y1⟩ := R2.out.str L2.out hql
                have hkl : q < nots.length := by have := L2.out; omega
                have i1 : (q : Int) < (nr : Int) := by omega
                have i0 : (0 : Int) ≤ (q : Int) := by omega
                have MX := Lib.hid (List.getElem?_eq_getElem hkl)
                obtain ⟨sp, hsp⟩ : ∃ sp : ByteArray, sp = ⟨nots[q].toArray⟩ := ⟨_, rfl⟩
                have hspl : nots[q] = sp.data.toList := by rw [hsp]
                rw [← hsp] at y1
                rw [hspl] at MX
                clear hsp hspl
                obtain ⟨p, hp⟩ : ∃ p, out.contains sp.data.toList = p := ⟨_, rfl⟩
                have HP := Lib.hid hp
                cases p
                · have M2 := Lib.hid (take_more (P := fun s => ¬ Der ms s) MX.out M1.out (fun hd => by rw [(HD.out _).2 hd] at hp; cases hp))
                  clear hp
                  go_wp2_with fail
                  refine (has_any Ao no co out sp wr HRO.out HO.out hno9 false HP).mono ?_
                  rintro e w' ⟨rfl, rfl⟩
                  go_wp2_with fail
                  go_roundw
                  case rel => exact ⟨q + 1, by omega, by go_num, M2, trivial⟩
                  case measure => simp [intOf]; omega
                · have HF := Lib.hid (fine_bad (List.mem_of_getElem? HX.out) (clOf_nat HC.out) (List.mem_of_getElem? MX.out) (by rw [← HMS.out]; exact (HD.out _).1 hp))
                  clear hp
                  go_wp2_with fail
                  refine (has_any Ao no co out sp wr HRO.out HO.out hno9 true HP).mono ?_
                  rintro e w' ⟨rfl, rfl⟩
                  go_wp2_with fail
                  go_ret
                  exact RetB.of (by rw [← HB.out, HF.out]; rfl) HB2.out
              · obtain rfl : q = nr := by omega
                have M2 := Lib.hid (take_more (P := OkI l ms) HX.out M.out (ok_in HC.out L2.out M1.out))
                go_wp2_with fail
                go_roundw
                case rel => exact ⟨k + 1, by omega, by go_num, M2, trivial⟩
                case measure => simp [intOf]; omega
          · have M2 := Lib.hid (take_more (P := OkI l ms) HX.out M.out (ok_out (by rw [HL.out]; omega)))
            go_wp2_with fail
            go_roundw
            case rel => exact ⟨k + 1, by omega, by go_num, M2, trivial⟩
            case measure => simp [intOf]; omega
        · have M2 := Lib.hid (take_more (P := OkI l ms) HX.out M.out (ok_out (by omega)))
          go_wp2_with fail
          go_roundw
          case rel => exact ⟨k + 1, by omega, by go_num, M2, trivial⟩
          case measure => simp [intOf]; omega
      · obtain rfl : k = n := by omega
        have HF := Lib.hid (fine_all HS.out (by rw [← HMS.out]; exact M.out))
        go_wp2_with fail
        go_ret
        exact RetB.of (by rw [← HB.out, HF.out]; rfl) HB2.out
end Go.Proofs.Ytflfachkoffiiaa
