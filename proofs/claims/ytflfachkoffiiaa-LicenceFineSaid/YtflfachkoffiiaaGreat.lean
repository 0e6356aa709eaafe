/- Greatest, the program's and the reference's. -/
import Derived.Test.YtflfachkoffiiaaQueueI
namespace Go.Proofs.Ytflfachkoffiiaa
open Go.RowKit Go.Lib

def IPost (zs : List Int) (w : World) : Ending → World → Prop := fun e w' => ∃ v, e = .returned v ∧ IAt w' w.heap.size v (intCells zs) ∧ Below w.heap.size w w'
theorem IAt.of_own {w : World} {base n : Nat} {v : Value} {xs : List Value} (h : w.ownsRow base 3 1 v n xs) : IAt w base v xs := by
  have hl := h.1
  rcases h.2 with ⟨rfl, rfl⟩ | ⟨g, cap, cur, rfl, h1, h2, h3, h4, h5, h6⟩
  · exact .inl ⟨rfl, List.eq_nil_of_length_eq_zero (by omega)⟩
  · refine .inr ⟨g, 0, cap, by rw [hl, Nat.mul_one], h1, (Array.getElem?_eq_some_iff.1 h2).1, by omega, h4, fun j hj => ?_, fun j u hu => ?_⟩
    · rw [Nat.zero_add, cell_of_row w g j cur 3 (0, 0) h2, Array.getElem?_eq_getElem (by omega)]
      exact ⟨rfl, by simp [World.frozen?, h2]⟩
    · have := h.cells (g := g) rfl j u hu
      rwa [Addr.add_lit] at this
theorem cloneI_any (A : Option Addr) (n c : Nat) (zs : List Int) (w : World) (h : Rd w w.heap.size 1 A n (intCells zs)) (hn : n ≤ 100000) : Calls Try.prog 45 #[.slice A n c] w (IPost zs w) := by
  have hl := int_len h
  cases A with
  | none =>
    have h0 : n = 0 := by
      rcases Nat.eq_zero_or_pos n with h0 | h0
      · exact h0
      · obtain ⟨_, _, e, _⟩ := h.2 h0; cases e
    obtain rfl : zs = [] := List.eq_nil_of_length_eq_zero (by omega)
    refine (Try.slices_Clone_nil n c w).mono ?_
    rintro e w' ⟨rfl, rfl⟩
    exact ⟨_, rfl, IAt.nil _ _, Below.refl _ _⟩
  | some a =>
    have hnl := Lib.run_eql_slice_nil (P := Try.prog) w 22 3 (some a) n c 0 0 Try.underlying22
    have HS := Lib.hid (src_rdI (c := c) (h.go (below_new w (.cells #[] 3))))
    go_enter Try.func45, Try.ntmps45
    go_wp2_with (at_builtin; refine wpList_append_i _ rfl _ _ rfl rfl w.heap.size _ [] rfl (IAt.lit0 w w.heap.size (Nat.le_refl _)) (by simp) _ n (intCells zs) rfl HS.out (by simp; omega) ?_)
    intro v2 w2 hq hgr hloc
    have hb : Below w.heap.size w w2 := (below_new w (.cells #[] 3)).grown hgr (by simp) (fun g hg => ((IAt.lit0 w w.heap.size (Nat.le_refl _)).lt hg).1)
    clear hgr hloc hnl
    go_wp2_with fail
    go_ret
    exact ⟨_, rfl, hq, hb⟩

/-- one step, and all -/
noncomputable def greatS (l : List ClV) (out : List Int) (i : Int) : List Int := if fineB l (sortedTo (out ++ [i]) l.length) = true then sortedTo (out ++ [i]) l.length else out
noncomputable def greatL (l : List ClV) (sel : List Int) : List Int := sel.foldl (greatS l) []
noncomputable def greatV (l : List ClV) (sel : List Int) : List Int := if validB l = true then greatL l sel else []
theorem greatS_len {l : List ClV} {out : List Int} (h : out.length ≤ l.length) (i : Int) : (greatS l out i).length ≤ l.length := by
  unfold greatS
  split
  · exact sortedTo_len _ _
  · exact h
theorem great_len (l : List ClV) (sel : List Int) : (greatL l sel).length ≤ l.length := by
  unfold greatL
  have : ∀ (s : List Int) (out : List Int), out.length ≤ l.length → (s.foldl (greatS l) out).length ≤ l.length := by
    intro s
    induction s with
    | nil => intro out h; exact h
    | cons i s ih => intro out h; exact ih _ (greatS_len h i)
  exact this sel [] (Nat.zero_le _)
theorem great_step {l : List ClV} {sel : List Int} {k : Nat} (h : k < sel.length) : greatL l (sel.take (k + 1)) = greatS l (greatL l (sel.take k)) sel[k] := by
  unfold greatL
  rw [List.take_succ_eq_append_getElem h, List.foldl_append]; rfl

set_option maxHeartbeats 8000000 in
set_option maxRecDepth 100000 in
theorem great_any (A1 : Option Addr) (n1 c1 : Nat) (l : List ClV) (A : Option Addr) (n c : Nat) (sel : List Int) (w : World) (h1 : Cls w w.heap.size A1 n1 l) (hn1 : n1 ≤ 9223372036854775807) (h2 : Rd w w.heap.size 1 A n (intCells sel)) (hn : n ≤ 1000) :
    Calls Try.prog 23 #[.slice A1 n1 c1, .slice A n c] w (IntsPost (greatV l sel) w) := by
  have HL := Lib.hid h1.len
  have HS := Lib.hid (int_len h2)
  have H1 := Lib.hid h1
  have H2 := Lib.hid h2
  clear h1 h2
  cases hv : validB l
  · have HV := Lib.hid hv
    rw [greatV, hv]
    clear hv
    go_enter Try.func23, Try.ntmps23
    go_wp2_with fail
    refine (valid_any A1 n1 c1 l w H1.out hn1 false HV).mono ?_
    rintro e w1 ⟨rfl, b1⟩
    go_wp2_with fail
    go_ret
    exact ⟨none, 0, rfl, Rd.nil, Nat.zero_le _, b1⟩
  · have HV := Lib.hid hv
    have HSM := Lib.hid (small_of_valid hv)
    have h32 : n1 ≤ 32 := by have := HSM.out.1; have := HL.out; omega
    rw [greatV, hv, if_pos rfl]
    clear hv
    have HK := Lib.hid (fun k => great_len l (sel.take k))
    go_enter Try.func23, Try.ntmps23
    go_wp2_with fail
    refine (valid_any A1 n1 c1 l w H1.out hn1 true HV).mono ?_
    rintro e w1 ⟨rfl, b1⟩
    have HB1 := Lib.hid b1
    clear b1
    go_wp2_with fail
    go_loopw [5, 14] (fun v x wr => ∃ (k : Nat) (Ao : Option Addr) (co no : Nat), k ≤ n ∧ x = .int .i64 k ∧ v = .slice Ao no co ∧ no ≤ co ∧ Hid (Rd wr wr.heap.size 1 Ao no (intCells (greatL l (sel.take k)))) ∧ Hid (Below w.heap.size w wr)) (fun _ x _ => n - (intOf x).toNat)
    case atStart => exact ⟨0, none, 0, 0, by omega, rfl, rfl, Nat.le_refl _, Lib.hid Rd.nil, HB1⟩
    case round =>
      obtain ⟨k, Ao, co, no, hk, rfl, rfl, hno, Q, B⟩ := hrel
      by_cases hlt : k < n
      · obtain ⟨b2, o2, rfl, _, x1⟩ := (H2.out.go B.out).int hlt
        have hkl : k < sel.length := by have := HS.out; omega
        have j1 : (k : Int) < (n : Int) := by omega
        have j0 : (0 : Int) ≤ (k : Int) := by omega
        have hz : sel.getD k 0 = sel[k] := by rw [List.getD_eq_getElem?_getD, List.getElem?_eq_getElem hkl]; rfl
        rw [hz] at x1
        have HST := Lib.hid (great_step (l := l) hkl)
        obtain ⟨z, hzz⟩ : ∃ z, z = sel[k] := ⟨_, rfl⟩
        rw [← hzz] at x1 HST
        clear hz hzz
        have hno9 : no ≤ 32 := by have := HK.out k; have := int_len Q.out; have := HL.out; omega
        obtain ⟨out, hout⟩ : ∃ out, out = greatL l (sel.take k) := ⟨_, rfl⟩
        rw [← hout] at HST Q
        have HOL := Lib.hid (int_len Q.out)
        clear hout
        go_wp2_with fail
        refine (cloneI_any Ao no co out wr Q.out (by omega)).mono ?_
        rintro e w2 ⟨v2, rfl, hq, b2'⟩
        have HQ := Lib.hid hq
        have HB2 := Lib.hid b2'
        have hws := b2'.size
        have hl0 : (intCells out).length + 1 ≤ 1000000 := by rw [intCells, List.length_map, HOL.out]; omega
        clear hq b2'
        go_wp2_with (at_builtin; refine wpList_append_i _ rfl _ _ rfl rfl wr.heap.size _ _ rfl (HQ.out.alloc _) (by simp; omega) _ 1 _ rfl (src_oneI _ z _) hl0 ?_)
        intro v3 w3 hq3 hgr hloc
        have HB3 := Lib.hid ((HB2.out.alloc HB2.out.size _).grown hgr (Nat.le_trans HB2.out.size (by simp)) (fun g hg => (HQ.out.lt hg).1))
        rw [← intCells_snoc] at hq3
        obtain ⟨A3, c3, rfl, hc3, hr3⟩ := hq3.rd
        rw [show (intCells (out ++ [z])).length = no + 1 by rw [intCells, List.length_map, List.length_append, HOL.out]; rfl] at *
        have HR3 := Lib.hid hr3
        clear hq3 hgr hloc hc3 hr3
        go_wp2_with fail
        refine (sorted_any A1 n1 c1 A3 (no + 1) c3 (out ++ [z]) w3 HR3.out (by omega)).mono ?_
        rintro e w4 ⟨A4, c4, rfl, hr4, hc4, b4⟩
        have HB4 := Lib.hid (below_go HB3.out b4)
        have HR4 := Lib.hid hr4
        have HQ4 := Lib.hid (Q.out.go HB4.out)
        have HB5 := Lib.hid (below_go B.out HB4.out)
        have HC4 := Lib.hid (H1.out.go HB5.out)
        obtain ⟨nx, hnx⟩ : ∃ nx, nx = sortedTo (out ++ [z]) n1 := ⟨_, rfl⟩
        have hnxl : nx.length ≤ n1 := by rw [hnx]; exact sortedTo_len _ _
        have hnr : ∀ i ∈ nx, 0 ≤ i ∧ i < n1 := by rw [hnx]; exact sorted_range
        unfold greatS at HST
        rw [HL.out, ← hnx] at HST
        rw [← hnx] at HR4 hc4 ⊢
        obtain ⟨f, hf⟩ : ∃ f, fineB l nx = f := ⟨_, rfl⟩
        rw [hf] at HST
        have HF := Lib.hid hf
        obtain ⟨nl, hnl⟩ : ∃ nl, nl = nx.length := ⟨_, rfl⟩
        rw [← hnl] at HR4 hc4 hnxl ⊢
        clear hr4 b4 hnx hf hnl
        go_wp2_with fail
        refine (fine_any A1 n1 c1 l A4 nl c4 nx w4 HC4.out HR4.out HSM.out (by omega) hnr).mono ?_
        rintro e w5 ⟨rfl, b5⟩
        have HB6 := Lib.hid (below_go HB5.out b5)
        have HQ5 := Lib.hid (HQ4.out.go b5)
        have HR5 := Lib.hid (HR4.out.go b5)
        rw [HF.out]
        clear b5
        cases f
        · have HST2 := Lib.hid (HST.out.trans (if_neg (by simp)))
          go_wp2_with fail
          go_roundw
          case rel => exact ⟨k + 1, Ao, co, no, by omega, by go_num, rfl, hno, Lib.hid (by rw [HST2.out]; exact HQ5.out), HB6⟩
          case measure => simp [intOf]; omega
        · have HST2 := Lib.hid (HST.out.trans (if_pos rfl))
          go_wp2_with fail
          go_roundw
          case rel => exact ⟨k + 1, A4, c4, nl, by omega, by go_num, rfl, hc4, Lib.hid (by rw [HST2.out]; exact HR5.out), HB6⟩
          case measure => simp [intOf]; omega
      · obtain rfl : k = n := by omega
        have Q2 := Lib.hid (show Rd wr wr.heap.size 1 Ao no (intCells (greatL l sel)) by have := Q.out; rwa [List.take_of_length_le (by have := HS.out; omega)] at this)
        have HOL := Lib.hid (int_len Q2.out)
        go_wp2_with fail
        go_ret
        exact ⟨Ao, co, by rw [HOL.out]; rfl, by rw [HOL.out]; exact Q2.out, by rw [HOL.out]; exact hno, B.out⟩
end Go.Proofs.Ytflfachkoffiiaa
