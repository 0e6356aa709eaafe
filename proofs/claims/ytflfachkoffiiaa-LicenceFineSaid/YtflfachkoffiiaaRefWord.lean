/- The reference's atoms and conditions; has. -/
import Derived.Test.YtflfachkoffiiaaWord
namespace Go.Proofs.Ytflfachkoffiiaa
open Go.RowKit

theorem gt_hit {l : Bs} {k : Nat} (h1 : l[k]? = some 62) (h2 : ∀ j, j < k → l[j]? ≠ some 62) : gtI l = k := by
  by_cases h : gtI l < 0
  · have hi : Lib.indexByte l 62 = -1 := by have := gtI_ge l; unfold gtI at h this; omega
    exact absurd h1 (Lib.indexByte_none hi k)
  · obtain ⟨o, ho⟩ : ∃ o : Nat, gtI l = o := ⟨(gtI l).toNat, by omega⟩
    obtain ⟨a, b⟩ := Lib.indexByte_some (show Lib.indexByte l 62 = (o : Int) from ho)
    rw [ho]
    congr 1
    rcases Nat.lt_trichotomy o k with h | h | h
    · exact absurd a (h2 o h)
    · exact h
    · exact absurd h1 (b k h)
theorem gt_miss {l : Bs} (h : ∀ j, j < l.length → l[j]? ≠ some 62) : gtI l < 0 := by
  by_cases hn : gtI l < 0
  · exact hn
  · obtain ⟨o, ho⟩ : ∃ o : Nat, gtI l = o := ⟨(gtI l).toNat, by omega⟩
    obtain ⟨a, _⟩ := Lib.indexByte_some (show Lib.indexByte l 62 = (o : Int) from ho)
    exact absurd a (h o (List.getElem?_eq_some_iff.1 a).1)
theorem byte_at (s : ByteArray) (k : Nat) (h : k < s.size) : s.data.toList[k]? = some s[k] := by
  rw [List.getElem?_eq_getElem (by rw [list_size]; exact h)]; rfl

set_option maxRecDepth 100000 in
theorem split_any (s : ByteArray) (w : World) (hs : s.size ≤ 9223372036854775807) : Calls Try.prog 50 #[.string s] w (RetB (cutV s) w) := by
  obtain ⟨n, hn⟩ : ∃ n, n = s.size := ⟨_, rfl⟩
  have hn' := hn.symm
  rw [← hn] at hs
  clear hn
  go_enter Try.func50, Try.ntmps50
  go_wp2_with fail
  go_loopw [5] (fun x wr => ∃ k : Nat, k ≤ n ∧ x = .int .i64 k ∧ Hid (∀ j, j < k → s.data.toList[j]? ≠ some 62) ∧ Hid (Below w.heap.size w wr)) (fun x _ => n - (intOf x).toNat)
  case atStart => exact ⟨0, by omega, rfl, Lib.hid (fun j hj => absurd hj (by omega)), Lib.hid (Below.refl _ _)⟩
  case round =>
    obtain ⟨k, hk, rfl, A, B⟩ := hrel
    by_cases hlt : k < n
    · have j1 : (k : Int) < (n : Int) := by omega
      have j0 : (0 : Int) ≤ (k : Int) := by omega
      have hks : k < s.size := by omega
      have hb := Lib.hid (byte_at s k hks)
      by_cases hq : s[k] = 62
      · have HV := Lib.hid (cutV_some (gt_hit (by rw [hb.out, hq]) A.out))
        rw [hn'] at HV
        go_wp2_with fail
        go_quiet (fail)
        go_wp2_with fail
        go_ret3
        exact RetB.of HV.out (below_drewN B.out _)
      · have hq2 : ((s[k].toNat : Int) == 62) = false := by
          refine beq_eq_false_iff_ne.2 (fun e => hq ?_)
          apply UInt8.toNat_inj.1
          show s[k].toNat = 62
          omega
        have A' := Lib.hid (show ∀ j, j < k + 1 → s.data.toList[j]? ≠ some 62 from fun j hj => by
          by_cases e : j = k
          · rw [e, hb.out]; intro h; injection h with h; exact hq h
          · exact A.out j (by omega))
        clear hq
        go_wp2_with fail
        go_roundw
        case rel => exact ⟨k + 1, by omega, by go_num, A', B⟩
        case measure => simp [intOf]; omega
    · obtain rfl : k = n := by omega
      have HV := Lib.hid (cutV_none (gt_miss (by rw [list_size, hn']; exact A.out)))
      go_wp2_with fail
      go_ret3
      exact RetB.of HV.out B.out

theorem ratom_any (s : ByteArray) (w : World) (hs : s.size ≤ 9223372036854775807) (b : Bool) (hb : Hid (atomB s.data.toList = b)) : Calls Try.prog 35 #[.string s] w (RetB (.bool b) w) := by
  obtain ⟨n, hn⟩ : ∃ n, n = s.size := ⟨_, rfl⟩
  have HB := Lib.hid (show (decide (1 ≤ n) && (decide (n ≤ 16) && decide (gtI s.data.toList < 0))) = b by rw [← hb.out, atomB, list_size, hn])
  have hn' := hn.symm
  clear hn hb
  have hv : ∃ a c, cutV s = .tuple #[a, c, .bool (!decide (gtI s.data.toList < 0))] := by
    by_cases h : gtI s.data.toList < 0
    · rw [cutV_none h, decide_eq_true h]; exact ⟨_, _, rfl⟩
    · obtain ⟨k, hk⟩ : ∃ k : Nat, gtI s.data.toList = k := ⟨(gtI s.data.toList).toNat, by omega⟩
      rw [cutV_some hk, decide_eq_false h]; exact ⟨_, _, rfl⟩
  obtain ⟨a, c, hv⟩ := hv
  obtain ⟨g, hg⟩ : ∃ g, g = decide (gtI s.data.toList < 0) := ⟨_, rfl⟩
  rw [← hg] at hv HB
  have HV := Lib.hid hv
  clear hg hv
  by_cases h1 : 1 ≤ n
  · by_cases h2 : n ≤ 16
    · go_enter Try.func35, Try.ntmps35
      go_wp2_with fail
      refine (split_any s w hs).mono ?_
      rintro e w1 ⟨rfl, hb1⟩
      rw [HV.out]
      go_wp2_with fail
      go_ret
      refine RetB.of ?_ hb1
      rw [← HB.out]
      simp [h1, h2]
    · go_enter Try.func35, Try.ntmps35
      go_wp2_with fail
      refine (split_any s w hs).mono ?_
      rintro e w1 ⟨rfl, hb1⟩
      rw [HV.out]
      go_wp2_with fail
      go_ret
      exact RetB.of (by rw [← HB.out]; simp [h2]) hb1
  · go_enter Try.func35, Try.ntmps35
    go_wp2_with fail
    refine (split_any s w hs).mono ?_
    rintro e w1 ⟨rfl, hb1⟩
    rw [HV.out]
    go_wp2_with fail
    go_ret
    exact RetB.of (by rw [← HB.out]; simp [h1]) hb1

theorem rcond_any (s : ByteArray) (w : World) (hs : s.size ≤ 9223372036854775807) (b : Bool) (hb : Hid (condB s.data.toList = b)) : Calls Try.prog 34 #[.string s] w (RetB (.bool b) w) := by
  obtain ⟨p, hp⟩ : ∃ p, atomB s.data.toList = p := ⟨_, rfl⟩
  have HP := Lib.hid hp
  by_cases h : gtI s.data.toList < 0
  · have HV := Lib.hid (cutV_none h)
    have hq : p = b := by
      rw [← hb.out, condB, hp, cutB, if_pos h]; simp
    clear h hp hb
    go_enter Try.func34, Try.ntmps34
    go_wp2_with fail
    refine (split_any s w hs).mono ?_
    rintro e w1 ⟨rfl, hb1⟩
    rw [HV.out]
    go_wp2_with fail
    refine (ratom_any s w1 hs p HP).mono ?_
    rintro e w2 ⟨rfl, hb2⟩
    have hb3 := below_go hb1 hb2
    subst hq
    cases p
    · go_wp2_with fail
      go_ret
      exact RetB.of rfl hb3
    · go_wp2_with fail
      go_ret
      exact RetB.of rfl hb3
  · obtain ⟨k, hk⟩ : ∃ k : Nat, gtI s.data.toList = k := ⟨(gtI s.data.toList).toNat, by omega⟩
    have HV := Lib.hid (cutV_some hk)
    obtain ⟨a, ha⟩ : ∃ a, a = s.extract 0 k := ⟨_, rfl⟩
    obtain ⟨c, hc⟩ : ∃ c, c = s.extract (k + 1) s.size := ⟨_, rfl⟩
    rw [← ha, ← hc] at HV
    have hla : a.data.toList = s.data.toList.take k := by rw [ha, extract_list]; rfl
    have hlc : c.data.toList = s.data.toList.drop (k + 1) := by
      rw [hc, extract_list, List.take_of_length_le]
      rw [List.length_drop, list_size]; omega
    have za : a.size ≤ 9223372036854775807 := by rw [← list_size, hla, List.length_take, list_size]; omega
    have zc : c.size ≤ 9223372036854775807 := by rw [← list_size, hlc, List.length_drop, list_size]; omega
    obtain ⟨pa, hpa⟩ : ∃ p, atomB a.data.toList = p := ⟨_, rfl⟩
    obtain ⟨pc, hpc⟩ : ∃ p, atomB c.data.toList = p := ⟨_, rfl⟩
    have HPA := Lib.hid hpa
    have HPC := Lib.hid hpc
    have HQ := Lib.hid (show (p || (pa && pc)) = b by
      rw [← hb.out, condB, hp, cutB, if_neg h, hk, Int.toNat_natCast, ← hla, ← hlc, ← hpa, ← hpc])
    clear h hp hb hk ha hc hla hlc hpa hpc
    go_enter Try.func34, Try.ntmps34
    go_wp2_with fail
    refine (split_any s w hs).mono ?_
    rintro e w1 ⟨rfl, hb1⟩
    rw [HV.out]
    go_wp2_with fail
    refine (ratom_any s w1 hs p HP).mono ?_
    rintro e w2 ⟨rfl, hb2⟩
    have hb3 := below_go hb1 hb2
    cases p
    · go_wp2_with fail
      refine (ratom_any a w2 za pa HPA).mono ?_
      rintro e w3 ⟨rfl, hb4⟩
      have hb5 := below_go hb3 hb4
      cases pa
      · go_wp2_with fail
        go_ret
        exact RetB.of (by rw [← HQ.out]; rfl) hb5
      · go_wp2_with fail
        refine (ratom_any c w3 zc pc HPC).mono ?_
        rintro e w4 ⟨rfl, hb6⟩
        go_wp2_with fail
        go_ret
        exact RetB.of (by rw [← HQ.out]; rfl) (below_go hb5 hb6)
    · go_wp2_with fail
      go_ret
      exact RetB.of (by rw [← HQ.out]; rfl) hb3

set_option maxRecDepth 100000 in
theorem has_any (A : Option Addr) (n c : Nat) (ss : List Bs) (x : ByteArray) (w : World) (h : Rd w w.heap.size 1 A n (strCells ss)) (hl : ss.length = n) (hn : n ≤ 9223372036854775807) (b : Bool) (hb : Hid (ss.contains x.data.toList = b)) :
    Calls Try.prog 39 #[.slice A n c, .string x] w (Ret (.bool b) w) := by
  have HL := Lib.hid hl
  have H := Lib.hid h
  clear hl h
  go_enter Try.func39, Try.ntmps39
  go_wp2_with fail
  go_loopw [5] (fun v wr => ∃ k : Nat, k ≤ n ∧ v = .int .i64 k ∧ Hid (∀ y ∈ ss.take k, y ≠ x.data.toList) ∧ wr = w) (fun v _ => n - (intOf v).toNat)
  case atStart => exact ⟨0, by omega, rfl, Lib.hid (by simp), rfl⟩
  case round =>
    obtain ⟨k, hk, rfl, A', rfl⟩ := hrel
    by_cases hlt : k < n
    · obtain ⟨b1, o1, rfl, _, x1⟩ := H.out.str HL.out hlt
      have hkl : k < ss.length := by have := HL.out; omega
      have j1 : (k : Int) < (n : Int) := by omega
      have j0 : (0 : Int) ≤ (k : Int) := by omega
      obtain ⟨p, hp⟩ : ∃ p : ByteArray, p = ⟨ss[k].toArray⟩ := ⟨_, rfl⟩
      rw [← hp] at x1
      have he : (p.toList == x.toList) = (ss[k] == x.data.toList) := by rw [hp, Lib.toList_data, Lib.toList_data]
      by_cases hq : ss[k] = x.data.toList
      · have hqq : (p.toList == x.toList) = true := by rw [he]; exact beq_iff_eq.2 hq
        have HB := Lib.hid (show true = b by
          rw [← hb.out]
          symm
          rw [List.contains_iff_mem, ← hq]
          exact List.getElem_mem hkl)
        clear hp he hq
        go_wp2_with fail
        go_ret
        exact Ret.bool HB.out
      · have hqq : (p.toList == x.toList) = false := by rw [he]; exact beq_eq_false_iff_ne.2 hq
        have A2 := Lib.hid (show ∀ y ∈ ss.take (k + 1), y ≠ x.data.toList from fun y hy => by
          rw [List.take_succ_eq_append_getElem hkl, List.mem_append] at hy
          rcases hy with hy | hy
          · exact A'.out y hy
          · rw [List.mem_singleton.1 hy]; exact hq)
        clear hp he hq
        go_wp2_with fail
        go_roundw
        case rel => exact ⟨k + 1, by omega, by go_num, A2, trivial⟩
        case measure => simp [intOf]; omega
    · obtain rfl : k = n := by omega
      go_wp2_with fail
      go_ret
      refine Ret.bool ?_
      rw [← hb.out]
      symm
      rw [← Bool.not_eq_true, List.contains_iff_mem]
      intro hm
      have := A'.out
      rw [List.take_of_length_le (by have := HL.out; omega)] at this
      exact this _ hm rfl
end Go.Proofs.Ytflfachkoffiiaa
