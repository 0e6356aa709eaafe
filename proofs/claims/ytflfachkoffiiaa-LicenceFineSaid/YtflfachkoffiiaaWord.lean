/- Atoms and conditions. -/
import Derived.Test.YtflfachkoffiiaaBase
import Derived.Test.YtflfachkoffiiaaShelf
import Derived.Lib.IndexLaws
namespace Go.Proofs.Ytflfachkoffiiaa
open Go.RowKit

/-- where the first '>' is; -1: there is none -/
def gtI (s : Bs) : Int := Lib.indexByte s 62
def cutB (s : Bs) : Option (Bs × Bs) := if gtI s < 0 then none else some (s.take (gtI s).toNat, s.drop ((gtI s).toNat + 1))
def atomB (s : Bs) : Bool := decide (1 ≤ s.length) && (decide (s.length ≤ 16) && decide (gtI s < 0))
def condB (s : Bs) : Bool := atomB s || match cutB s with
  | some (a, b) => atomB a && atomB b
  | none => false
theorem gtI_ge (s : Bs) : -1 ≤ gtI s := Lib.indexByte_ge s 62
theorem gtI_lt (s : Bs) {k : Nat} (h : gtI s = k) : k < s.length := by
  obtain ⟨h1, _⟩ := Lib.indexByte_some h
  exact (List.getElem?_eq_some_iff.1 h1).1
theorem extract_list (s : ByteArray) (a b : Nat) : (s.extract a b).data.toList = (s.data.toList.drop a).take (b - a) := by
  rw [ByteArray.data_extract, Array.toList_extract, List.extract_eq_take_drop]
theorem str_take (s : ByteArray) (k : Nat) : Value.string (s.extract 0 k) = str (s.data.toList.take k) := str_of (by rw [extract_list]; rfl)
theorem str_drop (s : ByteArray) (k n : Nat) (hn : n = s.size) : Value.string (s.extract k n) = str (s.data.toList.drop k) := str_of (by
  rw [extract_list, List.take_of_length_le]
  rw [List.length_drop, list_size, hn]; omega)

/-- what Cut gives -/
def cutV (s : ByteArray) : Value := match cutB s.data.toList with
  | some (a, b) => .tuple #[str a, str b, .bool true]
  | none => .tuple #[.string s, .string ⟨#[]⟩, .bool false]
theorem cutV_none {s : ByteArray} (h : gtI s.data.toList < 0) : cutV s = .tuple #[.string s, .string ⟨#[]⟩, .bool false] := by
  unfold cutV cutB
  rw [if_pos h]
theorem cutV_some {s : ByteArray} {k : Nat} (h : gtI s.data.toList = k) : cutV s = .tuple #[.string (s.extract 0 k), .string (s.extract (k + 1) s.size), .bool true] := by
  unfold cutV cutB
  rw [if_neg (by omega), h, Int.toNat_natCast, str_take, str_drop _ _ _ rfl]
theorem RetB.of {v v' : Value} {w w' : World} (h : v = v') (hb : Below w.heap.size w w') : RetB v w (.returned v') w' := by rw [h]; exact ⟨rfl, hb⟩

theorem cut61_any (s : ByteArray) (w : World) (hs : s.size ≤ 9223372036854775807) : Calls Try.prog 61 #[.string s, .string ⟨#[62]⟩] w (RetB (cutV s) w) := by
  by_cases h : gtI s.data.toList < 0
  · have hi : Lib.indexByte s.data.toList 62 = -1 := by have := gtI_ge s.data.toList; unfold gtI at h this; omega
    have HV := Lib.hid (cutV_none h)
    go_enter Try.func61, Try.ntmps61
    go_wp2_with fail
    refine (Try.stringslite_Index_one s 62 w).mono ?_
    rintro e w' ⟨rfl, rfl⟩
    rw [hi]
    clear h hi
    go_wp2_with fail
    go_ret3
    exact RetB.of HV.out (Below.refl _ _)
  · obtain ⟨k, hk⟩ : ∃ k : Nat, gtI s.data.toList = k := ⟨(gtI s.data.toList).toNat, by omega⟩
    have hlt := gtI_lt _ hk
    rw [list_size] at hlt
    have HV := Lib.hid (cutV_some hk)
    have HK := Lib.hid (show Lib.indexByte s.data.toList 62 = (k : Int) from hk)
    obtain ⟨n, hn⟩ : ∃ n, n = s.size := ⟨_, rfl⟩
    rw [← hn] at HV hlt hs
    have j1 : (k : Int) < (n : Int) := by omega
    have j0 : (0 : Int) ≤ (k : Int) := by omega
    have hn' := hn.symm
    clear h hk hn
    go_enter Try.func61, Try.ntmps61
    go_wp2_with fail
    refine (Try.stringslite_Index_one s 62 w).mono ?_
    rintro e w' ⟨rfl, rfl⟩
    rw [HK.out]
    go_wp2_with fail
    go_quiet (fail)
    go_wp2_with fail
    go_ret3
    exact RetB.of HV.out (below_drewN (Below.refl _ _) _)
theorem cut_any (s : ByteArray) (w : World) (hs : s.size ≤ 9223372036854775807) : Calls Try.prog 47 #[.string s, .string ⟨#[62]⟩] w (RetB (cutV s) w) := by
  have hv : ∃ a b c, cutV s = .tuple #[a, b, c] := by
    unfold cutV
    split
    · exact ⟨_, _, _, rfl⟩
    · exact ⟨_, _, _, rfl⟩
  obtain ⟨a, b, c, hv⟩ := hv
  have HV := Lib.hid hv
  go_enter Try.func47, Try.ntmps47
  go_wp2_with fail
  refine (cut61_any s w hs).mono ?_
  rintro e w' ⟨rfl, hb⟩
  rw [HV.out]
  clear hv
  go_wp2_with fail
  go_ret3
  exact RetB.of (by rw [HV.out]; rfl) hb

theorem atom_any (s : ByteArray) (w : World) (b : Bool) (hb : Hid (atomB s.data.toList = b)) : Calls Try.prog 32 #[.string s] w (Ret (.bool b) w) := by
  obtain ⟨n, hn⟩ : ∃ n, n = s.size := ⟨_, rfl⟩
  have HB := Lib.hid (show (decide (1 ≤ n) && (decide (n ≤ 16) && decide (gtI s.data.toList < 0))) = b by rw [← hb.out, atomB, list_size, hn])
  have hn' := hn.symm
  clear hn hb
  by_cases h1 : 1 ≤ n
  · by_cases h2 : n ≤ 16
    · obtain ⟨g, hg⟩ : ∃ g, g = Lib.indexByte s.data.toList 62 := ⟨_, rfl⟩
      have HG := Lib.hid hg
      clear hg
      go_enter Try.func32, Try.ntmps32
      go_wp2_with fail
      refine (Try.strings_Contains_one s 62 w).mono ?_
      rintro e w' ⟨rfl, rfl⟩
      rw [← HG.out]
      go_wp2_with fail
      go_ret
      refine Ret.bool ?_
      rw [← HB.out, gtI, ← HG.out, decide_eq_true h1, decide_eq_true h2]
      by_cases hg : 0 ≤ g
      · rw [decide_eq_true hg, decide_eq_false (by omega : ¬ g < 0)]; rfl
      · rw [decide_eq_false hg, decide_eq_true (by omega : g < 0)]; rfl
    · go_enter Try.func32, Try.ntmps32
      go_wp2_with fail
      go_ret
      exact Ret.bool (by rw [← HB.out]; simp [h2])
  · go_enter Try.func32, Try.ntmps32
    go_wp2_with fail
    go_ret
    exact Ret.bool (by rw [← HB.out]; simp [h1])

theorem cond_any (s : ByteArray) (w : World) (hs : s.size ≤ 9223372036854775807) (b : Bool) (hb : Hid (condB s.data.toList = b)) : Calls Try.prog 30 #[.string s] w (RetB (.bool b) w) := by
  obtain ⟨p, hp⟩ : ∃ p, atomB s.data.toList = p := ⟨_, rfl⟩
  have HP := Lib.hid hp
  by_cases h : gtI s.data.toList < 0
  · have HV := Lib.hid (cutV_none h)
    have hq : p = b := by
      rw [← hb.out, condB, hp, cutB, if_pos h]; simp
    clear h hp hb
    go_enter Try.func30, Try.ntmps30
    go_wp2_with fail
    refine (cut_any s w hs).mono ?_
    rintro e w1 ⟨rfl, hb1⟩
    rw [HV.out]
    go_wp2_with fail
    refine (atom_any s w1 p HP).mono ?_
    rintro e w2 ⟨rfl, rfl⟩
    subst hq
    cases p
    · go_wp2_with fail
      go_ret
      exact RetB.of rfl hb1
    · go_wp2_with fail
      go_ret
      exact RetB.of rfl hb1
  · obtain ⟨k, hk⟩ : ∃ k : Nat, gtI s.data.toList = k := ⟨(gtI s.data.toList).toNat, by omega⟩
    have HV := Lib.hid (cutV_some hk)
    obtain ⟨a, ha⟩ : ∃ a, a = s.extract 0 k := ⟨_, rfl⟩
    obtain ⟨c, hc⟩ : ∃ c, c = s.extract (k + 1) s.size := ⟨_, rfl⟩
    rw [← ha, ← hc] at HV
    have hla : a.data.toList = s.data.toList.take k := by rw [ha, extract_list]; rfl
    have hlc : c.data.toList = s.data.toList.drop (k + 1) := by
      rw [hc, extract_list, List.take_of_length_le]
      rw [List.length_drop, list_size]; omega
    obtain ⟨pa, hpa⟩ : ∃ p, atomB a.data.toList = p := ⟨_, rfl⟩
    obtain ⟨pc, hpc⟩ : ∃ p, atomB c.data.toList = p := ⟨_, rfl⟩
    have HPA := Lib.hid hpa
    have HPC := Lib.hid hpc
    have HQ := Lib.hid (show (p || (pa && pc)) = b by
      rw [← hb.out, condB, hp, cutB, if_neg h, hk, Int.toNat_natCast, ← hla, ← hlc, ← hpa, ← hpc])
    clear h hp hb hk ha hc hla hlc hpa hpc
    go_enter Try.func30, Try.ntmps30
    go_wp2_with fail
    refine (cut_any s w hs).mono ?_
    rintro e w1 ⟨rfl, hb1⟩
    rw [HV.out]
    go_wp2_with fail
    refine (atom_any s w1 p HP).mono ?_
    rintro e w2 ⟨rfl, rfl⟩
    cases p
    · go_wp2_with fail
      refine (atom_any a w1 pa HPA).mono ?_
      rintro e w3 ⟨rfl, rfl⟩
      cases pa
      · go_wp2_with fail
        go_ret
        exact RetB.of (by rw [← HQ.out]; rfl) hb1
      · go_wp2_with fail
        refine (atom_any c w1 pc HPC).mono ?_
        rintro e w4 ⟨rfl, rfl⟩
        go_wp2_with fail
        go_ret
        exact RetB.of (by rw [← HQ.out]; rfl) hb1
    · go_wp2_with fail
      go_ret
      exact RetB.of (by rw [← HQ.out]; rfl) hb1
end Go.Proofs.Ytflfachkoffiiaa
