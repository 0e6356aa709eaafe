/- The reference's skip, Sign and end. -/
import Derived.Test.YtjjdfccbkohlcaaDoorToken
namespace Go.Proofs.YtjjdfccbkohlcaaDoor
open Go.RowKit

theorem skip_in {s : ByteArray} {k : Nat} (h : k < s.size) (h1 : ((s[k].toNat : Int) == 10) = false) : Lx.skipN true (s.data.toList.drop k) = 1 + Lx.skipN true (s.data.toList.drop (k + 1)) := by
  rw [Lx.skipN_drop (at_byte s k h), if_neg (byte_ne 10 h1)]; (try simp only [Bool.or_true, if_true]); split <;> omega

theorem skip_any (s : ByteArray) (a n : Nat) (w : World) (ha : a ≤ s.size) (hs : s.size ≤ 9223372036854775807) (hn : Hid (a + Lx.skipN false (s.data.toList.drop a) = n)) :
    Calls Tryd.prog 32 #[.string s, .int .i64 (a : Int)] w (Ret (.int .i64 (n : Int)) w) := by
  go_enter Tryd.func32, Tryd.ntmps32
  go_wp2_with fail
  go_loop [1, 5] (fun x c => ∃ (k : Nat) (cm : Bool), k ≤ s.size ∧ x = .int .i64 k ∧ c = .bool cm ∧ n = k + Lx.skipN cm (s.data.toList.drop k)) (fun x _ => s.size - (intOf x).toNat)
  case atStart => exact ⟨a, false, ha, rfl, rfl, hn.out.symm⟩
  case round =>
    obtain ⟨k, cm, hk, rfl, rfl, he⟩ := hrel
    have He := Lib.hid he
    clear he
    by_cases hlt : k < s.size
    · go_wp2_with fail
      · have h1 : ((s[k].toNat : Int) == 10) = true := by assumption
        go_round
        case rel => exact ⟨k + 1, false, by omega, by go_num, rfl, by rw [He.out, skip_line hlt h1]; omega⟩
        case measure => simp [intOf]; omega
      · have h1 : ((s[k].toNat : Int) == 35) = true := by assumption
        go_round
        case rel => exact ⟨k + 1, true, by omega, by go_num, rfl, by rw [He.out, skip_hash hlt h1]; omega⟩
        case measure => simp [intOf]; omega
      · have h1 : (s[k].toNat : Int) = 32 := by assumption
        go_round
        case rel => exact ⟨k + 1, cm, by omega, by go_num, rfl, by rw [He.out, skip_space hlt (by simpa using h1)]; omega⟩
        case measure => simp [intOf]; omega
      · have h1 : ((s[k].toNat : Int) == 10) = false := by assumption
        have h2 : ((s[k].toNat : Int) == 35) = false := by assumption
        have h3 : ¬ (s[k].toNat : Int) = 32 := by assumption
        have h4 : ((s[k].toNat : Int) != 32) = true ∧ (!cm) = true := by assumption
        obtain rfl : cm = false := by simpa using h4.2
        go_ret
        exact Ret.int (by rw [He.out, skip_other hlt h1 h2 (by simpa using h3)]; rfl)
      · have h1 : ((s[k].toNat : Int) == 10) = false := by assumption
        have h3 : ¬ (s[k].toNat : Int) = 32 := by assumption
        have h4 : ((s[k].toNat : Int) != 32) = false ∨ (!cm) = false := by assumption
        have h5 : cm = true := by
          rcases h4 with h4 | h4
          · exact absurd (by simpa using h4) h3
          · simpa using h4
        subst h5
        go_round
        case rel => exact ⟨k + 1, true, by omega, by go_num, rfl, by rw [He.out, skip_in hlt h1]; omega⟩
        case measure => simp [intOf]; omega
    · go_wp2_with fail
      go_ret
      exact Ret.int (by rw [He.out, skip_past (by omega)]; omega)

/-- the reference's Sign: a text that is a sign -/
def signB : Lx.Bs → Bool
  | [x] => Lx.single x
  | [x, y] => Lx.double x y
  | _ => false
def allB : ByteArray := ⟨#[40, 41, 123, 125, 91, 93, 44, 58, 46, 61, 43, 45, 42, 47, 37, 60]⟩
theorem sign_two {l : Lx.Bs} (h : l = [61, 61] ∨ l = [45, 62]) : signB l = true := by rcases h with rfl | rfl <;> rfl
theorem sign_no {l : Lx.Bs} (h1 : ¬ l = [61, 61]) (h2 : ¬ l = [45, 62]) (h : l.length ≠ 1) : signB l = false := by
  match l with
  | [] => rfl
  | [x] => exact absurd rfl h
  | [x, y] =>
    simp only [signB, Lx.double]
    simp at h1 h2 ⊢
    exact ⟨h1, h2⟩
  | x :: y :: z :: r => rfl
theorem sign_one {s : ByteArray} (h0 : 0 < s.size) (h : s.size = 1) : signB s.data.toList = Lx.single s[0] := by
  have h1 : s.data.toList.length = 1 := by simpa using h
  have h2 := at_byte s 0 (by omega)
  match hl : s.data.toList with
  | [x] => rw [hl] at h2; simp at h2; rw [signB, h2]
  | [] => rw [hl] at h1; simp at h1
  | _ :: _ :: _ => rw [hl] at h1; simp at h1

theorem all_step (k : Nat) (h : k < 16) (x : UInt8) : (allB.data.toList.drop k).contains x = ((allB[k]'(show k < 16 from h)) == x || (allB.data.toList.drop (k + 1)).contains x) := by
  obtain ⟨hk, hx⟩ := List.getElem?_eq_some_iff.1 (at_byte allB k (show k < 16 from h))
  have e1 : ∀ a b : UInt8, (a == b) = (b == a) := fun a b => by rw [Bool.eq_iff_iff, beq_iff_eq, beq_iff_eq]; exact eq_comm
  rw [List.drop_eq_getElem_cons hk, hx, List.contains_cons, e1]
theorem all_hit (k : Nat) (h : k < 16) (x : UInt8) (hx : (((allB[k]'(show k < 16 from h)).toNat : Int) == (x.toNat : Int)) = true) : (allB.data.toList.drop k).contains x = true := by
  rw [all_step k h, byte_of x hx]; simp
theorem all_miss (k : Nat) (h : k < 16) (x : UInt8) (hx : (((allB[k]'(show k < 16 from h)).toNat : Int) == (x.toNat : Int)) = false) : (allB.data.toList.drop k).contains x = (allB.data.toList.drop (k + 1)).contains x := by
  rw [all_step k h, beq_eq_false_iff_ne.2 (byte_ne x hx)]; simp

set_option maxRecDepth 100000 in
theorem sign_any (s : ByteArray) (w : World) (b : Bool) (hb : Hid (signB s.data.toList = b)) :
    Calls Tryd.prog 43 #[.string s] w (RetB (.bool b) w) := by
  go_enter Tryd.func43, Tryd.ntmps43
  go_wp2_with fail
  · have h : s.toList = [61, 61] := by assumption
    go_ret
    exact RetB.bool (by rw [← hb.out, ← Lib.toList_data, sign_two (.inl h)]) (Below.refl _ _)
  · have h : (s.toList == [61, 61]) = true ∨ (s.toList == [45, 62]) = true := by assumption
    go_ret
    exact RetB.bool (by rw [← hb.out, ← Lib.toList_data, sign_two (by simpa using h)]) (Below.refl _ _)
  · have h : (s.toList == [61, 61]) = false ∧ (s.toList == [45, 62]) = false := by assumption
    have h1 : ((s.size : Int) != 1) = true := by assumption
    go_ret
    exact RetB.bool (by rw [← hb.out, ← Lib.toList_data, sign_no (by simpa using h.1) (by simpa using h.2) (by rw [Lib.toList_data]; simp at h1 ⊢; omega)]) (Below.refl _ _)
  · have h1 : ((s.size : Int) != 1) = false := by assumption
    have h2 : s.size = 1 := by simp at h1; omega
    have h0 : 0 < s.size := by omega
    have Hs := Lib.hid (hb.out.symm.trans (sign_one h0 h2))
    clear h1 h2
    go_loopw [4] (fun x wr => ∃ k : Nat, k ≤ 16 ∧ x = .int .i64 k ∧ Lx.single s[0] = (allB.data.toList.drop k).contains s[0] ∧ Below w.heap.size w wr) (fun x _ => 16 - (intOf x).toNat)
    case atStart => exact ⟨0, by omega, rfl, rfl, Below.refl _ _⟩
    case round =>
      obtain ⟨k, hk, rfl, he, hbl⟩ := hrel
      have He := Lib.hid he
      clear he
      by_cases hlt : k < 16
      · go_wp2_with fail
        go_quiet (fail)
        go_wp2_with fail
        · have h : (((allB[k]'(show k < 16 from hlt)).toNat : Int) == (s[0].toNat : Int)) = true := by assumption
          go_ret
          exact RetB.bool (by rw [Hs.out, He.out, all_hit k hlt _ h]) (below_drewN hbl _)
        · have h : (((allB[k]'(show k < 16 from hlt)).toNat : Int) == (s[0].toNat : Int)) = false := by assumption
          go_roundw
          case rel => exact ⟨k + 1, by omega, by go_num, by rw [He.out, all_miss k hlt _ h], below_drewN hbl _⟩
          case measure => simp [intOf]; omega
      · go_wp2_with fail
        go_ret
        exact RetB.bool (by rw [Hs.out, He.out, List.drop_eq_nil_of_le (by show 16 ≤ k; omega)]; rfl) hbl

/-- the reference's end: the offset behind the token at an offset, or -1 -/
def endI (a n : Nat) : Int := if n = 0 then -1 else ((a + n : Nat) : Int)
theorem kind3 (c : UInt8) : (kindI (c.toNat : Int) = 1 ∧ Lx.isE c = true ∧ Lx.isD c = false) ∨ (kindI (c.toNat : Int) = 2 ∧ Lx.isE c = true ∧ Lx.isD c = true) ∨ (kindI (c.toNat : Int) = 0 ∧ Lx.isE c = false ∧ Lx.isD c = false) := by
  rw [kindI, Lx.isLI_eq, Lx.isDI_eq, Lx.isE]
  have hx : Lx.isL c = true → Lx.isD c = false := by
    rw [← Lx.isLI_eq, ← Lx.isDI_eq, Lx.isLI, Lx.isDI]
    simp; omega
  cases hl : Lx.isL c <;> cases hd : Lx.isD c <;> simp_all
theorem end_fin {s : ByteArray} {a k : Nat} {p : UInt8 → Bool} {r : Int} (hr : endI a (Lx.tokN (s.data.toList.drop a)) = r) (ht : Lx.tokN (s.data.toList.drop a) = if 16 < Lx.runN p (s.data.toList.drop (a + 1)) + 1 then 0 else Lx.runN p (s.data.toList.drop (a + 1)) + 1)
    (he : a + 1 + Lx.runN p (s.data.toList.drop (a + 1)) = k) : (16 < (k : Int) - a → r = -1) ∧ (¬ 16 < (k : Int) - a → r = k) := by
  subst hr
  rw [ht, endI]
  constructor
  · intro h; rw [if_pos (by rw [if_pos (by omega)])]
  · intro h; rw [if_neg (by rw [if_neg (by omega)]; omega), if_neg (by omega)]; omega
theorem tok_at {s : ByteArray} {a : Nat} (h : a < s.size) : s.data.toList.drop a = s[a] :: s.data.toList.drop (a + 1) := by
  obtain ⟨hk, hx⟩ := List.getElem?_eq_some_iff.1 (at_byte s a h)
  rw [← hx, ← List.drop_eq_getElem_cons hk]
theorem tokN_word {s : ByteArray} {a : Nat} (h : a < s.size) (hl : Lx.isLI (s[a].toNat : Int) = true) : Lx.tokN (s.data.toList.drop a) = if 16 < Lx.runN Lx.isE (s.data.toList.drop (a + 1)) + 1 then 0 else Lx.runN Lx.isE (s.data.toList.drop (a + 1)) + 1 := by
  rw [tok_at h, Lx.tokN, if_pos (by rw [← Lx.isLI_eq]; exact hl)]
theorem tokN_number {s : ByteArray} {a : Nat} (h : a < s.size) (hl : Lx.isLI (s[a].toNat : Int) = false) (hd : Lx.isDI (s[a].toNat : Int) = true) : Lx.tokN (s.data.toList.drop a) = if 16 < Lx.runN Lx.isD (s.data.toList.drop (a + 1)) + 1 then 0 else Lx.runN Lx.isD (s.data.toList.drop (a + 1)) + 1 := by
  rw [tok_at h, Lx.tokN, if_neg (by rw [← Lx.isLI_eq, hl]; simp), if_pos (by rw [← Lx.isDI_eq]; exact hd)]

set_option maxRecDepth 100000 in
theorem end_word (s : ByteArray) (a : Nat) (w : World) (h0 : a < s.size) (hs : s.size ≤ 9223372036854775000) (r : Int) (hr : Hid (endI a (Lx.tokN (s.data.toList.drop a)) = r)) (hl : Lx.isLI (s[a].toNat : Int) = true) :
    Calls Tryd.prog 33 #[.string s, .int .i64 (a : Int)] w (RetB (.int .i64 r) w) := by
  go_enter Tryd.func33, Tryd.ntmps33
  go_wp2_with fail
  refine (kind_any _ _).mono ?_
  rintro e w' ⟨rfl, rfl⟩
  rw [show kindI (s[a].toNat : Int) = 1 from by rw [kindI, if_pos hl]]
  have Hl := Lib.hid hl
  clear hl
  go_wp2_with fail
  go_loop [6] (fun x => ∃ k : Nat, a + 1 ≤ k ∧ k ≤ s.size ∧ x = .int .i64 k ∧ a + 1 + Lx.runN Lx.isE (s.data.toList.drop (a + 1)) = k + Lx.runN Lx.isE (s.data.toList.drop k)) (fun x => s.size - (intOf x).toNat)
  case atStart => exact ⟨a + 1, by omega, by omega, by go_num, rfl⟩
  case round =>
    obtain ⟨k, hk1, hk2, rfl, he⟩ := hrel
    have He := Lib.hid he
    clear he
    by_cases hlt : k < s.size
    · rcases kind3 s[k] with ⟨h1, h2, _⟩ | ⟨h1, h2, _⟩ | ⟨h1, h2, _⟩
      all_goals
        have H1 := Lib.hid h1
        have H2 := Lib.hid h2
        clear h1 h2
        go_wp2_with (go_at_call 40; refine (kind_any _ _).mono ?_; rintro e w' ⟨rfl, rfl⟩; rw [H1.out])
      · go_round
        case rel => exact ⟨k + 1, by omega, by omega, by go_num, by rw [He.out, run_go hlt H2.out]; omega⟩
        case measure => simp [intOf]; omega
      · go_round
        case rel => exact ⟨k + 1, by omega, by omega, by go_num, by rw [He.out, run_go hlt H2.out]; omega⟩
        case measure => simp [intOf]; omega
      all_goals
        have F := end_fin hr.out (tokN_word h0 Hl.out) (by rw [He.out, run_stop hlt H2.out, Nat.add_zero])
        go_ret
      · exact RetB.int (F.1 (by omega)).symm (Below.refl _ _)
      · exact RetB.int (F.2 (by omega)).symm (Below.refl _ _)
    · go_wp2_with fail
      all_goals
        have F := end_fin hr.out (tokN_word h0 Hl.out) (by rw [He.out, run_past (by omega), Nat.add_zero])
        go_ret
      · exact RetB.int (F.1 (by omega)).symm (Below.refl _ _)
      · exact RetB.int (F.2 (by omega)).symm (Below.refl _ _)
set_option maxRecDepth 100000 in
theorem end_number (s : ByteArray) (a : Nat) (w : World) (h0 : a < s.size) (hs : s.size ≤ 9223372036854775000) (r : Int) (hr : Hid (endI a (Lx.tokN (s.data.toList.drop a)) = r)) (hl : Lx.isLI (s[a].toNat : Int) = false) (hd : Lx.isDI (s[a].toNat : Int) = true) :
    Calls Tryd.prog 33 #[.string s, .int .i64 (a : Int)] w (RetB (.int .i64 r) w) := by
  go_enter Tryd.func33, Tryd.ntmps33
  go_wp2_with fail
  refine (kind_any _ _).mono ?_
  rintro e w' ⟨rfl, rfl⟩
  rw [show kindI (s[a].toNat : Int) = 2 from by rw [kindI, if_neg (by rw [hl]; simp), if_pos hd]]
  have Hl := Lib.hid hl
  have Hd := Lib.hid hd
  clear hl hd
  go_wp2_with fail
  go_loop [6] (fun x => ∃ k : Nat, a + 1 ≤ k ∧ k ≤ s.size ∧ x = .int .i64 k ∧ a + 1 + Lx.runN Lx.isD (s.data.toList.drop (a + 1)) = k + Lx.runN Lx.isD (s.data.toList.drop k)) (fun x => s.size - (intOf x).toNat)
  case atStart => exact ⟨a + 1, by omega, by omega, by go_num, rfl⟩
  case round =>
    obtain ⟨k, hk1, hk2, rfl, he⟩ := hrel
    have He := Lib.hid he
    clear he
    by_cases hlt : k < s.size
    · rcases kind3 s[k] with ⟨h1, _, h2⟩ | ⟨h1, _, h2⟩ | ⟨h1, _, h2⟩
      all_goals
        have H1 := Lib.hid h1
        have H2 := Lib.hid h2
        clear h1 h2
        go_wp2_with (go_at_call 40; refine (kind_any _ _).mono ?_; rintro e w' ⟨rfl, rfl⟩; rw [H1.out])
      rotate_left 2
      · go_round
        case rel => exact ⟨k + 1, by omega, by omega, by go_num, by rw [He.out, run_go hlt H2.out]; omega⟩
        case measure => simp [intOf]; omega
      all_goals
        have F := end_fin hr.out (tokN_number h0 Hl.out Hd.out) (by rw [He.out, run_stop hlt H2.out, Nat.add_zero])
        go_ret
      all_goals first | exact RetB.int (F.1 (by omega)).symm (Below.refl _ _) | exact RetB.int (F.2 (by omega)).symm (Below.refl _ _)
    · go_wp2_with fail
      all_goals
        have F := end_fin hr.out (tokN_number h0 Hl.out Hd.out) (by rw [He.out, run_past (by omega), Nat.add_zero])
        go_ret
      · exact RetB.int (F.1 (by omega)).symm (Below.refl _ _)
      · exact RetB.int (F.2 (by omega)).symm (Below.refl _ _)
theorem sign_at {s : ByteArray} {a : Nat} (h : a < s.size) (hl : Lx.isLI (s[a].toNat : Int) = false) (hd : Lx.isDI (s[a].toNat : Int) = false) : Lx.tokN (s.data.toList.drop a) = Lx.signN (s.data.toList.drop a) := by
  rw [tok_at h, Lx.tokN, if_neg (by rw [← Lx.isLI_eq, hl]; simp), if_neg (by rw [← Lx.isDI_eq, hd]; simp)]
theorem sign_long {s : ByteArray} {a : Nat} (h : a + 1 < s.size) : Lx.signN (s.data.toList.drop a) = if signB ((s.data.toList.drop a).take 2) then 2 else if signB ((s.data.toList.drop a).take 1) then 1 else 0 := by
  rw [tok_at (show a < s.size by omega), tok_at h]
  rfl
theorem sign_last {s : ByteArray} {a : Nat} (h : a < s.size) (h1 : ¬ a + 1 < s.size) : Lx.signN (s.data.toList.drop a) = if signB ((s.data.toList.drop a).take 1) then 1 else 0 := by
  rw [tok_at h, List.drop_eq_nil_of_le (by simp; omega)]
  rfl

set_option maxRecDepth 100000 in
theorem end_sign (s : ByteArray) (a : Nat) (w : World) (h0 : a < s.size) (hs : s.size ≤ 9223372036854775000) (r : Int) (hr : Hid (endI a (Lx.tokN (s.data.toList.drop a)) = r)) (hl : Lx.isLI (s[a].toNat : Int) = false) (hd : Lx.isDI (s[a].toNat : Int) = false) :
    Calls Tryd.prog 33 #[.string s, .int .i64 (a : Int)] w (RetB (.int .i64 r) w) := by
  go_enter Tryd.func33, Tryd.ntmps33
  go_wp2_with fail
  refine (kind_any _ _).mono ?_
  rintro e w' ⟨rfl, rfl⟩
  rw [show kindI (s[a].toNat : Int) = 0 from by rw [kindI, if_neg (by rw [hl]; simp), if_neg (by rw [hd]; simp)]]
  have Ht := Lib.hid (sign_at h0 hl hd)
  clear hl hd
  by_cases h1 : a + 1 < s.size
  · have Hs := Lib.hid (sign_long h1)
    go_wp2_with fail
    refine (sign_any _ _ _ (Lib.hid rfl)).mono ?_
    rintro e w1 ⟨rfl, hb1⟩
    rw [Lib.extract_data, show a + 2 - a = 2 from by omega]
    cases hp : signB ((s.data.toList.drop a).take 2)
    · have Hp := Lib.hid hp
      clear hp
      go_wp2_with fail
      refine (sign_any _ _ _ (Lib.hid rfl)).mono ?_
      rintro e w2 ⟨rfl, hb2⟩
      rw [Lib.extract_data, show a + 1 - a = 1 from by omega]
      cases hq : signB ((s.data.toList.drop a).take 1)
      all_goals
        have Hq := Lib.hid hq
        clear hq
        go_wp2_with fail
        go_ret
        exact RetB.int (by rw [← hr.out, Ht.out, Hs.out, Hp.out, Hq.out]; simp [endI]) (hb1.trans (hb2.mono hb1.size))
    · have Hp := Lib.hid hp
      clear hp
      go_wp2_with fail
      go_ret
      exact RetB.int (by rw [← hr.out, Ht.out, Hs.out, Hp.out]; simp [endI]) hb1
  · have Hs := Lib.hid (sign_last h0 h1)
    have hd : decide ((a : Int) + 1 < (s.size : Int)) = false := by simp; omega
    go_wp2_with fail
    refine (sign_any _ _ _ (Lib.hid rfl)).mono ?_
    rintro e w2 ⟨rfl, hb2⟩
    rw [Lib.extract_data, show a + 1 - a = 1 from by omega]
    cases hq : signB ((s.data.toList.drop a).take 1)
    all_goals
      have Hq := Lib.hid hq
      clear hq
      go_wp2_with fail
      go_ret
      exact RetB.int (by rw [← hr.out, Ht.out, Hs.out, Hq.out]; simp [endI]) hb2

theorem end_any (s : ByteArray) (a : Nat) (w : World) (h0 : a < s.size) (hs : s.size ≤ 9223372036854775000) (r : Int) (hr : Hid (endI a (Lx.tokN (s.data.toList.drop a)) = r)) :
    Calls Tryd.prog 33 #[.string s, .int .i64 (a : Int)] w (RetB (.int .i64 r) w) := by
  cases hl : Lx.isLI (s[a].toNat : Int)
  · cases hd : Lx.isDI (s[a].toNat : Int)
    · exact end_sign s a w h0 hs r hr hl hd
    · exact end_number s a w h0 hs r hr hl hd
  · exact end_word s a w h0 hs r hr hl
end Go.Proofs.YtjjdfccbkohlcaaDoor
