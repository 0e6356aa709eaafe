/- token: the length of the token with which a text begins. -/
import Derived.Test.YtjjdfccbkohlcaaDoorBlanks
import Derived.Laws.Rows
import Derived.Laws.EntriesVeiled
import Derived.Handy
namespace Go.Proofs.YtjjdfccbkohlcaaDoor
open Go.RowKit

def strs (l : List Lx.Bs) : Array Value := (l.map fun b => Value.string ⟨b.toArray⟩).toArray
def kindsC : Array Value := #[.func (.func 38) #[] #[], .func (.func 67) #[] #[], .func (.func 68) #[] #[], .func (.func 68) #[] #[]]
/-- the package's tables lie as they were laid -/
structure Tabs (w : World) : Prop where
  kinds : ∃ t fr, w.heap[1]? = some (.cells kindsC t fr)
  signs : ∃ t fr, w.heap[2]? = some (.cells (strs Lx.signsL) t fr)

theorem run_step {s : ByteArray} {k : Nat} {p : UInt8 → Bool} (h : k < s.size) : Lx.runN p (s.data.toList.drop k) = if p s[k] then Lx.runN p (s.data.toList.drop (k + 1)) + 1 else 0 := by
  obtain ⟨hk, hx⟩ := List.getElem?_eq_some_iff.1 (at_byte s k h)
  rw [List.drop_eq_getElem_cons hk, hx, Lx.runN]
theorem run_stop {s : ByteArray} {k : Nat} {p : UInt8 → Bool} (h : k < s.size) (hp : p s[k] = false) : Lx.runN p (s.data.toList.drop k) = 0 := by
  rw [run_step h, hp]; simp
theorem run_go {s : ByteArray} {k : Nat} {p : UInt8 → Bool} (h : k < s.size) (hp : p s[k] = true) : Lx.runN p (s.data.toList.drop k) = Lx.runN p (s.data.toList.drop (k + 1)) + 1 := by
  rw [run_step h, hp]; simp
theorem run_past {s : ByteArray} {k : Nat} {p : UInt8 → Bool} (h : s.size ≤ k) : Lx.runN p (s.data.toList.drop k) = 0 := by
  rw [List.drop_eq_nil_of_le (by simpa using h), Lx.runN]
theorem tok_cons {s : ByteArray} (h : 0 < s.size) : s.data.toList = s[0] :: s.data.toList.drop 1 := by
  obtain ⟨hk, hx⟩ := List.getElem?_eq_some_iff.1 (at_byte s 0 h)
  rw [← hx, ← List.drop_eq_getElem_cons hk, List.drop_zero]
theorem tok_word {s : ByteArray} {n : Nat} (h : 0 < s.size) (hl : Lx.isLI (s[0].toNat : Int) = true) (hn : 1 + Lx.runN Lx.isE (s.data.toList.drop 1) = n) : Lx.tokN s.data.toList = if 16 < n then 0 else n := by
  rw [tok_cons h, Lx.tokN, if_pos (by rw [← Lx.isLI_eq]; exact hl), show Lx.runN Lx.isE (s.data.toList.drop 1) + 1 = n from by omega]
theorem tok_number {s : ByteArray} {n : Nat} (h : 0 < s.size) (hl : Lx.isLI (s[0].toNat : Int) = false) (hd : Lx.isDI (s[0].toNat : Int) = true) (hn : 1 + Lx.runN Lx.isD (s.data.toList.drop 1) = n) : Lx.tokN s.data.toList = if 16 < n then 0 else n := by
  rw [tok_cons h, Lx.tokN, if_neg (by rw [← Lx.isLI_eq, hl]; simp), if_pos (by rw [← Lx.isDI_eq]; exact hd), show Lx.runN Lx.isD (s.data.toList.drop 1) + 1 = n from by omega]
theorem tok_sign {s : ByteArray} (h : 0 < s.size) (hl : Lx.isLI (s[0].toNat : Int) = false) (hd : Lx.isDI (s[0].toNat : Int) = false) : Lx.tokN s.data.toList = Lx.signN s.data.toList := by
  rw [tok_cons h, Lx.tokN, if_neg (by rw [← Lx.isLI_eq, hl]; simp), if_neg (by rw [← Lx.isDI_eq, hd]; simp)]
theorem isE_of (c : UInt8) : (Lx.isLI (c.toNat : Int) || Lx.isDI (c.toNat : Int)) = Lx.isE c := by rw [Lx.isLI_eq, Lx.isDI_eq, Lx.isE]

/-- it returns v; old memory is as it was -/
def RetB (v : Value) (w : World) : Ending → World → Prop := fun e w' => e = .returned v ∧ Below w.heap.size w w'
theorem RetB.int {k : IntKind} {a b : Int} {w w' : World} (h : a = b) (hb : Below w.heap.size w w') : RetB (.int k b) w (.returned (.int k a)) w' := by rw [h]; exact ⟨rfl, hb⟩
theorem RetB.bool {a b : Bool} {w w' : World} (h : a = b) (hb : Below w.heap.size w w') : RetB (.bool b) w (.returned (.bool a)) w' := by rw [h]; exact ⟨rfl, hb⟩
theorem below_drewN {B : Nat} {a w : World} (h : Below B a w) (n : Nat) : Below B a (w.drewN n) := ⟨h.os, h.tape, h.output, h.size, h.block⟩

theorem quiet_add_same {P : Program} {f : FuncId} {args : Array Value} {w : World} {a n : Nat} {v : Value}
    (h : Calls P f args (w.drewN (a + n)) fun e w' => e = .returned v ∧ w' = w.drewN (a + n)) :
    Calls P f args (w.drewN (a + n)) fun e w'' => e = .returned v ∧ ∃ m, w'' = w.drewN (a + m) :=
  h.mono fun _ _ ⟨he, hm⟩ => ⟨he, n, hm⟩

set_option maxRecDepth 100000 in
theorem token_word (s : ByteArray) (w : World) (h0 : 0 < s.size) (hs : s.size ≤ 9223372036854775807) (ht : Tabs w) (hl : Lx.isLI (s[0].toNat : Int) = true) :
    Calls Tryd.prog 31 #[.string s] w (RetB (.int .i64 (Lx.tokN s.data.toList)) w) := by
  obtain ⟨t, fr, hk⟩ := ht.kinds
  have i0 : ∀ w, (Instr.index 73 (.agg kindsC) (.int .i64 0)).run Tryd.prog w = .ok (.agg #[.func (.func 38) #[] #[], .func (.func 67) #[] #[]]) w := fun _ => by kernel_rfl
  go_enter Tryd.func31, Tryd.ntmps31
  go_wp2_with (refine wpList_load_row rfl 73 _ rfl 1 rfl t _ fr _ hk Tryd.underlying73 rfl (by kernel_rfl) ?_)
  refine wp_loop_rounds 1 ?_
  rw [rounds_succ]
  go_wp2_with fail
  go_quiet ((go_at_call 38; exact Calls.quiet_of_same (Ret.same (letter_any _ _))))
  go_wp2_with fail
  have Hl := Lib.hid hl
  clear hl i0 hk
  go_loopw [5] (fun n wr => ∃ k : Nat, 1 ≤ k ∧ k ≤ s.size ∧ n = .int .i64 k ∧ 1 + Lx.runN Lx.isE (s.data.toList.drop 1) = k + Lx.runN Lx.isE (s.data.toList.drop k) ∧ wr.cell? ⟨w.heap.size, 1, none⟩ = some (.func (.func 67) #[] #[]) ∧ Below w.heap.size w wr)
    (fun n _ => s.size - (intOf n).toNat)
  case atStart => exact ⟨1, by omega, by omega, rfl, rfl, by show (w.alloc _).cell? _ = _; rw [World.cell?_alloc_at _ _ _ _ rfl]; rfl, below_drewN (by go_grown) _⟩
  case round =>
    obtain ⟨k, hk1, hk2, rfl, he, hc, hb⟩ := hrel
    have He := Lib.hid he
    clear he
    by_cases hlt : k < s.size
    · go_wp2_with fail
      go_quiet ((go_at_call 67; exact Calls.quiet_of_same (Ret.same (either_any _ _))))
      rw [isE_of]
      cases hp : Lx.isE s[k]
      · have Hp := Lib.hid hp
        clear hp
        go_wp2_with fail
        all_goals go_ret
        · exact RetB.int (by rw [tok_word h0 Hl.out (He.out.trans (by rw [run_stop hlt Hp.out, Nat.add_zero])), if_pos (by omega)]; rfl) (below_drewN hb _)
        · exact RetB.int (by rw [tok_word h0 Hl.out (He.out.trans (by rw [run_stop hlt Hp.out, Nat.add_zero])), if_neg (by omega)]) (below_drewN hb _)
      · have Hp := Lib.hid hp
        clear hp
        go_wp2_with fail
        go_roundw
        case rel => exact ⟨k + 1, by omega, by omega, by go_num, by rw [He.out, run_go hlt Hp.out]; omega, hc, below_drewN hb _⟩
        case measure => simp [intOf]; omega
    · have hd : decide ((k : Int) < (s.size : Int)) = false := by simpa using hlt
      go_wp2_with fail
      go_quiet (fail)
      go_wp2_with fail
      all_goals go_ret
      · exact RetB.int (by rw [tok_word h0 Hl.out (He.out.trans (by rw [run_past (by omega), Nat.add_zero])), if_pos (by omega)]; rfl) (below_drewN hb _)
      · exact RetB.int (by rw [tok_word h0 Hl.out (He.out.trans (by rw [run_past (by omega), Nat.add_zero])), if_neg (by omega)]) (below_drewN hb _)

set_option maxRecDepth 100000 in
theorem token_number (s : ByteArray) (w : World) (h0 : 0 < s.size) (hs : s.size ≤ 9223372036854775807) (ht : Tabs w) (hl : Lx.isLI (s[0].toNat : Int) = false) (hd : Lx.isDI (s[0].toNat : Int) = true) :
    Calls Tryd.prog 31 #[.string s] w (RetB (.int .i64 (Lx.tokN s.data.toList)) w) := by
  obtain ⟨t, fr, hk⟩ := ht.kinds
  have i0 : ∀ w, (Instr.index 73 (.agg kindsC) (.int .i64 0)).run Tryd.prog w = .ok (.agg #[.func (.func 38) #[] #[], .func (.func 67) #[] #[]]) w := fun _ => by kernel_rfl
  have i1 : ∀ w, (Instr.index 73 (.agg kindsC) (.int .i64 1)).run Tryd.prog w = .ok (.agg #[.func (.func 68) #[] #[], .func (.func 68) #[] #[]]) w := fun _ => by kernel_rfl
  go_enter Tryd.func31, Tryd.ntmps31
  go_wp2_with (refine wpList_load_row rfl 73 _ rfl 1 rfl t _ fr _ hk Tryd.underlying73 rfl (by kernel_rfl) ?_)
  refine wp_loop_rounds 2 ?_
  rw [rounds_succ]
  go_wp2_with fail
  go_quiet ((go_at_call 38; exact Calls.quiet_of_same (Ret.same (letter_any _ _))))
  go_wp2_with fail
  obtain ⟨w1, hw1, hb1⟩ : ∃ w1, (w.alloc (.cells #[.func (.func 38) #[] #[], .func (.func 67) #[] #[]] 72)).drewN nq = w1 ∧ Below w.heap.size w w1 := ⟨_, rfl, below_drewN (by go_grown) _⟩
  rw [hw1]
  clear hw1
  rw [rounds_succ]
  go_wp2_with fail
  go_quiet ((go_at_call 68; exact Calls.quiet_of_same (Ret.same (digit_any _ _))))
  go_wp2_with fail
  have Hl := Lib.hid hl
  have Hd := Lib.hid hd
  clear hl hd i0 i1 hk
  go_loopw [5] (fun n wr => ∃ k : Nat, 1 ≤ k ∧ k ≤ s.size ∧ n = .int .i64 k ∧ 1 + Lx.runN Lx.isD (s.data.toList.drop 1) = k + Lx.runN Lx.isD (s.data.toList.drop k) ∧ wr.cell? ⟨w1.heap.size, 1, none⟩ = some (.func (.func 68) #[] #[]) ∧ Below w.heap.size w wr)
    (fun n _ => s.size - (intOf n).toNat)
  case atStart => exact ⟨1, by omega, by omega, rfl, rfl, by show (w1.alloc _).cell? _ = _; rw [World.cell?_alloc_at _ _ _ _ rfl]; rfl, below_drewN (hb1.alloc hb1.size _) _⟩
  case round =>
    obtain ⟨k, hk1, hk2, rfl, he, hc, hb⟩ := hrel
    have He := Lib.hid he
    clear he
    by_cases hlt : k < s.size
    · go_wp2_with fail
      go_quiet ((go_at_call 68; exact Calls.quiet_of_same (Ret.same (digit_any _ _))))
      rw [Lx.isDI_eq s[k]]
      cases hp : Lx.isD s[k]
      · have Hp := Lib.hid hp
        clear hp
        go_wp2_with fail
        all_goals go_ret
        · exact RetB.int (by rw [tok_number h0 Hl.out Hd.out (He.out.trans (by rw [run_stop hlt Hp.out, Nat.add_zero])), if_pos (by omega)]; rfl) (below_drewN hb _)
        · exact RetB.int (by rw [tok_number h0 Hl.out Hd.out (He.out.trans (by rw [run_stop hlt Hp.out, Nat.add_zero])), if_neg (by omega)]) (below_drewN hb _)
      · have Hp := Lib.hid hp
        clear hp
        go_wp2_with fail
        go_roundw
        case rel => exact ⟨k + 1, by omega, by omega, by go_num, by rw [He.out, run_go hlt Hp.out]; omega, hc, below_drewN hb _⟩
        case measure => simp [intOf]; omega
    · have hd : decide ((k : Int) < (s.size : Int)) = false := by simpa using hlt
      go_wp2_with fail
      go_quiet (fail)
      go_wp2_with fail
      all_goals go_ret
      · exact RetB.int (by rw [tok_number h0 Hl.out Hd.out (He.out.trans (by rw [run_past (by omega), Nat.add_zero])), if_pos (by omega)]; rfl) (below_drewN hb _)
      · exact RetB.int (by rw [tok_number h0 Hl.out Hd.out (He.out.trans (by rw [run_past (by omega), Nat.add_zero])), if_neg (by omega)]) (below_drewN hb _)

theorem prefix_any (s : ByteArray) (p : Lx.Bs) (w : World) : Calls Tryd.prog 42 #[.string s, .string ⟨p.toArray⟩] w (Ret (.bool (p.isPrefixOf s.data.toList)) w) :=
  (Tryd.strings_HasPrefix s ⟨p.toArray⟩ w).mono fun _ _ ⟨a, b⟩ => ⟨by simpa [Lib.hasPrefix] using a, b.symm⟩
theorem index_signs : ∀ k : Nat, k < 18 → ∀ w, (Instr.index 74 (.agg (strs Lx.signsL)) (.int .i64 (k : Int))).run Tryd.prog w = .ok (.string ⟨(Lx.signsL.getD k []).toArray⟩) w
  | 0, _ => fun _ => by kernel_rfl
  | 1, _ => fun _ => by kernel_rfl
  | 2, _ => fun _ => by kernel_rfl
  | 3, _ => fun _ => by kernel_rfl
  | 4, _ => fun _ => by kernel_rfl
  | 5, _ => fun _ => by kernel_rfl
  | 6, _ => fun _ => by kernel_rfl
  | 7, _ => fun _ => by kernel_rfl
  | 8, _ => fun _ => by kernel_rfl
  | 9, _ => fun _ => by kernel_rfl
  | 10, _ => fun _ => by kernel_rfl
  | 11, _ => fun _ => by kernel_rfl
  | 12, _ => fun _ => by kernel_rfl
  | 13, _ => fun _ => by kernel_rfl
  | 14, _ => fun _ => by kernel_rfl
  | 15, _ => fun _ => by kernel_rfl
  | 16, _ => fun _ => by kernel_rfl
  | 17, _ => fun _ => by kernel_rfl
  | k + 18, h => absurd h (by omega)

set_option maxRecDepth 100000 in
theorem token_sign (s : ByteArray) (w : World) (h0 : 0 < s.size) (ht : Tabs w) (hl : Lx.isLI (s[0].toNat : Int) = false) (hd : Lx.isDI (s[0].toNat : Int) = false) :
    Calls Tryd.prog 31 #[.string s] w (RetB (.int .i64 (Lx.tokN s.data.toList)) w) := by
  obtain ⟨t, fr, hk⟩ := ht.kinds
  obtain ⟨t2, fr2, hk2⟩ := ht.signs
  have i0 : ∀ w, (Instr.index 73 (.agg kindsC) (.int .i64 0)).run Tryd.prog w = .ok (.agg #[.func (.func 38) #[] #[], .func (.func 67) #[] #[]]) w := fun _ => by kernel_rfl
  have i1 : ∀ w, (Instr.index 73 (.agg kindsC) (.int .i64 1)).run Tryd.prog w = .ok (.agg #[.func (.func 68) #[] #[], .func (.func 68) #[] #[]]) w := fun _ => by kernel_rfl
  go_enter Tryd.func31, Tryd.ntmps31
  go_wp2_with (refine wpList_load_row rfl 73 _ rfl 1 rfl t _ fr _ hk Tryd.underlying73 rfl (by kernel_rfl) ?_)
  refine wp_loop_rounds 3 ?_
  rw [rounds_succ]
  go_wp2_with fail
  go_quiet ((go_at_call 38; exact Calls.quiet_of_same (Ret.same (letter_any _ _))))
  go_wp2_with fail
  obtain ⟨w1, hw1, hb1⟩ : ∃ w1, (w.alloc (.cells #[.func (.func 38) #[] #[], .func (.func 67) #[] #[]] 72)).drewN nq = w1 ∧ Below w.heap.size w w1 := ⟨_, rfl, below_drewN (by go_grown) _⟩
  rw [hw1]
  clear hw1 nq
  rw [rounds_succ]
  go_wp2_with fail
  go_quiet ((go_at_call 68; exact Calls.quiet_of_same (Ret.same (digit_any _ _))))
  go_wp2_with fail
  obtain ⟨w2, hw2, hb2⟩ : ∃ w2, (w1.alloc (.cells #[.func (.func 68) #[] #[], .func (.func 68) #[] #[]] 72)).drewN nq = w2 ∧ Below w.heap.size w w2 := ⟨_, rfl, below_drewN (hb1.alloc hb1.size _) _⟩
  rw [hw2]
  clear hw2 nq hb1
  have Hl := Lib.hid hl
  have Hd := Lib.hid hd
  clear hl hd i0 i1 hk
  have hk3 : w2.heap[2]? = some (.cells (strs Lx.signsL) t2 fr2) := (hb2.block 2 (Array.getElem?_eq_some_iff.1 hk2).1).trans hk2
  clear hk2
  rw [rounds_succ]
  go_wp2_with (refine wpList_load_row rfl 74 _ rfl 2 rfl t2 _ fr2 _ hk3 Tryd.underlying74 rfl (by kernel_rfl) ?_)
  go_loopw [37] (fun n wr => ∃ k : Nat, k ≤ 18 ∧ n = .int .i64 k ∧ Lx.signN s.data.toList = Lx.sgn (Lx.signsL.drop k) s.data.toList ∧ w2 = wr) (fun n _ => 18 - (intOf n).toNat)
  case atStart => exact ⟨0, by omega, rfl, by rw [List.drop_zero, Lx.sgn_eq], rfl⟩
  case round =>
    obtain ⟨k, hk, rfl, he, rfl⟩ := hrel
    have He := Lib.hid he
    clear he
    by_cases hlt : k < 18
    · have hi := index_signs k hlt
      have Hs := Lib.hid (Lx.sgn_step (k := k) (by exact hlt) s.data.toList)
      generalize Lx.signsL.getD k [] = p at hi Hs
      go_wp2_with fail
      refine (prefix_any _ _ _).mono ?_
      rintro e w' ⟨rfl, rfl⟩
      cases hp : p.isPrefixOf s.data.toList
      · have Hp := Lib.hid hp
        clear hp
        go_wp2_with fail
        go_roundw
        case rel => exact ⟨k + 1, by omega, by go_num, by rw [He.out, Hs.out, Hp.out]; simp, trivial⟩
        case measure => simp [intOf]; omega
      · have Hp := Lib.hid hp
        clear hp
        go_wp2_with fail
        go_ret
        exact RetB.int (by rw [tok_sign h0 Hl.out Hd.out, He.out, Hs.out, Hp.out]; simp) hb2
    · go_wp2_with fail
      go_ret
      obtain rfl : k = 18 := by omega
      exact RetB.int (by rw [tok_sign h0 Hl.out Hd.out, He.out]; rfl) hb2

theorem token_any (s : ByteArray) (w : World) (h0 : 0 < s.size) (hs : s.size ≤ 9223372036854775807) (ht : Tabs w) : Calls Tryd.prog 31 #[.string s] w (RetB (.int .i64 (Lx.tokN s.data.toList)) w) := by
  cases hl : Lx.isLI (s[0].toNat : Int)
  · cases hd : Lx.isDI (s[0].toNat : Int)
    · exact token_sign s w h0 ht hl hd
    · exact token_number s w h0 hs ht hl hd
  · exact token_word s w h0 hs ht hl
end Go.Proofs.YtjjdfccbkohlcaaDoor
