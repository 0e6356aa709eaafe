/- The walk of DiskRots. -/
import Derived.Test.YtibhnjnfifpepaaStart
import Derived.Test.YtibhnjnfifpepaaEq
import Derived.Test.YtibhnjnfifpepaaSanity
import Derived.BigQuiet
namespace Go.Proofs.Ytibhnjnfifpepaa
open Go.RowKit Go.Maps

theorem OpAt.more {w : World} {B B' : Nat} {o : OpV} (h : OpAt w B o) (hB : B ≤ B') : OpAt w B' o :=
  ⟨h.k1, h.k2, h.i1, h.i2, h.b1, h.b2, h.t2, h.n2, h.rd.more hB⟩
theorem Script.op {w : World} {B n k : Nat} {A : Option Addr} {os : List OpV} (h : Script w B A n os) (hk : k < n) :
    ∃ b off o, A = some ⟨b, off, none⟩ ∧ b < B ∧ os[k]? = some o ∧ OpAt w B o ∧ (w.cell? ⟨b, off + k * 5, none⟩ = some (.int .i64 o.k) ∧ w.cell? ⟨b, off + k * 5 + 1, none⟩ = some (.int .i64 o.i) ∧ w.cell? ⟨b, off + k * 5 + 2, none⟩ = some (.int .i64 o.bit) ∧
      w.cell? ⟨b, off + k * 5 + 3, none⟩ = some (.string o.t) ∧ w.cell? ⟨b, off + k * 5 + 4, none⟩ = some (.slice o.A o.n o.c)) := by
  obtain ⟨b, off, e, hb, hc⟩ := h.rd.2 (by omega)
  have hl := h.len
  have ho : os[k]? = some os[k] := List.getElem?_eq_getElem (by omega)
  have at_ : ∀ j u, (opCells os[k])[j]? = some u → w.cell? ⟨b, off + k * 5 + j, none⟩ = some u := fun j u hu => by
    have hj : j < 5 := by have := (List.getElem?_eq_some_iff.1 hu).1; simpa [opCells] using this
    rw [Nat.add_assoc]
    exact hc _ u ((opsCells_at os k j _ ho hj).trans hu)
  exact ⟨b, off, os[k], e, hb, ho, h.all _ (List.mem_of_getElem? ho), at_ 0 _ rfl, at_ 1 _ rfl, at_ 2 _ rfl, at_ 3 _ rfl, at_ 4 _ rfl⟩
theorem Script.picks {w : World} {B n k : Nat} {A : Option Addr} {os : List OpV} (h : Script w B A n os) {o : OpV} (ho : os[k]? = some o) {F : List Nat} (hF : ∀ b ∈ F, B ≤ b) : 0 < o.n → ∀ b x, o.A = some ⟨b, x, none⟩ → b ∉ F := by
  intro hn b x e hb
  obtain ⟨b', _, e', hlt, _⟩ := (h.all o (List.mem_of_getElem? ho)).rd.2 hn
  rw [e] at e'
  obtain rfl : b = b' := by injection e' with e'; injection e'
  have := hF b hb
  omega
theorem playS_snoc (S : St) (os : List OpV) (k : Nat) (o : OpV) (h : os[k]? = some o) : playS S (os.take (k + 1)) = doS (playS S (os.take k)) o := by
  rw [List.take_add_one, h]
  simp [playS]

theorem pendOK_new (n : Nat) : PendOK (newS n) := fun z hz => by
  rw [mem_keysOf] at hz
  cases hz
theorem image_m (w : World) (g gb gp gw K m : Nat) (S : St) (h : DiskAt w g gb gp gw K S) (hm : S.bl.length = m) : Calls Try.prog 10 #[.pointer (some ⟨g, 0, none⟩)] w fun e w' =>
    ∃ A c, e = .returned (.slice A m c) ∧ Rd w' w'.heap.size 1 A m (strCells S.bl) ∧ m ≤ c ∧ Below w.heap.size w w' ∧ ∀ b o, A = some ⟨b, o, none⟩ → b ∉ [g, gb, gp, gw] := by
  refine (image_any w g gb gp gw K S h).mono ?_
  rintro e w' ⟨A, c, rfl, hr, hc, hb, hge⟩
  have hl : (strCells S.bl).length = m := by rw [strCells, List.length_map, hm]
  rw [hl] at hr hc
  refine ⟨A, c, by rw [hl], hr, hc, hb, fun b o e hm => ?_⟩
  have h1 := hge b o e
  have h2 := h.lt
  simp only [List.mem_cons, List.not_mem_nil, or_false] at hm
  rcases hm with rfl | rfl | rfl | rfl <;> omega
theorem Rd.kept {F : List Nat} {w w' : World} {A : Option Addr} {n : Nat} {xs : List Value} (h : Rd w w.heap.size 1 A n xs) (k : Keep F w w') (hF : ∀ b o, A = some ⟨b, o, none⟩ → b ∉ F) : Rd w' w'.heap.size 1 A n xs :=
  ⟨h.1, fun hn => by
    obtain ⟨b, off, e, hb, hc⟩ := h.2 hn
    exact ⟨b, off, e, Nat.lt_of_lt_of_le hb k.size, fun j u hu => (k.cell (p := ⟨b, off + j, none⟩) hb (hF b off e)).trans (hc j u hu)⟩⟩
theorem flip_flip (b : Bs) (m : Nat) : flipB (flipB b m) m = b := by
  unfold flipB
  by_cases h : m / 8 < b.length
  · rw [List.set_set]
    apply List.ext_getElem
    · simp
    · intro i h1 h2
      rw [List.getElem_set]
      split
      · rename_i e
        subst e
        rw [List.getD_eq_getElem?_getD, List.getD_eq_getElem?_getD, List.getElem?_set_self h, List.getElem?_eq_getElem h]
        simp [UInt8.xor_assoc]
      · rfl
  · rw [List.set_eq_of_length_le (by rw [List.length_set]; omega), List.set_eq_of_length_le (by omega)]
theorem rot_ok2 (S : St) (i bit : Int) : rotOK (rotS S i bit) i bit = rotOK S i bit := by
  unfold rotOK isB
  rw [(tame_rot S i bit).len]
theorem rot_rot (S : St) (i bit : Int) : (rotS (rotS S i bit) i bit).bl = S.bl ∧ rotE (rotS S i bit) i bit = rotE S i bit := by
  refine ⟨?_, by unfold rotE; rw [rot_ok2]⟩
  cases h : rotOK S i bit
  · have e : rotS S i bit = S := by rw [rotS, h]; rfl
    rw [e, e]
  · have e : ∀ T : St, rotOK T i bit = true → (rotS T i bit).bl = T.bl.set i.toNat (flipB (T.bl.getD i.toNat []) bit.toNat) := fun T hT => by rw [rotS, hT]; rfl
    rw [e _ (by rw [rot_ok2, h]), e _ h, List.set_set]
    have hi : i.toNat < S.bl.length := by
      unfold rotOK isB at h
      simp at h
      omega
    rw [List.getD_eq_getElem?_getD, List.getElem?_set_self hi, Option.getD_some, flip_flip, List.getD_eq_getElem?_getD, List.getElem?_eq_getElem hi, Option.getD_some, List.set_getElem_self]

theorem mk_size (b : Bs) : (⟨b.toArray⟩ : ByteArray).size = b.length := by simp [ByteArray.size]
theorem mk_inj {a b : Bs} (h : (⟨a.toArray⟩ : ByteArray) = ⟨b.toArray⟩) : a = b := by
  injection h with h
  simpa using h
theorem bitOf_ne (m : Nat) : bitOf m ≠ 0 := by
  have h : m % 8 < 8 := Nat.mod_lt _ (by omega)
  unfold bitOf
  generalize m % 8 = r at h
  match r, h with
  | 0, _ => decide
  | 1, _ => decide
  | 2, _ => decide
  | 3, _ => decide
  | 4, _ => decide
  | 5, _ => decide
  | 6, _ => decide
  | 7, _ => decide
theorem flip_at (b : Bs) (q : Nat) (hb : b.length = 64) (_hq : q < 512) (k : Nat) (hk : k < 64) : (flipB b q).getD k 0 = if k = q / 8 then b.getD k 0 ^^^ bitOf q else b.getD k 0 := by
  unfold flipB
  simp only [List.getD_eq_getElem?_getD]
  by_cases e : k = q / 8
  · rw [if_pos e, e, List.getElem?_set_self (by omega)]; rfl
  · rw [if_neg e, List.getElem?_set_ne (by omega)]
theorem flip_ne (b : Bs) (q : Nat) (hb : b.length = 64) (hq : q < 512) : b ≠ flipB b q := by
  intro e
  have := flip_at b q hb hq (q / 8) (by omega)
  rw [← e, if_pos rfl] at this
  exact bitOf_ne q (by
    have h2 := congrArg (fun z => b.getD (q / 8) 0 ^^^ z) this
    simp only [UInt8.xor_self, ← UInt8.xor_assoc, UInt8.zero_xor] at h2
    exact h2.symm)

theorem bit_nat (q : Nat) : (bitOf q).toNat = 2 ^ (q % 8) := by
  have h : q % 8 < 8 := Nat.mod_lt _ (by omega)
  unfold bitOf
  generalize q % 8 = r at h
  match r, h with
  | 0, _ => rfl
  | 1, _ => rfl
  | 2, _ => rfl
  | 3, _ => rfl
  | 4, _ => rfl
  | 5, _ => rfl
  | 6, _ => rfl
  | 7, _ => rfl
theorem pow_wrap (r : Nat) (h : r < 8) : ((2 ^ r : Nat) : Int) = wrap64 (2 ^ r) := by
  unfold wrap64
  match r, h with
  | 0, _ => decide
  | 1, _ => decide
  | 2, _ => decide
  | 3, _ => decide
  | 4, _ => decide
  | 5, _ => decide
  | 6, _ => decide
  | 7, _ => decide
theorem xor_i64 (x y : UInt8) : bits .xor .i64 (wrap64 (x.toNat : Int)) (wrap64 (y.toNat : Int)) = ((x ^^^ y).toNat : Int) := by
  have hx := x.toNat_lt
  have hy := y.toNat_lt
  have e1 : wrap64 (x.toNat : Int) = x.toNat := by unfold wrap64; omega
  have e2 : wrap64 (y.toNat : Int) = y.toNat := by unfold wrap64; omega
  rw [e1, e2]
  have ha : x.toNat % 2 ^ IntKind.i64.bits = x.toNat := Nat.mod_eq_of_lt (by show x.toNat < 2 ^ 64; omega)
  have hb : y.toNat % 2 ^ IntKind.i64.bits = y.toNat := Nat.mod_eq_of_lt (by show y.toNat < 2 ^ 64; omega)
  have hl := Nat.xor_lt_two_pow hx hy
  simp only [bits, BitVec.ofInt_natCast, BitVec.toNat_xor, BitVec.toNat_ofNat, ha, hb]
  rw [IntKind.wrap_i64, UInt8.toNat_xor]
  omega

set_option maxRecDepth 100000 in
theorem rots_small (w : World) (i at_ bit : Int) (h1 : -9223372036854775808 ≤ i) (h2 : i ≤ 9223372036854775807) (h : i < 1 ∨ 64 < i) (A : Option Addr) (n c : Nat) :
    Calls Try.prog 6 #[.int .i64 i, .slice A n c, .int .i64 at_, .int .i64 bit] w (RetB (.bool true) w) := by
  rcases h with h | h
  · go_enter Try.func6, Try.ntmps6
    go_wp2_with fail
    refine (sanity_any _).mono ?_
    rintro e w1 ⟨rfl, b1⟩
    go_wp2_with fail
    refine (start_bad _ i h1 h2 (.inl h)).mono ?_
    rintro e w2 ⟨rfl, rfl⟩
    go_wp2_with fail
    go_ret
    exact ⟨rfl, b1⟩
  · go_enter Try.func6, Try.ntmps6
    go_wp2_with fail
    refine (sanity_any _).mono ?_
    rintro e w1 ⟨rfl, b1⟩
    go_wp2_with fail
    refine (start_bad _ i h1 h2 (.inr h)).mono ?_
    rintro e w2 ⟨rfl, rfl⟩
    go_wp2_with fail
    go_ret
    exact ⟨rfl, b1⟩

set_option maxRecDepth 100000 in
theorem rots_long (w : World) (m : Nat) (at_ bit : Int) (h1 : 1 ≤ m) (h2 : m ≤ 64) (A : Option Addr) (n c : Nat) (hn : 60 < n) (_hn2 : n ≤ 9223372036854775807) :
    Calls Try.prog 6 #[.int .i64 m, .slice A n c, .int .i64 at_, .int .i64 bit] w (RetB (.bool true) w) := by
  go_enter Try.func6, Try.ntmps6
  go_wp2_with fail
  refine (sanity_any _).mono ?_
  rintro e w1 ⟨rfl, b1⟩
  go_wp2_with fail
  refine (start_any _ m h1 h2).mono ?_
  rintro e w2 ⟨g, gb, gp, gw, r, gs, cap, ext, rfl, -, -, b2, -⟩
  go_wp2_with fail
  go_ret
  exact ⟨rfl, b1.trans (b2.mono b1.size)⟩

set_option maxHeartbeats 4000000 in
set_option maxRecDepth 100000 in
theorem rots_main (w : World) (m : Nat) (at_ bit : Int) (h1 : 1 ≤ m) (h2 : m ≤ 64) (a1 : -9223372036854775808 ≤ at_) (a2 : at_ ≤ 9223372036854775807) (b1 : -9223372036854775808 ≤ bit) (b2 : bit ≤ 9223372036854775807)
    (A : Option Addr) (n c : Nat) (os : List OpV) (hS : Script w w.heap.size A n os) (hn : n ≤ 60) :
    Calls Try.prog 6 #[.int .i64 m, .slice A n c, .int .i64 at_, .int .i64 bit] w (RetB (.bool true) w) := by
  have HS := Lib.hid hS
  clear hS
  go_enter Try.func6, Try.ntmps6
  go_wp2_with fail
  refine (sanity_any _).mono ?_
  rintro e w1 ⟨rfl, q1⟩
  have Q1 := Lib.hid q1
  clear q1
  go_wp2_with fail
  refine (start_any _ m h1 h2).mono ?_
  rintro e w2 ⟨g, gb, gp, gw, r, gs, cap, ext, rfl, d2, -, q2, hge, -⟩
  have D2 := Lib.hid d2
  have Q2 := Lib.hid (Q1.out.trans (q2.mono Q1.out.size))
  have GE := Lib.hid (show ∀ b ∈ [g, gb, gp, gw], w.heap.size ≤ b by
    have := Q1.out.size
    intro b hb
    simp only [List.mem_cons, List.not_mem_nil, or_false] at hb
    rcases hb with rfl | rfl | rfl | rfl <;> omega)
  clear d2 q2 hge
  go_wp2_with fail
  go_loopw [13] (fun x wr => ∃ k : Nat, k ≤ n ∧ x = .int .i64 k ∧ Hid (DiskAt wr g gb gp gw k (playS (newS m) (os.take k))) ∧ Hid (Below w.heap.size w wr)) (fun x _ => n - (intOf x).toNat)
  case atStart => exact ⟨0, by omega, rfl, D2, Q2⟩
  case round =>
    obtain ⟨k, hk, rfl, D, Q⟩ := hrel
    by_cases hlt : k < n
    · obtain ⟨b, off, o, rfl, hb, ho, hoa, c0, c1, c2, c3, c4⟩ := (HS.out.keep (w' := wr) (fun p hp => Q.out.cell hp)).op hlt
      have HO := Lib.hid ho
      have HOA := Lib.hid (hoa.more Q.out.size)
      have i1 : (k : Int) < (n : Int) := by omega
      clear ho hoa
      go_wp2_with fail
      refine (do_any _ g gb gp gw k _ D.out (by omega) ((tame_play _ _).ok (pendOK_new m)) o HOA.out (HS.out.picks HO.out GE.out)).mono ?_
      rintro e w3 ⟨rfl, d3, k3⟩
      have D3 := Lib.hid d3
      have Q3 := Lib.hid (Q.out.trans (k3.below Q.out.size GE.out))
      clear d3 k3
      unfold StrErr
      go_wp2_with fail
      go_roundw
      case rel => exact ⟨k + 1, by omega, by go_num, by rw [playS_snoc _ _ _ _ HO.out]; exact D3, Q3⟩
      case measure => simp [intOf]; omega
    · obtain rfl : k = n := by omega
      rw [← HS.out.len, List.take_length] at D
      have hlen := (tame_play os (newS m)).len
      rw [show (newS m).bl.length = m from List.length_replicate] at hlen
      obtain ⟨S, hS⟩ : ∃ S, S = playS (newS m) os := ⟨_, rfl⟩
      rw [← hS] at D hlen
      obtain ⟨L, hL⟩ : ∃ L, L = os.length := ⟨_, rfl⟩
      rw [← hL] at D
      have HLEN := Lib.hid hlen
      clear hS hlen hL HS D2 Q2
      have HR1 := Lib.hid ((tame_rot S at_ bit).len.trans HLEN.out)
      have HR2 := Lib.hid ((tame_rot (rotS S at_ bit) at_ bit).len.trans HR1.out)
      go_wp2_with fail
      refine (image_m _ g gb gp gw L m S D.out HLEN.out).mono ?_
      rintro e w3 ⟨A1, cp1, rfl, r1, l1, b3, n1⟩
      have R1 := Lib.hid r1
      have L1 := Lib.hid l1
      have N1 := Lib.hid n1
      have D3 := Lib.hid (D.out.below b3)
      have Q3 := Lib.hid (Q.out.trans (b3.mono Q.out.size))
      clear r1 l1 b3 n1
      go_wp2_with fail
      refine (rot_any _ g gb gp gw L S D3.out at_ bit).mono ?_
      rintro e w4 ⟨rfl, d4, k4⟩
      have D4 := Lib.hid d4
      have R14 := Lib.hid (R1.out.kept k4 N1.out)
      have Q4 := Lib.hid (Q3.out.trans (k4.below Q3.out.size GE.out))
      clear d4 k4 R1
      go_wp2_with fail
      refine (image_m _ g gb gp gw L m _ D4.out HR1.out).mono ?_
      rintro e w5 ⟨A2, cp2, rfl, r2, l2, b5, n2⟩
      have R2 := Lib.hid r2
      have L2 := Lib.hid l2
      have N2 := Lib.hid n2
      have D5 := Lib.hid (D4.out.below b5)
      have R15 := Lib.hid (R14.out.kept (Keep.of_below b5 [g, gb, gp, gw]) N1.out)
      have Q5 := Lib.hid (Q4.out.trans (b5.mono Q4.out.size))
      clear r2 l2 b5 n2 R14
      go_wp2_with fail
      refine (rot_any _ g gb gp gw L _ D5.out at_ bit).mono ?_
      rintro e w6 ⟨rfl, d6, k6⟩
      have D6 := Lib.hid d6
      have R16 := Lib.hid (R15.out.kept k6 N1.out)
      have R26 := Lib.hid (R2.out.kept k6 N2.out)
      have Q6 := Lib.hid (Q5.out.trans (k6.below Q5.out.size GE.out))
      clear d6 k6 R15 R2
      go_wp2_with fail
      refine (image_m _ g gb gp gw L m _ D6.out HR2.out).mono ?_
      rintro e w7 ⟨A3, cp3, rfl, r3, l3, b7, n3⟩
      rw [(rot_rot S at_ bit).1] at r3
      have R3 := Lib.hid r3
      have R17 := Lib.hid (R16.out.kept (Keep.of_below b7 [g, gb, gp, gw]) N1.out)
      have R27 := Lib.hid (R26.out.kept (Keep.of_below b7 [g, gb, gp, gw]) N2.out)
      have Q7 := Lib.hid (Q6.out.trans (b7.mono Q6.out.size))
      clear r3 b7 n3 l3 R16 R26
      go_wp2_with fail
      refine (sameTexts_any A1 A3 m m cp1 cp3 S.bl S.bl _ R17.out R3.out HLEN.out HLEN.out (by omega) true (Lib.hid (by simp))).mono ?_
      rintro e w8 ⟨rfl, b8⟩
      rw [(rot_rot S at_ bit).2]
      have R18 := Lib.hid (R17.out.kept (Keep.of_below b8 [g, gb, gp, gw]) N1.out)
      have R28 := Lib.hid (R27.out.kept (Keep.of_below b8 [g, gb, gp, gw]) N2.out)
      have Q8 := Lib.hid (Q7.out.trans (b8.mono Q7.out.size))
      clear b8 R17 R27
      cases hr : rotOK S at_ bit
      · have hE : rotE S at_ bit = 1 := by rw [rotE, hr]; rfl
        have hbad : at_ < 0 ∨ (0 ≤ at_ ∧ m ≤ at_) ∨ (0 ≤ at_ ∧ at_ < m ∧ bit < 0) ∨ (0 ≤ at_ ∧ at_ < m ∧ 0 ≤ bit ∧ 511 < bit) := by
          have hl := HLEN.out
          unfold rotOK isB at hr
          simp at hr
          rw [hl] at hr
          omega
        rw [hE]
        clear hr hE
        rcases hbad with h | h | h | h
        all_goals go_wp2_with fail
        all_goals go_ret
        all_goals exact ⟨rfl, Q8.out⟩
      · have hE : rotE S at_ bit = 0 := by rw [rotE, hr]; rfl
        have hok : 0 ≤ at_ ∧ at_ < m ∧ 0 ≤ bit ∧ bit < 512 := by
          have hl := HLEN.out
          unfold rotOK isB at hr
          simp at hr
          rw [hl] at hr
          omega
        have hY : (rotS S at_ bit).bl = S.bl.set at_.toNat (flipB (S.bl.getD at_.toNat []) bit.toNat) := by rw [rotS, hr]; rfl
        have b64 := D3.out.b64
        obtain ⟨p, rfl⟩ : ∃ p : Nat, at_ = p := ⟨at_.toNat, by omega⟩
        obtain ⟨q, rfl⟩ : ∃ q : Nat, bit = q := ⟨bit.toNat, by omega⟩
        rw [Int.toNat_natCast, Int.toNat_natCast] at hY
        have hpm : p < m := by omega
        have hq5 : q < 512 := by omega
        obtain ⟨X, hX⟩ : ∃ X, X = S.bl := ⟨_, rfl⟩
        obtain ⟨Y, hYd⟩ : ∃ Y, Y = (rotS S p q).bl := ⟨_, rfl⟩
        have hXl : X.length = m := by rw [hX]; exact HLEN.out
        have hYl : Y.length = m := by rw [hYd]; exact HR1.out
        rw [← hYd, ← hX] at hY
        rw [← hX] at b64
        have HR1' := Lib.hid (show Rd w8 w8.heap.size 1 A1 m (strCells X) by rw [hX]; exact R18.out)
        have HR2' := Lib.hid (show Rd w8 w8.heap.size 1 A2 m (strCells Y) by rw [hYd]; exact R28.out)
        have HX := Lib.hid (And.intro hXl (And.intro hYl (And.intro hY b64)))
        rw [hE]
        have j1 : (p : Int) < (m : Int) := by omega
        have j2 : (0 : Int) ≤ (p : Int) := by omega
        have j3 : (0 : Int) ≤ (q : Int) := by omega
        have j4 : (q : Int) ≤ 511 := by omega
        have dd : decide (m ≤ p) = false := decide_eq_false (by omega)
        clear hr hE hok hY b64 hX hYd hXl hYl R18 R28 HLEN HR1 HR2 D D3 D4 D5 D6 R3
        go_wp2_with fail
        go_loopw [19] (fun x wr => ∃ k : Nat, k ≤ m ∧ x = .int .i64 k ∧ Hid (Below w8.heap.size w8 wr)) (fun x _ => m - (intOf x).toNat)
        case atStart => exact ⟨0, by omega, rfl, Lib.hid (Below.refl _ _)⟩
        case round =>
          obtain ⟨k, hk, rfl, B⟩ := hrel
          by_cases hlt : k < m
          · obtain ⟨bA, oA, uA, rfl, _, huA, cA⟩ := (HR1'.out.below B.out).at1 hlt
            obtain ⟨bB, oB, uB, rfl, _, huB, cB⟩ := (HR2'.out.below B.out).at1 hlt
            have i1 : (k : Int) < (m : Int) := by omega
            obtain ⟨x1, x2, x3, x4⟩ := HX.out
            rw [strCells, List.getElem?_map, List.getElem?_eq_getElem (by omega)] at huA huB
            obtain rfl := (Option.some.inj huA).symm
            obtain rfl := (Option.some.inj huB).symm
            clear huA huB
            have hk6 : Y[k].length = 64 := by
              have : Y[k] = if p = k then flipB (X.getD p []) q else X[k] := by simp only [x3, List.getElem_set]
              rw [this]
              split
              · rw [flipB, List.length_set, List.getD_eq_getElem?_getD, List.getElem?_eq_getElem (by omega)]; exact x4 _ (List.getElem_mem _)
              · exact x4 _ (List.getElem_mem _)
            obtain ⟨sA, hsA⟩ : ∃ sA : ByteArray, sA = ⟨X[k].toArray⟩ := ⟨_, rfl⟩
            obtain ⟨sB, hsB⟩ : ∃ sB : ByteArray, sB = ⟨Y[k].toArray⟩ := ⟨_, rfl⟩
            have eB : (sB.size : Int) = 64 := by rw [hsB, mk_size, hk6]; rfl
            rw [show str X[k] = .string sA by rw [hsA]] at cA
            rw [show str Y[k] = .string sB by rw [hsB]] at cB
            by_cases hkp : k = p
            · have hne : (sA.toList == sB.toList) = false := by
                rw [hsA, hsB, arr_eq]
                refine beq_eq_false_iff_ne.2 fun e => ?_
                have : Y[k] = flipB X[k] q := by
                  subst hkp
                  simp only [x3, List.getElem_set_self]
                  rw [List.getD_eq_getElem?_getD, List.getElem?_eq_getElem (by omega), Option.getD_some]
                rw [this] at e
                exact flip_ne _ _ (x4 _ (List.getElem_mem _)) hq5 e
              subst hkp
              clear x1 x2 x3 x4 hk6 hsA hsB
              go_wp2_with fail
              go_quiet (fail)
              go_wp2_with fail
              go_roundw
              case rel => exact ⟨k + 1, by omega, by go_num, Lib.hid (below_drewN B.out _)⟩
              case measure => simp [intOf]; omega
            · have hne : (sA.toList == sB.toList) = true := by
                rw [hsA, hsB, arr_eq]
                refine beq_iff_eq.2 ?_
                simp only [x3]
                rw [List.getElem_set_ne (by omega)]
              have i2 : ((k : Int) == (p : Int)) = false := beq_eq_false_iff_ne.2 (by omega)
              clear x1 x2 x3 x4 hk6 hsA hsB
              go_wp2_with fail
              go_quiet (fail)
              go_wp2_with fail
              go_roundw
              case rel => exact ⟨k + 1, by omega, by go_num, Lib.hid (below_drewN B.out _)⟩
              case measure => simp [intOf]; omega
          · obtain rfl : k = m := by omega
            go_wp2_with fail
            have HR1'' := Lib.hid ((HR1'.out.below B.out).more B.out.size)
            have HR2'' := Lib.hid ((HR2'.out.below B.out).more B.out.size)
            have Q9 := Lib.hid (Q8.out.trans (B.out.mono Q8.out.size))
            clear B HR1' HR2' Q8
            go_loopw [20, 21] (fun x _ wr9 => ∃ k : Nat, k ≤ 64 ∧ x = .int .i64 k ∧ Hid (Below wr.heap.size wr wr9)) (fun x _ _ => 64 - (intOf x).toNat)
            case atStart => exact ⟨0, by omega, rfl, Lib.hid (Below.refl _ _)⟩
            case round =>
              obtain ⟨j, hj, rfl, B⟩ := hrel
              by_cases hlt : j < 64
              · obtain ⟨bA, oA, uA, rfl, _, huA, cA⟩ := (HR1''.out.below B.out).at1 hpm
                obtain ⟨bB, oB, uB, rfl, _, huB, cB⟩ := (HR2''.out.below B.out).at1 hpm
                obtain ⟨x1, x2, x3, x4⟩ := HX.out
                rw [strCells, List.getElem?_map, List.getElem?_eq_getElem (by omega)] at huA huB
                obtain rfl := (Option.some.inj huA).symm
                obtain rfl := (Option.some.inj huB).symm
                clear huA huB
                have hYp : Y[p] = flipB X[p] q := by
                  simp only [x3, List.getElem_set_self]
                  rw [List.getD_eq_getElem?_getD, List.getElem?_eq_getElem (by omega), Option.getD_some]
                have lX := x4 _ (List.getElem_mem (show p < X.length by omega))
                have hfl := flip_at X[p] q lX hq5 j hlt
                rw [← hYp] at hfl
                have lY : Y[p].length = 64 := by rw [hYp, flipB, List.length_set]; exact lX
                obtain ⟨sA, hsA⟩ : ∃ sA : ByteArray, sA = ⟨X[p].toArray⟩ := ⟨_, rfl⟩
                obtain ⟨sB, hsB⟩ : ∃ sB : ByteArray, sB = ⟨Y[p].toArray⟩ := ⟨_, rfl⟩
                have eA : sA.size = 64 := by rw [hsA, mk_size, lX]
                have eB : sB.size = 64 := by rw [hsB, mk_size, lY]
                rw [show str X[p] = .string sA by rw [hsA]] at cA
                rw [show str Y[p] = .string sB by rw [hsB]] at cB
                have k1 : (j : Int) < 64 := by omega
                have k2 : (0 : Int) ≤ (j : Int) := by omega
                clear x3 x4 hYp
                go_wp2_with fail
                go_quiet (fail)
                rw [xor_i64]
                obtain ⟨z, hz⟩ : ∃ z : Nat, z = ((⟨X[p].toArray⟩ : ByteArray)[j]'(by rw [← hsA, eA]; exact hlt) ^^^ (⟨Y[p].toArray⟩ : ByteArray)[j]'(by rw [← hsB, eB]; exact hlt)).toNat := ⟨_, rfl⟩
                rw [← hz]
                have hzv : z = if j = q / 8 then 2 ^ (q % 8) else 0 := by
                  rw [hz]
                  show (X[p][j] ^^^ Y[p][j]).toNat = _
                  rw [List.getD_eq_getElem?_getD, List.getElem?_eq_getElem (by omega), Option.getD_some, List.getD_eq_getElem?_getD, List.getElem?_eq_getElem (by omega), Option.getD_some] at hfl
                  rw [hfl]
                  split
                  · rw [← UInt8.xor_assoc, UInt8.xor_self, UInt8.zero_xor, bit_nat]
                  · rw [UInt8.xor_self]; rfl
                clear hz hfl
                have d1 : Int.tdiv (q : Int) 8 = ((q / 8 : Nat) : Int) := by rw [Int.tdiv_eq_ediv_of_nonneg (by omega)]; rfl
                have d2 : Int.tmod (q : Int) 8 = ((q % 8 : Nat) : Int) := by rw [Int.tmod_eq_emod_of_nonneg (by omega)]; rfl
                by_cases hj8 : j = q / 8
                · rw [if_pos hj8] at hzv
                  have t1 : (j : Int) = (q : Int) / 8 := by omega
                  have t2 : (z : Int) = wrap64 (2 ^ (q % 8)) := by rw [hzv]; exact pow_wrap _ (Nat.mod_lt _ (by omega))
                  have t3 : ((j : Int) != (q : Int) / 8) = false := by rw [t1]; simp
                  have T1 := Lib.hid t1
                  clear hj8 hzv
                  go_wp2_with fail
                  have e9 := T1.out
                  exact ⟨⟨j + 1, by omega, by rw [← e9]; go_num, Lib.hid (below_drewN B.out _)⟩, by rw [← e9]; simp [intOf]; omega⟩
                · rw [if_neg hj8] at hzv
                  subst hzv
                  have t1 : ¬ (j : Int) = (q : Int) / 8 := by omega
                  have t3 : ((j : Int) != (q : Int) / 8) = true := bne_iff_ne.2 t1
                  go_wp2_with fail
                  exact ⟨⟨j + 1, by omega, by go_num, Lib.hid (below_drewN B.out _)⟩, by simp [intOf]; omega⟩
              · obtain rfl : j = 64 := by omega
                go_wp2_with fail
                go_ret
                exact ⟨rfl, Q9.out.trans (B.out.mono Q9.out.size)⟩
end Go.Proofs.Ytibhnjnfifpepaa
