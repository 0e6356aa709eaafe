/- Rot. -/
import Derived.Test.YtddpjahoeldleaaGreatDoorDWrite
import Derived.StillTailTactics
import Derived.Laws.BitsLemmas
import Derived.IntWalk
namespace Go.Proofs.YtddpjahoeldleaaGreatDoor.Dk
open Go.RowKit Go.Maps

theorem shl_one (m : Nat) (hm : m < 8) : IntKind.u8.wrap (2 ^ m) = (((1 : UInt8) <<< (UInt8.ofNat m)).toNat : Int) := by
  match m, hm with
  | 0, _ => rfl
  | 1, _ => rfl
  | 2, _ => rfl
  | 3, _ => rfl
  | 4, _ => rfl
  | 5, _ => rfl
  | 6, _ => rfl
  | 7, _ => rfl
theorem xor_u8 (x y : UInt8) : bits .xor .u8 (x.toNat : Int) (y.toNat : Int) = ((x ^^^ y).toNat : Int) := by
  have e : ∀ z : UInt8, BitVec.ofInt 8 (z.toNat : Int) = z.toBitVec := fun z => by
    apply BitVec.eq_of_toNat_eq
    rw [BitVec.ofInt_natCast]
    simp
  have h : IntKind.u8.wrap ((x ^^^ y).toNat : Int) = ((x ^^^ y).toNat : Int) := by
    have := (x ^^^ y).toNat_lt
    exact wraps_u8 _ (by omega) (by omega)
  have h2 : bits .xor .u8 (x.toNat : Int) (y.toNat : Int) = IntKind.u8.wrap ((BitVec.ofInt 8 (x.toNat : Int) ^^^ BitVec.ofInt 8 (y.toNat : Int)).toNat : Int) := rfl
  rw [h2, e, e, show (x.toBitVec ^^^ y.toBitVec).toNat = (x ^^^ y).toNat from rfl, h]

theorem rows_set : ∀ (bl : List Bs) (_ : ∀ b ∈ bl, b.length = 64) (i k : Nat) (_ : k < 64) (_ : i < bl.length) (z : UInt8), (rowsOf bl).set (i * 64 + k) (.int .u8 (z.toNat : Int)) = rowsOf (bl.set i ((bl.getD i []).set k z))
  | [], _, i, k, _, hi, _ => by simp at hi
  | b :: r, h, 0, k, hk, _, z => by
    have hb := h b (List.mem_cons_self ..)
    have e : ∀ (b : Bs) (r : List Bs), rowsOf (b :: r) = cellsOfB b ++ rowsOf r := fun _ _ => rfl
    rw [List.set_cons_zero, List.getD_cons_zero, e, e, List.set_append_left _ _ (by rw [cellsOfB, List.length_map, hb]; omega)]
    congr 1
    rw [cellsOfB, cellsOfB, Nat.zero_mul, Nat.zero_add, List.map_set]
  | b :: r, h, i + 1, k, hk, hi, z => by
    have hb := h b (List.mem_cons_self ..)
    have ih := rows_set r (fun x hx => h x (List.mem_cons_of_mem _ hx)) i k hk (by simpa using hi) z
    have e : ∀ (b : Bs) (r : List Bs), rowsOf (b :: r) = cellsOfB b ++ rowsOf r := fun _ _ => rfl
    have el : (cellsOfB b).length = 64 := by rw [cellsOfB, List.length_map, hb]
    rw [List.set_cons_succ, List.getD_cons_succ, e, e, List.set_append_right _ _ (by rw [el]; omega), el, show (i + 1) * 64 + k - 64 = i * 64 + k from by omega, ih]
theorem DiskAt.setByte {w : World} {g gb gp gw K : Nat} {S : St} (h : DiskAt w g gb gp gw K S) {i k : Nat} (hi : i < S.bl.length) (hk : k < 64) (z : UInt8) :
    DiskAt (w.setCell ⟨gb, i * 64 + k, none⟩ (.int .u8 (z.toNat : Int))) g gb gp gw K { S with bl := S.bl.set i ((S.bl.getD i []).set k z) } := by
  have ha := h.apart
  have hl : (S.bl.set i ((S.bl.getD i []).set k z)).length = S.bl.length := List.length_set
  have q : ∀ j, j ≠ gb → (w.setCell ⟨gb, i * 64 + k, none⟩ (.int .u8 (z.toNat : Int))).heap[j]? = w.heap[j]? := fun j hj => Below.heap_setCell _ _ _ _ hj
  refine ⟨?_, ?_, ?_, ownsMap_block h.pend (q _ (Ne.symm ha.2.2.1)), ownsMap_block h.worn (q _ (Ne.symm ha.2.2.2)), h.ne1, h.ne2, by rw [hl]; exact h.n1, by rw [hl]; exact h.n2, h.l1, h.l2⟩
  · rw [q _ h.ne1, h.head, hl]
  · rw [block_setCell h.rows, ← rows_set S.bl h.b64 i k hk hi z, List.setIfInBounds_toArray, List.set_append_left _ _ (by rw [rows_length S.bl h.b64]; omega)]
  · intro b hb
    rcases List.mem_or_eq_of_mem_set hb with hb | hb
    · exact h.b64 b hb
    · rw [hb, List.length_set, List.getD_eq_getElem?_getD, List.getElem?_eq_getElem hi, Option.getD_some]
      exact h.b64 _ (List.getElem_mem hi)

def bitOf (m : Nat) : UInt8 := (1 : UInt8) <<< (UInt8.ofNat (m % 8))
/-- a sector with one bit turned -/
def flipB (b : Bs) (m : Nat) : Bs := b.set (m / 8) (b.getD (m / 8) 0 ^^^ bitOf m)
def rotOK (S : St) (i bit : Int) : Bool := isB S i && decide (0 ≤ bit ∧ bit < 512)
def rotE (S : St) (i bit : Int) : Int := if rotOK S i bit then 0 else 1
def rotS (S : St) (i bit : Int) : St := if rotOK S i bit then { S with bl := S.bl.set i.toNat (flipB (S.bl.getD i.toNat []) bit.toNat) } else S

set_option maxHeartbeats 4000000 in
set_option maxRecDepth 100000 in
theorem rot_any (w : World) (g gb gp gw K : Nat) (S : St) (h : DiskAt w g gb gp gw K S) (i : Int) (bit : Int) :
    Calls Tryz.prog 27 #[.pointer (some ⟨g, 0, none⟩), .int .i64 i, .int .i64 bit] w (DPost (.int .i64 (rotE S i bit)) g gb gp gw K (rotS S i bit) w) := by
  obtain ⟨c0, c1, c2, c3, c4⟩ := h.cells
  have n2 := h.n2
  have H := Lib.hid h
  by_cases hr : rotOK S i bit = true
  · have hE : rotE S i bit = 0 := by rw [rotE, hr]; rfl
    have HS := Lib.hid (show { S with bl := S.bl.set i.toNat (flipB (S.bl.getD i.toNat []) bit.toNat) } = rotS S i bit by rw [rotS, hr]; rfl)
    rw [hE]
    simp only [rotOK, isB, Bool.and_eq_true, decide_eq_true_eq] at hr
    obtain ⟨⟨i0, i1⟩, m0, m1⟩ := hr
    obtain ⟨k, rfl⟩ := Int.eq_ofNat_of_zero_le i0
    obtain ⟨m, rfl⟩ := Int.eq_ofNat_of_zero_le m0
    have hk : k < S.bl.length := by omega
    obtain ⟨d, hd⟩ : ∃ d, d = m / 8 := ⟨_, rfl⟩
    obtain ⟨r, hr⟩ : ∃ r, r = m % 8 := ⟨_, rfl⟩
    have hm : d < 64 := by omega
    have hby := h.byte hk hm
    have hfz := h.rfree (k * 64 + d)
    obtain ⟨n, hn⟩ : ∃ n, n = S.bl.length := ⟨_, rfl⟩
    rw [← hn] at c0 i1 hk n2
    obtain ⟨x, hx⟩ : ∃ x, x = (S.bl.getD k []).getD d 0 := ⟨_, rfl⟩
    rw [← hx] at hby
    have hxr := xor_u8 x (bitOf m)
    have hsh := shl_one r (by omega)
    rw [show ((1 : UInt8) <<< (UInt8.ofNat r)) = bitOf m from by rw [hr]; rfl] at hsh
    have q1 : IntKind.i64.wrap ((m : Int) / 8) = (d : Int) := by rw [IntWalk.i64_in _ (by omega)]; omega
    have q2 : IntKind.i64.wrap ((m : Int) % 8) = (r : Int) := by rw [IntWalk.i64_in _ (by omega)]; omega
    have q4 : ((m : Int) % 8) = (r : Int) := by omega
    have q7 : ((m : Int).tmod 8) = (r : Int) := by rw [Int.tmod_eq_emod_of_nonneg (by omega)]; omega
    have q8 : ((m : Int).tdiv 8) = (d : Int) := by rw [Int.tdiv_eq_ediv_of_nonneg (by omega)]; omega
    have q9 : IntKind.i64.wrap (d : Int) = (d : Int) := IntWalk.i64_in _ (by omega)
    have q10 : IntKind.i64.wrap (r : Int) = (r : Int) := IntWalk.i64_in _ (by omega)
    have q5 : (d : Int) < 64 := by omega
    have q6 : (r : Int) ≤ 8 := by omega
    have p1 : (0 : Int) ≤ (d : Int) := by omega
    have p2 : (0 : Int) ≤ (r : Int) := by omega
    have d1 : decide ((k : Int) < 0) = false := by simp
    have d2 : decide ((m : Int) < 0) = false := by simp
    have d3 : decide (512 ≤ (m : Int)) = false := by simp; omega
    have HD := Lib.hid hd
    have HX := Lib.hid hx
    obtain ⟨z, hz⟩ : ∃ z, z = x ^^^ bitOf m := ⟨_, rfl⟩
    obtain ⟨y, hy⟩ : ∃ y, y = bitOf m := ⟨_, rfl⟩
    rw [← hz] at hxr
    rw [← hy] at hxr hsh
    have HZ := Lib.hid hz
    have H1 := Lib.hid (DiskAt.setByte (w := w.drew) (h.same rfl rfl rfl rfl) (by omega : k < S.bl.length) hm z)
    have K1 := Lib.hid ((Keep.refl [g, gb, gp, gw] w).drew.setCell (a := ⟨gb, k * 64 + d, none⟩) (by simp) (.int .u8 (z.toNat : Int)))
    clear hE hn hx h hd hr hz hy
    go_enter Tryz.func27, Tryz.ntmps27
    go_wp2_with fail
    go_still_tail 16, (by kernel_rfl)
    change wpList _ _ _ _ _ w.drew
    have hby2 : w.drew.cell? ⟨gb, k * 64 + d, none⟩ = some (.int .u8 (x.toNat : Int)) := hby
    have hfz2 : w.drew.frozen? ⟨gb, k * 64 + d, none⟩ = false := hfz
    clear hby hfz
    generalize w.drew = w2 at *
    go_wp2_with fail
    go_ret
    refine DPost.ret ?_ H1.out K1.out
    rw [← HS.out]
    simp only [Int.toNat_natCast, flipB]
    rw [← HD.out, ← HX.out, ← HZ.out]
  · have hr : rotOK S i bit = false := by simpa using hr
    have hE : rotE S i bit = 1 := by rw [rotE, hr]; rfl
    have HS := Lib.hid (show S = rotS S i bit by rw [rotS, hr]; rfl)
    rw [hE]
    obtain ⟨n, hn⟩ : ∃ n, n = S.bl.length := ⟨_, rfl⟩
    have hcc : ¬ 0 ≤ i ∨ (0 ≤ i ∧ ¬ i < (n : Int)) ∨ (0 ≤ i ∧ i < (n : Int) ∧ ¬ 0 ≤ bit) ∨ (0 ≤ i ∧ i < (n : Int) ∧ 0 ≤ bit ∧ ¬ bit < 512) := by
      have : ¬ ((0 ≤ i ∧ i < (S.bl.length : Int)) ∧ 0 ≤ bit ∧ bit < 512) := by
        intro hh
        have : rotOK S i bit = true := by simp only [rotOK, isB, Bool.and_eq_true, decide_eq_true_eq]; exact hh
        rw [hr] at this
        cases this
      rw [hn]
      omega
    rw [← hn] at c0 n2
    clear hr hE h hn
    rcases hcc with h0 | ⟨h0, h1⟩ | ⟨h0, h1, h2⟩ | ⟨h0, h1, h2, h3⟩
    all_goals
      go_enter Tryz.func27, Tryz.ntmps27
      go_wp2_with fail
      go_ret
      exact DPost.ret HS.out H.out (Keep.refl _ _)
end Go.Proofs.YtddpjahoeldleaaGreatDoor.Dk
