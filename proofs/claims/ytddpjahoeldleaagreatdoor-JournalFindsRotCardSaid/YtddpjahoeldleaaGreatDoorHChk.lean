import Derived.Test.YtddpjahoeldleaaGreatDoorSha
/-! Many words side by side in one number: n lanes of 64 bits. -/
namespace Go.Proofs.YtddpjahoeldleaaGreatDoor.Hs

def lan (f : Nat → Nat) : Nat → Nat
  | 0 => 0
  | n + 1 => lan f n + f n * 2 ^ (64 * n)
theorem lan_congr {f g : Nat → Nat} : ∀ {n : Nat}, (∀ i, i < n → f i = g i) → lan f n = lan g n
  | 0, _ => rfl
  | n + 1, h => by rw [lan, lan, lan_congr fun i hi => h i (by omega), h n (by omega)]
theorem lan_add (f g : Nat → Nat) : ∀ n, lan f n + lan g n = lan (fun i => f i + g i) n
  | 0 => rfl
  | n + 1 => by rw [lan, lan, lan, ← lan_add f g n, Nat.add_mul]; omega
theorem lan_mul (f : Nat → Nat) (c : Nat) : ∀ n, lan f n * c = lan (fun i => f i * c) n
  | 0 => Nat.zero_mul c
  | n + 1 => by rw [lan, lan, ← lan_mul f c n, Nat.add_mul, Nat.mul_right_comm]
theorem lan_app (f : Nat → Nat) (a : Nat) : ∀ b, lan f (a + b) = lan f a + lan (fun i => f (a + i)) b * 2 ^ (64 * a)
  | 0 => by rw [Nat.add_zero, lan, Nat.zero_mul, Nat.add_zero]
  | b + 1 => by
    rw [← Nat.add_assoc, lan, lan_app f a b, lan, Nat.add_mul, Nat.mul_assoc, ← Nat.pow_add, ← Nat.mul_add, Nat.add_comm b a]
    omega
theorem lan_lt {f : Nat → Nat} (h : ∀ i, f i < 2 ^ 64) : ∀ n, lan f n < 2 ^ (64 * n)
  | 0 => by simp [lan]
  | n + 1 => by
    have h1 := lan_lt h n
    have h2 : (f n + 1) * 2 ^ (64 * n) ≤ 2 ^ 64 * 2 ^ (64 * n) := Nat.mul_le_mul_right _ (h n)
    rw [lan, show 64 * (n + 1) = 64 + 64 * n by omega, Nat.pow_add]
    rw [Nat.add_mul] at h2
    omega
theorem lan_bit {f : Nat → Nat} (h : ∀ i, f i < 2 ^ 64) (j : Nat) : ∀ n, (lan f n).testBit j = (decide (j / 64 < n) && (f (j / 64)).testBit (j % 64))
  | 0 => by simp [lan]
  | n + 1 => by
    rw [lan, Nat.add_comm, Nat.mul_comm, Nat.testBit_two_pow_mul_add _ (lan_lt h n)]
    by_cases hj : j < 64 * n
    · rw [if_pos hj, lan_bit h j n, decide_eq_true (show j / 64 < n by omega), decide_eq_true (show j / 64 < n + 1 by omega)]
    · rw [if_neg hj]
      by_cases hk : j < 64 * (n + 1)
      · have e1 : j / 64 = n := by omega
        have e2 : j - 64 * n = j % 64 := by omega
        rw [e1, e2, decide_eq_true (show n < n + 1 by omega), Bool.true_and]
      · rw [decide_eq_false (show ¬ j / 64 < n + 1 by omega), Bool.false_and]
        exact Nat.testBit_lt_two_pow (Nat.lt_of_lt_of_le (h n) (Nat.pow_le_pow_right (by omega) (by omega)))
theorem lan_inj {f g : Nat → Nat} (hf : ∀ i, f i < 2 ^ 64) (hg : ∀ i, g i < 2 ^ 64) {n : Nat} (e : lan f n = lan g n) {i : Nat} (hi : i < n) : f i = g i := by
  apply Nat.eq_of_testBit_eq
  intro k
  by_cases hk : k < 64
  · have h1 := lan_bit hf (64 * i + k) n
    have h2 := lan_bit hg (64 * i + k) n
    rw [e] at h1
    have e1 : (64 * i + k) / 64 = i := by omega
    have e2 : (64 * i + k) % 64 = k := by omega
    rw [e1, e2, decide_eq_true hi, Bool.true_and] at h1 h2
    exact h1.symm.trans h2
  · rw [Nat.testBit_lt_two_pow (Nat.lt_of_lt_of_le (hf i) (Nat.pow_le_pow_right (by omega) (by omega))), Nat.testBit_lt_two_pow (Nat.lt_of_lt_of_le (hg i) (Nat.pow_le_pow_right (by omega) (by omega)))]
theorem lan_and {f g : Nat → Nat} (hf : ∀ i, f i < 2 ^ 64) (hg : ∀ i, g i < 2 ^ 64) (n : Nat) : lan f n &&& lan g n = lan (fun i => f i &&& g i) n := by
  apply Nat.eq_of_testBit_eq
  intro j
  rw [Nat.testBit_and, lan_bit hf, lan_bit hg, lan_bit fun i => Nat.and_lt_two_pow _ (hg i), Nat.testBit_and]
  cases decide (j / 64 < n) <;> simp
theorem lan_xor {f g : Nat → Nat} (hf : ∀ i, f i < 2 ^ 64) (hg : ∀ i, g i < 2 ^ 64) (n : Nat) : lan f n ^^^ lan g n = lan (fun i => f i ^^^ g i) n := by
  apply Nat.eq_of_testBit_eq
  intro j
  rw [Nat.testBit_xor, lan_bit hf, lan_bit hg, lan_bit fun i => Nat.xor_lt_two_pow (hf i) (hg i), Nat.testBit_xor]
  cases decide (j / 64 < n) <;> simp
theorem lan_shift {f : Nat → Nat} (hf : ∀ i, f i < 2 ^ 64) {k : Nat} (hk : k ≤ 32) (n : Nat) : (lan f n >>> k) &&& lan (fun _ => 4294967295) n = lan (fun i => (f i >>> k) % 4294967296) n := by
  apply Nat.eq_of_testBit_eq
  intro j
  have hm : (4294967295 : Nat).testBit (j % 64) = decide (j % 64 < 32) := Nat.testBit_two_pow_sub_one 32 _
  rw [Nat.testBit_and, Nat.testBit_shiftRight, lan_bit hf, lan_bit (fun _ => by decide), hm, lan_bit (fun i => Nat.lt_trans (Nat.mod_lt _ (by decide)) (by decide)), show (4294967296 : Nat) = 2 ^ 32 from rfl, Nat.testBit_mod_two_pow, Nat.testBit_shiftRight]
  by_cases h : j % 64 < 32
  · have e1 : (k + j) / 64 = j / 64 := by omega
    have e2 : (k + j) % 64 = k + j % 64 := by omega
    rw [e1, e2, decide_eq_true h]
    cases decide (j / 64 < n) <;> simp
  · rw [decide_eq_false h]
    simp
/-- the mask of the lanes' lower halves -/
theorem lan_mask {f : Nat → Nat} (hf : ∀ i, f i < 2 ^ 64) (n : Nat) : lan f n &&& lan (fun _ => 4294967295) n = lan (fun i => f i % 4294967296) n := by
  have := lan_shift hf (Nat.zero_le 32) n
  simpa using this
/-- n ones -/
theorem lan_ones : ∀ n, lan (fun _ => 1) n * 18446744073709551615 = 2 ^ (64 * n) - 1
  | 0 => rfl
  | n + 1 => by
    have h := lan_ones n
    have h1 : 1 ≤ 2 ^ (64 * n) := Nat.one_le_two_pow
    rw [lan, Nat.add_mul, h, Nat.one_mul, show 64 * (n + 1) = 64 * n + 64 by omega, Nat.pow_add]
    omega
def ones (n : Nat) : Nat := Nat.div (Nat.sub (Nat.pow 2 (Nat.mul 64 n)) 1) 18446744073709551615
theorem ones_eq (n : Nat) : ones n = lan (fun _ => 1) n := by
  show (2 ^ (64 * n) - 1) / 18446744073709551615 = _
  rw [← lan_ones n]
  exact Nat.mul_div_cancel _ (by decide)
theorem ones_mul (n c : Nat) : ones n * c = lan (fun _ => c) n := by
  rw [ones_eq, lan_mul]
  exact lan_congr fun _ _ => Nat.one_mul _
/-- rows of lanes: lane a i + j has v i * g j -/
def vec (sh : Nat) (f : Nat → Nat) (m : Nat) : Nat := Nat.rec 0 (fun i ih => Nat.add ih (Nat.mul (f i) (Nat.pow 2 (Nat.mul sh i)))) m
theorem vec_lan (f : Nat → Nat) : ∀ n, vec 64 f n = lan f n
  | 0 => rfl
  | n + 1 => by rw [lan, ← vec_lan f n]; rfl
theorem outer (a : Nat) (ha : 0 < a) (v g : Nat → Nat) : ∀ m, vec (64 * a) v m * lan g a = lan (fun i => v (i / a) * g (i % a)) (a * m)
  | 0 => by rw [Nat.mul_zero]; exact Nat.zero_mul _
  | m + 1 => by
    have e : vec (64 * a) v (m + 1) = vec (64 * a) v m + v m * 2 ^ (64 * a * m) := rfl
    rw [Nat.mul_add, Nat.mul_one, lan_app, ← outer a ha v g m, e, Nat.add_mul, Nat.mul_right_comm, Nat.mul_comm (v m), lan_mul, Nat.mul_assoc 64]
    congr 2
    refine lan_congr fun i hi => ?_
    rw [Nat.mul_add_div ha, Nat.mul_add_mod, Nat.div_eq_of_lt hi, Nat.mod_eq_of_lt hi, Nat.add_zero, Nat.mul_comm]
end Go.Proofs.YtddpjahoeldleaaGreatDoor.Hs

/-! SHA-256 on lanes. -/
namespace Go.Proofs.YtddpjahoeldleaaGreatDoor.Hs

theorem or_add {a b k : Nat} (h : b < 2 ^ k) : a * 2 ^ k ||| b = a * 2 ^ k + b := by
  rw [Nat.mul_comm, Nat.two_pow_add_eq_or_of_lt h]
theorem rot_nat (x : W32) {k : Nat} (h0 : 0 < k) (hk : k < 32) : ((x.toNat * 4294967297) >>> k) % 4294967296 = (rotr x k).toNat := by
  have hx := x.isLt
  have hp : 2 ^ k * 2 ^ (32 - k) = 4294967296 := by rw [← Nat.pow_add, show k + (32 - k) = 32 by omega]
  obtain ⟨p, hpp⟩ : ∃ p, p = 2 ^ k := ⟨_, rfl⟩
  obtain ⟨q, hq⟩ : ∃ q, q = 2 ^ (32 - k) := ⟨_, rfl⟩
  have h1 : (rotr x k).toNat = (x.toNat >>> k) ||| ((x.toNat <<< (32 - k)) % 4294967296) := by
    rw [rotr, BitVec.toNat_or, BitVec.toNat_ushiftRight, BitVec.toNat_shiftLeft]
  have p0 : 0 < p := by rw [hpp]; exact Nat.two_pow_pos _
  have hpq : p * q = 4294967296 := by rw [hpp, hq]; exact hp
  have h2 : (x.toNat <<< (32 - k)) % 4294967296 = x.toNat % p * q := by
    rw [Nat.shiftLeft_eq, ← hq, ← hpq, Nat.mul_comm p q, Nat.mul_comm x.toNat q, Nat.mul_mod_mul_left, Nat.mul_comm]
  have h3 : x.toNat / p < q := Nat.div_lt_of_lt_mul (by rw [hpq]; exact hx)
  rw [h1, h2, Nat.or_comm, Nat.shiftRight_eq_div_pow, Nat.shiftRight_eq_div_pow, ← hpp]
  rw [hq, or_add (by rw [← hq]; exact h3), ← hq]
  have h4 : x.toNat * 4294967297 / p = x.toNat * q + x.toNat / p := by
    rw [show x.toNat * 4294967297 = p * (x.toNat * q) + x.toNat by rw [show p * (x.toNat * q) = x.toNat * (p * q) by rw [Nat.mul_left_comm], hpq]; omega, Nat.mul_add_div p0]
  rw [h4]
  have h5 : x.toNat * q = (x.toNat / p) * 4294967296 + x.toNat % p * q := by
    conv => lhs; rw [← Nat.div_add_mod x.toNat p]
    rw [Nat.add_mul, Nat.mul_right_comm, hpq, Nat.mul_comm 4294967296]
  have h6 : x.toNat % p * q + x.toNat / p < 4294967296 := by
    have : x.toNat % p + 1 ≤ p := Nat.mod_lt _ p0
    have := Nat.mul_le_mul_right q this
    rw [hpq, Nat.add_mul] at this
    omega
  rw [h5, Nat.add_assoc, Nat.add_comm, Nat.add_mul_mod_self_right, Nat.mod_eq_of_lt h6]
theorem shr_nat (x : W32) (k : Nat) : (x.toNat >>> k) % 4294967296 = (x >>> k).toNat := by
  rw [BitVec.toNat_ushiftRight]
  exact Nat.mod_eq_of_lt (Nat.lt_of_le_of_lt (Nat.shiftRight_le _ _) x.isLt)
theorem w_lt (x : W32) : x.toNat < 2 ^ 64 := Nat.lt_trans x.isLt (by decide)
theorem d_lt (x : W32) : x.toNat * 4294967297 < 2 ^ 64 := by have := x.isLt; omega
/-- words side by side -/
def pk (n : Nat) (v : Nat → W32) : Nat := lan (fun i => (v i).toNat) n
def msk (n : Nat) : Nat := lan (fun _ => 4294967295) n
theorem sum_pk {n : Nat} {f : Nat → Nat} {v : Nat → W32} (h1 : ∀ i, f i < 2 ^ 64) (h2 : ∀ i, f i % 4294967296 = (v i).toNat) : lan f n &&& msk n = pk n v := by
  rw [msk, lan_mask h1]
  exact lan_congr fun i _ => h2 i
theorem sig_pk {n r1 r2 r3 : Nat} {f g h : Nat → Nat} {v : Nat → W32} (hf : ∀ i, f i < 2 ^ 64) (hg : ∀ i, g i < 2 ^ 64) (hh : ∀ i, h i < 2 ^ 64) (k1 : r1 ≤ 32) (k2 : r2 ≤ 32) (k3 : r3 ≤ 32)
    (e : ∀ i, ((f i >>> r1) % 4294967296) ^^^ ((g i >>> r2) % 4294967296) ^^^ ((h i >>> r3) % 4294967296) = (v i).toNat) :
    ((lan f n >>> r1) ^^^ (lan g n >>> r2) ^^^ (lan h n >>> r3)) &&& msk n = pk n v := by
  have sm : ∀ x, x % 4294967296 < 2 ^ 64 := fun x => Nat.lt_trans (Nat.mod_lt _ (by decide)) (by decide)
  rw [msk, Nat.and_xor_distrib_right, Nat.and_xor_distrib_right, lan_shift hf k1, lan_shift hg k2, lan_shift hh k3, lan_xor (fun _ => sm _) (fun _ => sm _), lan_xor (fun _ => Nat.xor_lt_two_pow (sm _) (sm _)) (fun _ => sm _)]
  exact lan_congr fun i _ => e i
theorem xor_pk (n : Nat) (u v : Nat → W32) : pk n u ^^^ pk n v = pk n (fun i => u i ^^^ v i) := by
  rw [pk, pk, lan_xor (fun _ => w_lt _) (fun _ => w_lt _)]
  exact lan_congr fun i _ => (BitVec.toNat_xor ..).symm
theorem and_pk (n : Nat) (u v : Nat → W32) : pk n u &&& pk n v = pk n (fun i => u i &&& v i) := by
  rw [pk, pk, lan_and (fun _ => w_lt _) (fun _ => w_lt _)]
  exact lan_congr fun i _ => (BitVec.toNat_and ..).symm
theorem dbl_pk (n : Nat) (v : Nat → W32) : pk n v * 4294967297 = lan (fun i => (v i).toNat * 4294967297) n := lan_mul _ _ _
theorem rot3 (x : W32) {a b c : Nat} (a0 : 0 < a) (a1 : a < 32) (b0 : 0 < b) (b1 : b < 32) (c0 : 0 < c) (c1 : c < 32) :
    (x.toNat * 4294967297) >>> a % 4294967296 ^^^ (x.toNat * 4294967297) >>> b % 4294967296 ^^^ (x.toNat * 4294967297) >>> c % 4294967296 = (rotr x a ^^^ rotr x b ^^^ rotr x c).toNat := by
  rw [rot_nat x a0 a1, rot_nat x b0 b1, rot_nat x c0 c1, BitVec.toNat_xor, BitVec.toNat_xor]
theorem bigS1_pk (n : Nat) (v : Nat → W32) : ((pk n v * 4294967297) >>> 6 ^^^ (pk n v * 4294967297) >>> 11 ^^^ (pk n v * 4294967297) >>> 25) &&& msk n = pk n (fun i => bigS1 (v i)) := by
  rw [dbl_pk]
  exact sig_pk (fun _ => d_lt _) (fun _ => d_lt _) (fun _ => d_lt _) (by decide) (by decide) (by decide) fun i => rot3 (v i) (by decide) (by decide) (by decide) (by decide) (by decide) (by decide)
theorem bigS0_pk (n : Nat) (v : Nat → W32) : ((pk n v * 4294967297) >>> 2 ^^^ (pk n v * 4294967297) >>> 13 ^^^ (pk n v * 4294967297) >>> 22) &&& msk n = pk n (fun i => bigS0 (v i)) := by
  rw [dbl_pk]
  exact sig_pk (fun _ => d_lt _) (fun _ => d_lt _) (fun _ => d_lt _) (by decide) (by decide) (by decide) fun i => rot3 (v i) (by decide) (by decide) (by decide) (by decide) (by decide) (by decide)
theorem smS0_pk (n : Nat) (v : Nat → W32) : ((pk n v * 4294967297) >>> 7 ^^^ (pk n v * 4294967297) >>> 18 ^^^ pk n v >>> 3) &&& msk n = pk n (fun i => smS0 (v i)) := by
  rw [dbl_pk]
  exact sig_pk (fun _ => d_lt _) (fun _ => d_lt _) (fun _ => w_lt _) (by decide) (by decide) (by decide) fun i => by
    rw [rot_nat _ (by decide) (by decide), rot_nat _ (by decide) (by decide), shr_nat, smS0, BitVec.toNat_xor, BitVec.toNat_xor]
theorem smS1_pk (n : Nat) (v : Nat → W32) : ((pk n v * 4294967297) >>> 17 ^^^ (pk n v * 4294967297) >>> 19 ^^^ pk n v >>> 10) &&& msk n = pk n (fun i => smS1 (v i)) := by
  rw [dbl_pk]
  exact sig_pk (fun _ => d_lt _) (fun _ => d_lt _) (fun _ => w_lt _) (by decide) (by decide) (by decide) fun i => by
    rw [rot_nat _ (by decide) (by decide), rot_nat _ (by decide) (by decide), shr_nat, smS1, BitVec.toNat_xor, BitVec.toNat_xor]
theorem ch_w (e f g : W32) : g ^^^ (e &&& (f ^^^ g)) = chF e f g := by
  apply BitVec.eq_of_getElem_eq
  intro i hi
  have h1 : (0xffffffff : W32)[i] = true := by
    have : (0xffffffff : W32) = BitVec.allOnes 32 := rfl
    rw [this, BitVec.getElem_allOnes]
  simp only [chF, BitVec.getElem_xor, BitVec.getElem_and, h1]
  cases e[i] <;> cases f[i] <;> cases g[i] <;> rfl
theorem maj_w (a b c : W32) : b ^^^ ((a ^^^ b) &&& (b ^^^ c)) = majF a b c := by
  apply BitVec.eq_of_getElem_eq
  intro i hi
  simp only [majF, BitVec.getElem_xor, BitVec.getElem_and]
  cases a[i] <;> cases b[i] <;> cases c[i] <;> rfl
theorem ch_pk (n : Nat) (e f g : Nat → W32) : pk n g ^^^ (pk n e &&& (pk n f ^^^ pk n g)) = pk n (fun i => chF (e i) (f i) (g i)) := by
  rw [xor_pk, and_pk, xor_pk]
  congr 1
  exact funext fun i => ch_w _ _ _
theorem maj_pk (n : Nat) (a b c : Nat → W32) : pk n b ^^^ ((pk n a ^^^ pk n b) &&& (pk n b ^^^ pk n c)) = pk n (fun i => majF (a i) (b i) (c i)) := by
  rw [xor_pk, xor_pk, and_pk, xor_pk]
  congr 1
  exact funext fun i => maj_w _ _ _
end Go.Proofs.YtddpjahoeldleaaGreatDoor.Hs

/-! The two blocks of the hash, on lanes. -/
namespace Go.Proofs.YtddpjahoeldleaaGreatDoor.Hs

def frc (a : Nat) (f : Nat → Nat) : Nat := Bool.casesOn (motive := fun _ => Nat) (Nat.ble 0 a) 0 (f a)
theorem frc_eq (a : Nat) (f : Nat → Nat) : frc a f = f a := by unfold frc; cases a <;> rfl
/-- one round of the first block, all lanes at once -/
noncomputable def body1 (O M : Nat) (ih : Nat → Nat → Nat → Nat → Nat → Nat → Nat → Nat → Nat → Nat → Nat → Nat → Nat → Nat → Nat → Nat → Nat → Nat → Nat → Nat → Nat → Nat → Nat → Nat → Nat) (k : Nat) : Nat → Nat → Nat → Nat → Nat → Nat → Nat → Nat → Nat → Nat → Nat → Nat → Nat → Nat → Nat → Nat → Nat → Nat → Nat → Nat → Nat → Nat → Nat → Nat → Nat :=
  fun w0 w1 w2 w3 w4 w5 w6 w7 w8 w9 w10 w11 w12 w13 w14 w15 a b c d e f g h =>
    (fun y z u v => (fun t x => frc (Nat.land (Nat.add (Nat.add t (Nat.land (Nat.xor (Nat.xor (Nat.shiftRight z 2) (Nat.shiftRight z 13)) (Nat.shiftRight z 22)) M)) (Nat.xor b (Nat.land (Nat.xor a b) (Nat.xor b c)))) M) (fun a' => ih w1 w2 w3 w4 w5 w6 w7 w8 w9 w10 w11 w12 w13 w14 w15 x a' a b c (Nat.land (Nat.add d t) M) e f g)) (Nat.add (Nat.add (Nat.add (Nat.add (Nat.mul O k) w0) h) (Nat.land (Nat.xor (Nat.xor (Nat.shiftRight y 6) (Nat.shiftRight y 11)) (Nat.shiftRight y 25)) M)) (Nat.xor g (Nat.land e (Nat.xor f g)))) (Nat.land (Nat.add (Nat.add (Nat.add (Nat.land (Nat.xor (Nat.xor (Nat.shiftRight u 7) (Nat.shiftRight u 18)) (Nat.shiftRight w1 3)) M) w9) (Nat.land (Nat.xor (Nat.xor (Nat.shiftRight v 17) (Nat.shiftRight v 19)) (Nat.shiftRight w14 10)) M)) w0) M))
      (Nat.mul e 4294967297) (Nat.mul a 4294967297) (Nat.mul w1 4294967297) (Nat.mul w14 4294967297)
noncomputable def loop1 (O M : Nat) (fin : Nat → Nat → Nat → Nat → Nat → Nat → Nat → Nat → Nat) (l : List Nat) : Nat → Nat → Nat → Nat → Nat → Nat → Nat → Nat → Nat → Nat → Nat → Nat → Nat → Nat → Nat → Nat → Nat → Nat → Nat → Nat → Nat → Nat → Nat → Nat → Nat :=
  List.rec (motive := fun _ => Nat → Nat → Nat → Nat → Nat → Nat → Nat → Nat → Nat → Nat → Nat → Nat → Nat → Nat → Nat → Nat → Nat → Nat → Nat → Nat → Nat → Nat → Nat → Nat → Nat) (fun _ _ _ _ _ _ _ _ _ _ _ _ _ _ _ _ a b c d e f g h => fin a b c d e f g h) (fun k _ ih => body1 O M ih k) l
/-- one round of the second block -/
noncomputable def body2 (O M : Nat) (ih : Nat → Nat → Nat → Nat → Nat → Nat → Nat → Nat → Nat) (k : Nat) : Nat → Nat → Nat → Nat → Nat → Nat → Nat → Nat → Nat :=
  fun a b c d e f g h =>
    (fun y z => (fun t => frc (Nat.land (Nat.add (Nat.add t (Nat.land (Nat.xor (Nat.xor (Nat.shiftRight z 2) (Nat.shiftRight z 13)) (Nat.shiftRight z 22)) M)) (Nat.xor b (Nat.land (Nat.xor a b) (Nat.xor b c)))) M) (fun a' => ih a' a b c (Nat.land (Nat.add d t) M) e f g)) (Nat.add (Nat.add (Nat.add (Nat.mul O k) h) (Nat.land (Nat.xor (Nat.xor (Nat.shiftRight y 6) (Nat.shiftRight y 11)) (Nat.shiftRight y 25)) M)) (Nat.xor g (Nat.land e (Nat.xor f g)))))
      (Nat.mul e 4294967297) (Nat.mul a 4294967297)
noncomputable def loop2 (O M : Nat) (fin : Nat → Nat) (l : List Nat) : Nat → Nat → Nat → Nat → Nat → Nat → Nat → Nat → Nat :=
  List.rec (motive := fun _ => Nat → Nat → Nat → Nat → Nat → Nat → Nat → Nat → Nat) (fun a _ _ _ _ _ _ _ => fin a) (fun k _ ih => body2 O M ih k) l
theorem loop1_c (O M : Nat) (fin : Nat → Nat → Nat → Nat → Nat → Nat → Nat → Nat → Nat) (k : Nat) (l : List Nat) : loop1 O M fin (k :: l) = body1 O M (loop1 O M fin l) k := rfl
theorem loop2_c (O M : Nat) (fin : Nat → Nat) (k : Nat) (l : List Nat) : loop2 O M fin (k :: l) = body2 O M (loop2 O M fin l) k := rfl
def kw2 : List Nat := [1116352408, 1899447441, 3049323471, 3921009573, 961987163, 1508970993, 2453635748, 2870763221, 3624381080, 310598401, 607225278, 1426881987, 1925078388, 2162078206, 2614888103, 3248223028, 3835390401, 4036380550, 264347078, 604821571, 770255983, 1751770295, 1555082140, 2465847542, 2582532434, 3392951297, 2953038637, 3603535790, 716409896, 3736225882, 1396677915, 591581744, 2242624329, 275915938, 380118253, 418151520, 1563406242, 465755204, 4197198771, 2138652164, 3006480791, 3777317601, 412851218, 2357841639, 1879552395, 1018018693, 621430818, 2872124696, 1158303443, 13132699, 3325307288, 3418649235, 2049058666, 788237445, 1661915629, 3859848591, 1028110950, 3998022584, 1577465327, 2529848997, 1544448704, 646972621, 2838023793]

theorem loop1_cons (O M : Nat) (fin : Nat → Nat → Nat → Nat → Nat → Nat → Nat → Nat → Nat) (k : Nat) (l : List Nat) (w0 w1 w2 w3 w4 w5 w6 w7 w8 w9 w10 w11 w12 w13 w14 w15 a b c d e f g h : Nat) : loop1 O M fin (k :: l) w0 w1 w2 w3 w4 w5 w6 w7 w8 w9 w10 w11 w12 w13 w14 w15 a b c d e f g h = loop1 O M fin l w1 w2 w3 w4 w5 w6 w7 w8 w9 w10 w11 w12 w13 w14 w15 (Nat.land (Nat.add (Nat.add (Nat.add (Nat.land (Nat.xor (Nat.xor (Nat.shiftRight (Nat.mul w1 4294967297) 7) (Nat.shiftRight (Nat.mul w1 4294967297) 18)) (Nat.shiftRight w1 3)) M) w9) (Nat.land (Nat.xor (Nat.xor (Nat.shiftRight (Nat.mul w14 4294967297) 17) (Nat.shiftRight (Nat.mul w14 4294967297) 19)) (Nat.shiftRight w14 10)) M)) w0) M) (Nat.land (Nat.add (Nat.add (Nat.add (Nat.add (Nat.add (Nat.add (Nat.mul O k) w0) h) (Nat.land (Nat.xor (Nat.xor (Nat.shiftRight (Nat.mul e 4294967297) 6) (Nat.shiftRight (Nat.mul e 4294967297) 11)) (Nat.shiftRight (Nat.mul e 4294967297) 25)) M)) (Nat.xor g (Nat.land e (Nat.xor f g)))) (Nat.land (Nat.xor (Nat.xor (Nat.shiftRight (Nat.mul a 4294967297) 2) (Nat.shiftRight (Nat.mul a 4294967297) 13)) (Nat.shiftRight (Nat.mul a 4294967297) 22)) M)) (Nat.xor b (Nat.land (Nat.xor a b) (Nat.xor b c)))) M) a b c (Nat.land (Nat.add d (Nat.add (Nat.add (Nat.add (Nat.add (Nat.mul O k) w0) h) (Nat.land (Nat.xor (Nat.xor (Nat.shiftRight (Nat.mul e 4294967297) 6) (Nat.shiftRight (Nat.mul e 4294967297) 11)) (Nat.shiftRight (Nat.mul e 4294967297) 25)) M)) (Nat.xor g (Nat.land e (Nat.xor f g))))) M) e f g := by
  rw [loop1_c]
  simp only [body1, frc_eq]
theorem loop2_cons (O M : Nat) (fin : Nat → Nat) (k : Nat) (l : List Nat) (a b c d e f g h : Nat) : loop2 O M fin (k :: l) a b c d e f g h = loop2 O M fin l (Nat.land (Nat.add (Nat.add (Nat.add (Nat.add (Nat.add (Nat.mul O k) h) (Nat.land (Nat.xor (Nat.xor (Nat.shiftRight (Nat.mul e 4294967297) 6) (Nat.shiftRight (Nat.mul e 4294967297) 11)) (Nat.shiftRight (Nat.mul e 4294967297) 25)) M)) (Nat.xor g (Nat.land e (Nat.xor f g)))) (Nat.land (Nat.xor (Nat.xor (Nat.shiftRight (Nat.mul a 4294967297) 2) (Nat.shiftRight (Nat.mul a 4294967297) 13)) (Nat.shiftRight (Nat.mul a 4294967297) 22)) M)) (Nat.xor b (Nat.land (Nat.xor a b) (Nat.xor b c)))) M) a b c (Nat.land (Nat.add d (Nat.add (Nat.add (Nat.add (Nat.mul O k) h) (Nat.land (Nat.xor (Nat.xor (Nat.shiftRight (Nat.mul e 4294967297) 6) (Nat.shiftRight (Nat.mul e 4294967297) 11)) (Nat.shiftRight (Nat.mul e 4294967297) 25)) M)) (Nat.xor g (Nat.land e (Nat.xor f g))))) M) e f g := by
  rw [loop2_c]
  simp only [body2, frc_eq]
/-- word t of the schedule -/
def vW (b : Bs) (t : Nat) : W32 := (schedL b (t + 1)).getD t 0
theorem sched_at (b : Bs) {t : Nat} : ∀ n, t < n → (schedL b n).getD t 0 = vW b t
  | 0, h => by omega
  | n + 1, h => by
    by_cases e : t = n
    · rw [e]; rfl
    · rw [schedL, schedS, List.getD_eq_getElem?_getD, List.getElem?_append_left (by rw [sched_len]; omega), ← List.getD_eq_getElem?_getD]
      exact sched_at b n (by omega)
theorem vW_next (b : Bs) (t : Nat) : vW b t = nextW b (schedL b t) t := by
  rw [vW, schedL, schedS, List.getD_eq_getElem?_getD, List.getElem?_append_right (by rw [sched_len]; exact Nat.le_refl _), sched_len, Nat.sub_self]
  rfl
theorem vW_low (b : Bs) {t : Nat} (h : t < 16) : vW b t = wordAt b t := by rw [vW_next, nextW, if_pos h]
theorem vW_high (b : Bs) (t : Nat) : vW b (t + 16) = vW b t + smS0 (vW b (t + 1)) + vW b (t + 9) + smS1 (vW b (t + 14)) := by
  rw [vW_next, nextW, if_neg (by omega), show t + 16 - 16 = t by omega, show t + 16 - 15 = t + 1 by omega, show t + 16 - 7 = t + 9 by omega, show t + 16 - 2 = t + 14 by omega]
  rw [sched_at b _ (by omega), sched_at b _ (by omega), sched_at b _ (by omega), sched_at b _ (by omega)]
section
variable {n : Nat} {s : Nat → Reg} {k : W32} {w : Nat → W32} {kf : Nat → Nat}
theorem t_eq : Nat.add (Nat.add (Nat.add (lan kf n) (pk n fun i => (s i).h)) (Nat.land (Nat.xor (Nat.xor (Nat.shiftRight (Nat.mul (pk n fun i => (s i).e) 4294967297) 6) (Nat.shiftRight (Nat.mul (pk n fun i => (s i).e) 4294967297) 11)) (Nat.shiftRight (Nat.mul (pk n fun i => (s i).e) 4294967297) 25)) (msk n))) (Nat.xor (pk n fun i => (s i).g) (Nat.land (pk n fun i => (s i).e) (Nat.xor (pk n fun i => (s i).f) (pk n fun i => (s i).g)))) = lan (fun i => kf i + (s i).h.toNat + (bigS1 (s i).e).toNat + (chF (s i).e (s i).f (s i).g).toNat) n := by
  refine (congr (congrArg Nat.add (congrArg (Nat.add _) (bigS1_pk n _))) (ch_pk n _ _ _)).trans ?_
  show lan kf n + pk n _ + pk n _ + pk n _ = _
  rw [pk, pk, pk, lan_add, lan_add, lan_add]
theorem a_eq (h1 : ∀ i, kf i < 2 ^ 33) (h2 : ∀ i, kf i % 4294967296 = (k + w i).toNat) : Nat.land (Nat.add (Nat.add (lan (fun i => kf i + (s i).h.toNat + (bigS1 (s i).e).toNat + (chF (s i).e (s i).f (s i).g).toNat) n) (Nat.land (Nat.xor (Nat.xor (Nat.shiftRight (Nat.mul (pk n fun i => (s i).a) 4294967297) 2) (Nat.shiftRight (Nat.mul (pk n fun i => (s i).a) 4294967297) 13)) (Nat.shiftRight (Nat.mul (pk n fun i => (s i).a) 4294967297) 22)) (msk n))) (Nat.xor (pk n fun i => (s i).b) (Nat.land (Nat.xor (pk n fun i => (s i).a) (pk n fun i => (s i).b)) (Nat.xor (pk n fun i => (s i).b) (pk n fun i => (s i).c))))) (msk n) = pk n fun i => ((s i).round k (w i)).a := by
  refine (congrArg (fun x => Nat.land x (msk n)) (congr (congrArg Nat.add (congrArg (Nat.add _) (bigS0_pk n _))) (maj_pk n _ _ _))).trans ?_
  show (lan _ n + pk n _ + pk n _) &&& _ = _
  rw [pk, pk, lan_add, lan_add]
  refine sum_pk (fun i => ?_) fun i => ?_
  · have := h1 i
    have := (s i).h.isLt; have := (bigS1 (s i).e).isLt; have := (chF (s i).e (s i).f (s i).g).isLt; have := (bigS0 (s i).a).isLt; have := (majF (s i).a (s i).b (s i).c).isLt
    omega
  · have h3 := h2 i
    rw [BitVec.toNat_add] at h3
    simp only [Reg.round, BitVec.toNat_add]
    omega
theorem e_eq (h1 : ∀ i, kf i < 2 ^ 33) (h2 : ∀ i, kf i % 4294967296 = (k + w i).toNat) : Nat.land (Nat.add (pk n fun i => (s i).d) (lan (fun i => kf i + (s i).h.toNat + (bigS1 (s i).e).toNat + (chF (s i).e (s i).f (s i).g).toNat) n)) (msk n) = pk n fun i => ((s i).round k (w i)).e := by
  show (pk n _ + lan _ n) &&& _ = _
  rw [pk, lan_add]
  refine sum_pk (fun i => ?_) fun i => ?_
  · have := h1 i
    have := (s i).h.isLt; have := (bigS1 (s i).e).isLt; have := (chF (s i).e (s i).f (s i).g).isLt; have := (s i).d.isLt
    omega
  · have h3 := h2 i
    rw [BitVec.toNat_add] at h3
    simp only [Reg.round, BitVec.toNat_add]
    omega
end
theorem w_eq {n : Nat} (v0 v1 v9 v14 : Nat → W32) : Nat.land (Nat.add (Nat.add (Nat.add (Nat.land (Nat.xor (Nat.xor (Nat.shiftRight (Nat.mul (pk n v1) 4294967297) 7) (Nat.shiftRight (Nat.mul (pk n v1) 4294967297) 18)) (Nat.shiftRight (pk n v1) 3)) (msk n)) (pk n v9)) (Nat.land (Nat.xor (Nat.xor (Nat.shiftRight (Nat.mul (pk n v14) 4294967297) 17) (Nat.shiftRight (Nat.mul (pk n v14) 4294967297) 19)) (Nat.shiftRight (pk n v14) 10)) (msk n))) (pk n v0)) (msk n) = pk n fun i => v0 i + smS0 (v1 i) + v9 i + smS1 (v14 i) := by
  refine (congrArg (fun x => Nat.land (Nat.add x (pk n v0)) (msk n)) (congr (congrArg Nat.add (congrArg (fun x => Nat.add x (pk n v9)) (smS0_pk n v1))) (smS1_pk n v14))).trans ?_
  show (pk n _ + pk n _ + pk n _ + pk n _) &&& _ = _
  rw [pk, pk, pk, pk, lan_add, lan_add, lan_add]
  refine sum_pk (fun i => ?_) fun i => ?_
  · have := (smS0 (v1 i)).isLt; have := (v9 i).isLt; have := (smS1 (v14 i)).isLt; have := (v0 i).isLt
    omega
  · simp only [BitVec.toNat_add]
    omega
theorem k_lt (t : Nat) (x : Nat) (r : List Nat) (h : kNat.drop t = x :: r) : x < 4294967296 ∧ kW t = BitVec.ofNat 32 x ∧ kNat.drop (t + 1) = r := by
  have hx : x ∈ kNat := List.mem_of_mem_drop (h ▸ List.mem_cons_self ..)
  have ha : kNat.all (fun x => decide (x < 4294967296)) = true := by decide +kernel
  have hg : kNat[t]? = some x := by
    have := congrArg (fun l => l[0]?) h
    simpa using this
  refine ⟨of_decide_eq_true (List.all_eq_true.1 ha x hx), by rw [kW, List.getD_eq_getElem?_getD, hg]; rfl, ?_⟩
  have := congrArg List.tail h
  simpa using this
theorem loop1_eq {n : Nat} (fin : Nat → Nat → Nat → Nat → Nat → Nat → Nat → Nat → Nat) (V : Nat → Nat → W32) (hV : ∀ t i, V (t + 16) i = V t i + smS0 (V (t + 1) i) + V (t + 9) i + smS1 (V (t + 14) i)) (S : Nat → Nat → Reg) (hS : ∀ t, t < 64 → ∀ i, S (t + 1) i = (S t i).round (kW t) (V t i)) :
    ∀ (l : List Nat) (t : Nat), t + l.length = 64 → kNat.drop t = l → loop1 (ones n) (msk n) fin l (pk n (V t)) (pk n (V (t + 1))) (pk n (V (t + 2))) (pk n (V (t + 3))) (pk n (V (t + 4))) (pk n (V (t + 5))) (pk n (V (t + 6))) (pk n (V (t + 7))) (pk n (V (t + 8))) (pk n (V (t + 9))) (pk n (V (t + 10))) (pk n (V (t + 11))) (pk n (V (t + 12))) (pk n (V (t + 13))) (pk n (V (t + 14))) (pk n (V (t + 15))) (pk n fun i => (S t i).a) (pk n fun i => (S t i).b) (pk n fun i => (S t i).c) (pk n fun i => (S t i).d) (pk n fun i => (S t i).e) (pk n fun i => (S t i).f) (pk n fun i => (S t i).g) (pk n fun i => (S t i).h) = fin (pk n fun i => (S 64 i).a) (pk n fun i => (S 64 i).b) (pk n fun i => (S 64 i).c) (pk n fun i => (S 64 i).d) (pk n fun i => (S 64 i).e) (pk n fun i => (S 64 i).f) (pk n fun i => (S 64 i).g) (pk n fun i => (S 64 i).h)
  | [], t, ht, _ => by
    obtain rfl : t = 64 := by simpa using ht
    rfl
  | x :: l, t, ht, hl => by
    rw [List.length_cons] at ht
    obtain ⟨hx, hk, hl2⟩ := k_lt t x l hl
    have h1 : ∀ i, x + (V t i).toNat < 2 ^ 33 := fun i => by have := (V t i).isLt; omega
    have h2 : ∀ i, (x + (V t i).toNat) % 4294967296 = (kW t + V t i).toNat := fun i => by
      rw [hk, BitVec.toNat_add, BitVec.toNat_ofNat]
      omega
    have hkw : Nat.add (Nat.mul (ones n) x) (pk n (V t)) = lan (fun i => x + (V t i).toNat) n := by
      show ones n * x + pk n (V t) = _
      rw [ones_mul, pk, lan_add]
    have ih := loop1_eq (n := n) fin V hV S hS l (t + 1) (by omega) hl2
    have es : ∀ i, S (t + 1) i = (S t i).round (kW t) (V t i) := hS t (by omega)
    simp only [Nat.add_assoc, Nat.reduceAdd] at ih
    have ew : (fun i => V t i + smS0 (V (t + 1) i) + V (t + 9) i + smS1 (V (t + 14) i)) = V (t + 16) := funext fun i => (hV t i).symm
    refine Eq.trans ?_ ih
    refine Eq.trans (loop1_cons ..) ?_
    simp only [es]
    have hA := a_eq (n := n) (s := S t) h1 h2
    have hE := e_eq (n := n) (s := S t) h1 h2
    have hT := t_eq (n := n) (s := S t) (kf := fun i => x + (V t i).toNat)
    have hW := w_eq (n := n) (V t) (V (t + 1)) (V (t + 9)) (V (t + 14))
    rw [ew] at hW
    rw [hkw]
    rw [hT, hA, hE, hW]
    rfl
end Go.Proofs.YtddpjahoeldleaaGreatDoor.Hs

/-! The second word of the hash of 56 bytes, on lanes. -/
namespace Go.Proofs.YtddpjahoeldleaaGreatDoor.Hs

noncomputable def hash (O M w0 w1 w2 w3 w4 w5 w6 w7 w8 w9 w10 w11 w12 w13 w14 w15 : Nat) : Nat :=
  loop1 O M (fun a b c d e f g h => (fun x => loop2 O M (fun y => Nat.land (Nat.add x y) M) kw2 (Nat.land (Nat.add (Nat.mul O 1779033703) a) M) x (Nat.land (Nat.add (Nat.mul O 1013904242) c) M) (Nat.land (Nat.add (Nat.mul O 2773480762) d) M) (Nat.land (Nat.add (Nat.mul O 1359893119) e) M) (Nat.land (Nat.add (Nat.mul O 2600822924) f) M) (Nat.land (Nat.add (Nat.mul O 528734635) g) M) (Nat.land (Nat.add (Nat.mul O 1541459225) h) M)) (Nat.land (Nat.add (Nat.mul O 3144134277) b) M)) kNat w0 w1 w2 w3 w4 w5 w6 w7 w8 w9 w10 w11 w12 w13 w14 w15 (Nat.mul O 1779033703) (Nat.mul O 3144134277) (Nat.mul O 1013904242) (Nat.mul O 2773480762) (Nat.mul O 1359893119) (Nat.mul O 2600822924) (Nat.mul O 528734635) (Nat.mul O 1541459225)
/-- word t of the second block -/
def w2 (t : Nat) : W32 := (schedL block2 64).getD t 0
theorem kw2_len : kw2.length = 63 := rfl
set_option maxRecDepth 100000 in
theorem kw2_all : ((List.range 63).all fun t => decide (kw2.getD t 0 = (kW t + w2 t).toNat)) = true := by decide +kernel
theorem kw2_at (t x : Nat) (r : List Nat) (h : kw2.drop t = x :: r) : x = (kW t + w2 t).toNat ∧ kw2.drop (t + 1) = r := by
  have hg : kw2[t]? = some x := by
    have := congrArg (fun l => l[0]?) h
    simpa using this
  have ht : t < 63 := by
    have := (List.getElem?_eq_some_iff.1 hg).1
    rwa [kw2_len] at this
  refine ⟨?_, ?_⟩
  · have := of_decide_eq_true (List.all_eq_true.1 kw2_all t (List.mem_range.2 ht))
    rwa [List.getD_eq_getElem?_getD, hg] at this
  · have := congrArg List.tail h
    simpa using this
theorem loop2_eq {n : Nat} (fin : Nat → Nat) (S : Nat → Nat → Reg) (hS : ∀ t, t < 63 → ∀ i, S (t + 1) i = (S t i).round (kW t) (w2 t)) :
    ∀ (l : List Nat) (t : Nat), t + l.length = 63 → kw2.drop t = l → loop2 (ones n) (msk n) fin l (pk n fun i => (S t i).a) (pk n fun i => (S t i).b) (pk n fun i => (S t i).c) (pk n fun i => (S t i).d) (pk n fun i => (S t i).e) (pk n fun i => (S t i).f) (pk n fun i => (S t i).g) (pk n fun i => (S t i).h) = fin (pk n fun i => (S 63 i).a)
  | [], t, ht, _ => by
    obtain rfl : t = 63 := by simpa using ht
    rfl
  | x :: l, t, ht, hl => by
    rw [List.length_cons] at ht
    obtain ⟨hx, hl2⟩ := kw2_at t x l hl
    have hk : x < 4294967296 := by rw [hx]; exact (kW t + w2 t).isLt
    have h1 : ∀ _ : Nat, x < 2 ^ 33 := fun _ => by omega
    have h2 : ∀ i, x % 4294967296 = (kW t + (fun _ : Nat => w2 t) i).toNat := fun i => by
      rw [Nat.mod_eq_of_lt hk]
      exact hx
    have hkw : Nat.mul (ones n) x = lan (fun _ => x) n := ones_mul n x
    have ih := loop2_eq (n := n) fin S hS l (t + 1) (by omega) hl2
    have es : ∀ i, S (t + 1) i = (S t i).round (kW t) (w2 t) := hS t (by omega)
    refine Eq.trans ?_ ih
    refine Eq.trans (loop2_cons ..) ?_
    simp only [es]
    have hA := a_eq (n := n) (s := S t) (w := fun _ => w2 t) h1 h2
    have hE := e_eq (n := n) (s := S t) (w := fun _ => w2 t) h1 h2
    have hT := t_eq (n := n) (s := S t) (kf := fun _ => x)
    rw [hkw]
    rw [hT, hA, hE]
    rfl
/-- the second word of the hash -/
def H1 (b : Bs) : W32 := ((iv.compress (block1 b)).compress block2).b
theorem iv_pk (n : Nat) (x : W32) (c : Nat) (h : x.toNat = c) : Nat.mul (ones n) c = pk n fun _ => x := by
  refine (ones_mul n c).trans ?_
  rw [pk, h]
theorem add_pk {n : Nat} (u v : Nat → W32) : Nat.land (Nat.add (pk n u) (pk n v)) (msk n) = pk n fun i => u i + v i := by
  show (pk n u + pk n v) &&& _ = _
  rw [pk, pk, lan_add]
  refine sum_pk (fun i => ?_) fun i => ?_
  · have := (u i).isLt; have := (v i).isLt
    omega
  · rw [BitVec.toNat_add]
theorem rounds_b (w : List W32) (s : Reg) (t : Nat) : (Reg.rounds w s (t + 1)).b = (Reg.rounds w s t).a := rfl
theorem hash_eq (n : Nat) (bd : Nat → Bs) (V : Nat → Nat → W32) (hV : ∀ t i, V t i = vW (block1 (bd i)) t) : hash (ones n) (msk n) (pk n (V 0)) (pk n (V 1)) (pk n (V 2)) (pk n (V 3)) (pk n (V 4)) (pk n (V 5)) (pk n (V 6)) (pk n (V 7)) (pk n (V 8)) (pk n (V 9)) (pk n (V 10)) (pk n (V 11)) (pk n (V 12)) (pk n (V 13)) (pk n (V 14)) (pk n (V 15)) = pk n fun i => H1 (bd i) := by
  have hr : ∀ t i, V (t + 16) i = V t i + smS0 (V (t + 1) i) + V (t + 9) i + smS1 (V (t + 14) i) := fun t i => by
    simp only [hV]
    exact vW_high _ t
  obtain ⟨S, hS⟩ : ∃ S : Nat → Nat → Reg, ∀ t i, S t i = Reg.rounds (schedL (block1 (bd i)) 64) iv t := ⟨_, fun _ _ => rfl⟩
  have h0 : ∀ i, S 0 i = iv := fun i => hS 0 i
  have h1 : ∀ t, t < 64 → ∀ i, S (t + 1) i = (S t i).round (kW t) (V t i) := fun t ht i => by
    rw [hS, hS, hV, ← sched_at _ 64 ht]; rfl
  have h64 : ∀ i, iv.compress (block1 (bd i)) = iv.plus (S 64 i) := fun i => by rw [hS, Reg.compress]
  obtain ⟨U, hU⟩ : ∃ U : Nat → Nat → Reg, ∀ t i, U t i = Reg.rounds (schedL block2 64) (iv.plus (S 64 i)) t := ⟨_, fun _ _ => rfl⟩
  have u0 : ∀ i, U 0 i = iv.plus (S 64 i) := fun i => hU 0 i
  have u1 : ∀ t, t < 63 → ∀ i, U (t + 1) i = (U t i).round (kW t) (w2 t) := fun t _ i => by rw [hU, hU]; rfl
  have hH : ∀ i, H1 (bd i) = (iv.plus (S 64 i)).b + (U 63 i).a := fun i => by
    rw [H1, h64, hU, ← rounds_b, Reg.compress]; rfl
  unfold hash
  rw [iv_pk n iv.a 1779033703 rfl, iv_pk n iv.b 3144134277 rfl, iv_pk n iv.c 1013904242 rfl, iv_pk n iv.d 2773480762 rfl, iv_pk n iv.e 1359893119 rfl, iv_pk n iv.f 2600822924 rfl, iv_pk n iv.g 528734635 rfl, iv_pk n iv.h 1541459225 rfl]
  have key := fun fin => loop1_eq (n := n) fin V hr S h1 kNat 0 rfl rfl
  simp only [h0, Nat.zero_add] at key
  rw [key]
  simp only [add_pk]
  have key2 := fun fin => loop2_eq (n := n) fin U u1 kw2 0 rfl rfl
  simp only [u0] at key2
  refine (key2 _).trans ?_
  refine (add_pk _ _).trans ?_
  simp only [hH]
  rfl
end Go.Proofs.YtddpjahoeldleaaGreatDoor.Hs

/-! A chunk: the sectors of part p whose text has 48 q + 1 .. 48 q + 48 bytes left, for 256 first bytes: 12288 lanes. -/
namespace Go.Proofs.YtddpjahoeldleaaGreatDoor.Hs

/-- the second word -/
def w1N (o p q : Nat) : Nat := Nat.mul (vec 16384 (fun j => Nat.add (Nat.mul p 16777216) (Nat.add (Nat.mul (Nat.mod (Nat.add (Nat.mul 48 q) (Nat.add j 1)) 256) 256) (Nat.div (Nat.add (Nat.mul 48 q) (Nat.add j 1)) 256))) 48) o
/-- byte i of the texts -/
def bytN (o i : Nat) : Nat := Nat.land (Nat.add (vec 64 (fun s => s) 256) (Nat.mul o i)) (Nat.mul o 255)
def wrdN (a b c d : Nat) : Nat := Nat.add (Nat.add (Nat.add (Nat.mul a 16777216) (Nat.mul b 65536)) (Nat.mul c 256)) d
/-- byte i of the short texts -/
def shtN (o i : Nat) : Nat := Nat.mul (vec 16384 (fun j => Nat.sub 1 (Nat.sub i j)) 48) (bytN o i)
def payN (o q i : Nat) : Nat := Nat.rec (wrdN (shtN o i) (shtN o (Nat.add i 1)) (shtN o (Nat.add i 2)) (shtN o (Nat.add i 3))) (fun _ _ => Nat.mul (vec 16384 (fun _ => 1) 48) (wrdN (bytN o i) (bytN o (Nat.add i 1)) (bytN o (Nat.add i 2)) (bytN o (Nat.add i 3)))) q
noncomputable def hN (O M o p q n : Nat) : Nat := hash O M (Nat.mul O (Nat.mul n 16777216)) (w1N o p q) (payN o q 0) (payN o q 4) (payN o q 8) (payN o q 12) (payN o q 16) (payN o q 20) (payN o q 24) (payN o q 28) (payN o q 32) (payN o q 36) (payN o q 40) (payN o q 44) (Nat.mul O 2147483648) 0
def neN (O M x y : Nat) : Bool := Nat.beq (Nat.land (Nat.add (Nat.xor x y) M) (Nat.mul O 4294967296)) (Nat.mul O 4294967296)
/-- the pairs of numbers that differ in one bit -/
def pairL : List (Nat × Nat) := [(1, 3), (1, 5), (1, 9), (2, 3), (2, 6), (2, 10), (3, 7), (3, 11), (4, 5), (4, 6), (4, 12), (5, 7), (6, 7), (8, 9), (8, 10), (8, 12), (9, 11), (10, 11)]
noncomputable def chkN (O M o p q : Nat) : Bool :=
  (Nat.ble 203 (Nat.add (Nat.mul 2 (Nat.add p (Nat.add q 1))) 3) || neN O M (hN O M o p q 1) (hN O M o p q 3)) && ((Nat.ble 203 (Nat.add (Nat.mul 2 (Nat.add p (Nat.add q 1))) 5) || neN O M (hN O M o p q 1) (hN O M o p q 5)) && ((Nat.ble 203 (Nat.add (Nat.mul 2 (Nat.add p (Nat.add q 1))) 9) || neN O M (hN O M o p q 1) (hN O M o p q 9)) && ((Nat.ble 203 (Nat.add (Nat.mul 2 (Nat.add p (Nat.add q 1))) 3) || neN O M (hN O M o p q 2) (hN O M o p q 3)) && ((Nat.ble 203 (Nat.add (Nat.mul 2 (Nat.add p (Nat.add q 1))) 6) || neN O M (hN O M o p q 2) (hN O M o p q 6)) && ((Nat.ble 203 (Nat.add (Nat.mul 2 (Nat.add p (Nat.add q 1))) 10) || neN O M (hN O M o p q 2) (hN O M o p q 10)) && ((Nat.ble 203 (Nat.add (Nat.mul 2 (Nat.add p (Nat.add q 1))) 7) || neN O M (hN O M o p q 3) (hN O M o p q 7)) && ((Nat.ble 203 (Nat.add (Nat.mul 2 (Nat.add p (Nat.add q 1))) 11) || neN O M (hN O M o p q 3) (hN O M o p q 11)) && ((Nat.ble 203 (Nat.add (Nat.mul 2 (Nat.add p (Nat.add q 1))) 5) || neN O M (hN O M o p q 4) (hN O M o p q 5)) && ((Nat.ble 203 (Nat.add (Nat.mul 2 (Nat.add p (Nat.add q 1))) 6) || neN O M (hN O M o p q 4) (hN O M o p q 6)) && ((Nat.ble 203 (Nat.add (Nat.mul 2 (Nat.add p (Nat.add q 1))) 12) || neN O M (hN O M o p q 4) (hN O M o p q 12)) && ((Nat.ble 203 (Nat.add (Nat.mul 2 (Nat.add p (Nat.add q 1))) 7) || neN O M (hN O M o p q 5) (hN O M o p q 7)) && ((Nat.ble 203 (Nat.add (Nat.mul 2 (Nat.add p (Nat.add q 1))) 7) || neN O M (hN O M o p q 6) (hN O M o p q 7)) && ((Nat.ble 203 (Nat.add (Nat.mul 2 (Nat.add p (Nat.add q 1))) 9) || neN O M (hN O M o p q 8) (hN O M o p q 9)) && ((Nat.ble 203 (Nat.add (Nat.mul 2 (Nat.add p (Nat.add q 1))) 10) || neN O M (hN O M o p q 8) (hN O M o p q 10)) && ((Nat.ble 203 (Nat.add (Nat.mul 2 (Nat.add p (Nat.add q 1))) 12) || neN O M (hN O M o p q 8) (hN O M o p q 12)) && ((Nat.ble 203 (Nat.add (Nat.mul 2 (Nat.add p (Nat.add q 1))) 11) || neN O M (hN O M o p q 9) (hN O M o p q 11)) && ((Nat.ble 203 (Nat.add (Nat.mul 2 (Nat.add p (Nat.add q 1))) 11) || neN O M (hN O M o p q 10) (hN O M o p q 11)))))))))))))))))))
noncomputable def chk (p q : Nat) : Bool := chkN (ones 12288) (Nat.mul (ones 12288) 4294967295) (ones 256) p q

/-- a text's rest: bytes that grow by one -/
def payB (left s : Nat) : Bs := (List.range left).map fun i => UInt8.ofNat (s + i)
def bdB (n p left s : Nat) : Bs := bodyB n p (payB left s)
theorem pay_len (left s : Nat) : (payB left s).length = left := by rw [payB, List.length_map, List.length_range]
def headB (n p left : Nat) : Bs := leN n 4 ++ leN p 2 ++ leN left 2
def tailB (left s : Nat) : Bs := (payB left s).take 48 ++ List.replicate (48 - left) 0
theorem tail_len (left s : Nat) : (tailB left s).length = 48 := by
  rw [tailB, List.length_append, List.length_take, pay_len, List.length_replicate]
  omega
theorem block_eq (n p left s : Nat) : block1 (bdB n p left s) = headB n p left ++ (tailB left s ++ [128, 0, 0, 0, 0, 0, 0, 0]) := by
  rw [block1, bdB, bodyB, pay_len, headB, tailB]
  simp only [List.append_assoc]
theorem tail_at (left s i : Nat) (hi : i < 48) : ((tailB left s).getD i 0).toNat = if i < left then (s + i) % 256 else 0 := by
  rw [tailB, List.getD_eq_getElem?_getD]
  by_cases h : i < left
  · rw [List.getElem?_append_left (by rw [List.length_take, pay_len]; omega), List.getElem?_take, if_pos hi, payB, List.getElem?_map, List.getElem?_range h, if_pos h]
    exact UInt8.toNat_ofNat'
  · rw [List.getElem?_append_right (by rw [List.length_take, pay_len]; omega), if_neg h, List.getElem?_replicate]
    split <;> rfl
theorem byte_pay (n p left s : Nat) (i : Nat) (hi : i < 48) : byteN (block1 (bdB n p left s)) (8 + i) = if i < left then (s + i) % 256 else 0 := by
  have hh : (headB n p left).length = 8 := rfl
  rw [byteN, block_eq, List.getD_eq_getElem?_getD, List.getElem?_append_right (by omega), hh, Nat.add_sub_cancel_left, List.getElem?_append_left (by rw [tail_len]; exact hi), ← List.getD_eq_getElem?_getD]
  exact tail_at left s i hi
theorem byte_head (n p left s : Nat) (i : Nat) (hi : i < 8) : byteN (block1 (bdB n p left s)) i = ((headB n p left).getD i 0).toNat := by
  have hh : (headB n p left).length = 8 := rfl
  rw [byteN, block_eq, List.getD_eq_getElem?_getD, List.getElem?_append_left (by omega), ← List.getD_eq_getElem?_getD]
theorem byte_end (n p left s : Nat) (i : Nat) : byteN (block1 (bdB n p left s)) (56 + i) = (([128, 0, 0, 0, 0, 0, 0, 0] : Bs).getD i 0).toNat := by
  have hh : (headB n p left).length = 8 := rfl
  rw [byteN, block_eq, List.getD_eq_getElem?_getD, List.getElem?_append_right (by omega), hh, List.getElem?_append_right (by rw [tail_len]; omega), tail_len, ← List.getD_eq_getElem?_getD, show 56 + i - 8 - 48 = i by omega]
theorem word_val (b : Bs) (t : Nat) {x0 x1 x2 x3 : Nat} (h0 : byteN b (4 * t) = x0) (h1 : byteN b (4 * t + 1) = x1) (h2 : byteN b (4 * t + 2) = x2) (h3 : byteN b (4 * t + 3) = x3) (l0 : x0 < 256) (l1 : x1 < 256) (l2 : x2 < 256) (l3 : x3 < 256) : (wordAt b t).toNat = x0 * 16777216 + x1 * 65536 + x2 * 256 + x3 := by
  rw [wordAt, h0, h1, h2, h3, BitVec.toNat_ofNat]
  omega
theorem leN4 (n : Nat) (h : n < 256) : ((leN n 4).getD 0 0).toNat = n ∧ ((leN n 4).getD 1 0).toNat = 0 ∧ ((leN n 4).getD 2 0).toNat = 0 ∧ ((leN n 4).getD 3 0).toNat = 0 := by
  have e : n / 256 = 0 := by omega
  refine ⟨?_, ?_, ?_, ?_⟩ <;> simp [leN, e] <;> omega
theorem word0 {n : Nat} (hn : n < 256) (p left s : Nat) : (vW (block1 (bdB n p left s)) 0).toNat = n * 16777216 := by
  rw [vW_low _ (by decide)]
  obtain ⟨a0, a1, a2, a3⟩ := leN4 n hn
  rw [word_val (t := 0) _ ((byte_head n p left s 0 (by decide)).trans a0) ((byte_head n p left s 1 (by decide)).trans a1) ((byte_head n p left s 2 (by decide)).trans a2) ((byte_head n p left s 3 (by decide)).trans a3) hn (by decide) (by decide) (by decide)]
  omega
theorem word1 (n : Nat) {p left : Nat} (hp : p < 256) (hl : left < 65536) (s : Nat) : (vW (block1 (bdB n p left s)) 1).toNat = p * 16777216 + (left % 256 * 256 + left / 256) := by
  rw [vW_low _ (by decide)]
  have a0 : ((headB n p left).getD 4 0).toNat = p := by
    show (UInt8.ofNat (p % 256)).toNat = p
    rw [UInt8.toNat_ofNat']
    omega
  have a1 : ((headB n p left).getD 5 0).toNat = 0 := by
    show (UInt8.ofNat (p / 256 % 256)).toNat = 0
    rw [UInt8.toNat_ofNat']
    omega
  have a2 : ((headB n p left).getD 6 0).toNat = left % 256 := by
    show (UInt8.ofNat (left % 256)).toNat = _
    rw [UInt8.toNat_ofNat']
    omega
  have a3 : ((headB n p left).getD 7 0).toNat = left / 256 := by
    show (UInt8.ofNat (left / 256 % 256)).toNat = _
    rw [UInt8.toNat_ofNat']
    omega
  rw [word_val (t := 1) _ ((byte_head n p left s 4 (by decide)).trans a0) ((byte_head n p left s 5 (by decide)).trans a1) ((byte_head n p left s 6 (by decide)).trans a2) ((byte_head n p left s 7 (by decide)).trans a3) hp (by decide) (by omega) (by omega)]
  omega
/-- byte i of the text's rest -/
def bt (left s i : Nat) : Nat := if i < left then (s + i) % 256 else 0
theorem bt_lt (left s i : Nat) : bt left s i < 256 := by unfold bt; split <;> omega
theorem wordP (n p left s k : Nat) (hk : k < 12) : (vW (block1 (bdB n p left s)) (k + 2)).toNat = bt left s (4 * k) * 16777216 + bt left s (4 * k + 1) * 65536 + bt left s (4 * k + 2) * 256 + bt left s (4 * k + 3) := by
  have e : ∀ j, j < 4 → byteN (block1 (bdB n p left s)) (4 * (k + 2) + j) = bt left s (4 * k + j) := fun j hj => by
    rw [show 4 * (k + 2) + j = 8 + (4 * k + j) by omega]
    exact byte_pay n p left s _ (by omega)
  rw [vW_low _ (by omega)]
  exact word_val _ _ (e 0 (by decide)) (e 1 (by decide)) (e 2 (by decide)) (e 3 (by decide)) (bt_lt ..) (bt_lt ..) (bt_lt ..) (bt_lt ..)
theorem word14 (n p left s : Nat) : (vW (block1 (bdB n p left s)) 14).toNat = 2147483648 := by
  rw [vW_low _ (by decide)]
  exact word_val (t := 14) _ (byte_end n p left s 0) (byte_end n p left s 1) (byte_end n p left s 2) (byte_end n p left s 3) (by decide) (by decide) (by decide) (by decide)
theorem word15 (n p left s : Nat) : (vW (block1 (bdB n p left s)) 15).toNat = 0 := by
  rw [vW_low _ (by decide)]
  exact word_val (t := 15) _ (byte_end n p left s 4) (byte_end n p left s 5) (byte_end n p left s 6) (byte_end n p left s 7) (by decide) (by decide) (by decide) (by decide)

/-! the chunk's words -/
def bdC (n p q i : Nat) : Bs := bdB n p (48 * q + (i / 256 + 1)) (i % 256)
section
variable {O M o : Nat}
theorem out48 (v g : Nat → Nat) : Nat.mul (vec 16384 v 48) (lan g 256) = lan (fun i => v (i / 256) * g (i % 256)) 12288 := outer 256 (by decide) v g 48
theorem nadd (a b : Nat) : Nat.add a b = a + b := rfl
theorem onesC {n O : Nat} (h : O = lan (fun _ => 1) n) (c : Nat) : Nat.mul O c = lan (fun _ => c) n := by rw [h, ← ones_eq]; exact ones_mul n c
theorem byt_eq (ho : o = lan (fun _ => 1) 256) (i : Nat) (hi : i < 256) : bytN o i = lan (fun s => if s < 256 then (s + i) % 256 else 0) 256 := by
  have e1 : Nat.add (vec 64 (fun s => s) 256) (Nat.mul o i) = lan (fun s => if s < 256 then s + i else 0) 256 := by
    rw [onesC ho, vec_lan, nadd, lan_add]
    exact lan_congr fun s hs => (if_pos hs).symm
  have e2 : Nat.mul o 255 = lan (fun _ => 255) 256 := onesC ho 255
  rw [bytN, e1, e2]
  refine (lan_and (fun s => ?_) (fun _ => by decide) 256).trans (lan_congr fun s _ => ?_)
  · show (if s < 256 then s + i else 0) < _
    split <;> omega
  · show (if s < 256 then s + i else 0) &&& (2 ^ 8 - 1) = _
    rw [Nat.and_two_pow_sub_one_eq_mod]
    split <;> rfl
def bs (s i : Nat) : Nat := if s < 256 then (s + i) % 256 else 0
theorem wrd_lan (n : Nat) (a b c d : Nat → Nat) : wrdN (lan a n) (lan b n) (lan c n) (lan d n) = lan (fun i => a i * 16777216 + b i * 65536 + c i * 256 + d i) n := by
  show lan a n * 16777216 + lan b n * 65536 + lan c n * 256 + lan d n = _
  rw [lan_mul, lan_mul, lan_mul, lan_add, lan_add, lan_add]
theorem sht_eq (ho : o = lan (fun _ => 1) 256) (i : Nat) (hi : i < 256) : shtN o i = lan (fun x => bt (x / 256 + 1) (x % 256) i) 12288 := by
  rw [shtN, byt_eq ho i hi, out48]
  refine lan_congr fun x _ => ?_
  have hx : x % 256 < 256 := Nat.mod_lt _ (by decide)
  show (1 - (i - x / 256)) * (if x % 256 < 256 then (x % 256 + i) % 256 else 0) = if i < x / 256 + 1 then (x % 256 + i) % 256 else 0
  rw [if_pos hx]
  split
  · rw [show 1 - (i - x / 256) = 1 by omega, Nat.one_mul]
  · rw [show 1 - (i - x / 256) = 0 by omega, Nat.zero_mul]
theorem pay_eq (ho : o = lan (fun _ => 1) 256) (n p q k : Nat) (hk : k < 12) : payN o q (4 * k) = pk 12288 fun i => vW (block1 (bdC n p q i)) (k + 2) := by
  cases q with
  | zero =>
    show wrdN (shtN o (4 * k)) (shtN o (4 * k + 1)) (shtN o (4 * k + 2)) (shtN o (4 * k + 3)) = _
    rw [sht_eq ho _ (by omega), sht_eq ho _ (by omega), sht_eq ho _ (by omega), sht_eq ho _ (by omega), wrd_lan, pk]
    refine lan_congr fun i _ => ?_
    rw [bdC, wordP n p _ _ k hk, Nat.mul_zero, Nat.zero_add]
  | succ q =>
    show Nat.mul (vec 16384 (fun _ => 1) 48) (wrdN (bytN o (4 * k)) (bytN o (4 * k + 1)) (bytN o (4 * k + 2)) (bytN o (4 * k + 3))) = _
    rw [byt_eq ho _ (by omega), byt_eq ho _ (by omega), byt_eq ho _ (by omega), byt_eq ho _ (by omega), wrd_lan, out48, pk]
    refine lan_congr fun i _ => ?_
    have hx : i % 256 < 256 := Nat.mod_lt _ (by decide)
    rw [bdC, wordP n p _ _ k hk, Nat.one_mul]
    simp only [bt, if_pos hx]
    rw [if_pos (by omega), if_pos (by omega), if_pos (by omega), if_pos (by omega)]
theorem w1_eq (ho : o = lan (fun _ => 1) 256) (n p q : Nat) (hp : p < 256) (hq : q < 1000) : w1N o p q = pk 12288 fun i => vW (block1 (bdC n p q i)) 1 := by
  rw [w1N, ho, out48, pk]
  refine lan_congr fun i hi => ?_
  rw [bdC, word1 n hp (by omega), Nat.mul_one]
  rfl
theorem h_eq (hO : O = lan (fun _ => 1) 12288) (hM : M = msk 12288) (ho : o = lan (fun _ => 1) 256) (p q n : Nat) (hp : p < 256) (hq : q < 1000) (hn : n < 256) : hN O M o p q n = pk 12288 fun i => H1 (bdC n p q i) := by
  obtain ⟨V, hV⟩ : ∃ V : Nat → Nat → W32, ∀ t i, V t i = vW (block1 (bdC n p q i)) t := ⟨_, fun _ _ => rfl⟩
  have fV : ∀ t, (fun i => vW (block1 (bdC n p q i)) t) = V t := fun t => funext fun i => (hV t i).symm
  have e0 : Nat.mul O (Nat.mul n 16777216) = pk 12288 (V 0) := by
    refine (onesC hO _).trans (lan_congr fun i _ => ?_)
    rw [hV]
    exact (word0 hn ..).symm
  have e14 : Nat.mul O 2147483648 = pk 12288 (V 14) := by
    refine (onesC hO _).trans (lan_congr fun i _ => ?_)
    rw [hV]
    exact (word14 ..).symm
  have e15 : pk 12288 (V 15) = 0 := by
    refine Eq.trans (lan_congr (g := fun _ => 0) fun i _ => ?_) ((onesC hO 0).symm.trans (Nat.mul_zero O))
    rw [hV]
    exact word15 ..
  have e1 : w1N o p q = pk 12288 (V 1) := by rw [w1_eq ho n p q hp hq, fV]
  have f : ∀ k, k < 12 → payN o q (4 * k) = pk 12288 (V (k + 2)) := fun k hk => by rw [pay_eq ho n p q k hk, fV]
  have f0 : payN o q 0 = pk 12288 (V 2) := f 0 (by decide)
  have f1 : payN o q 4 = pk 12288 (V 3) := f 1 (by decide)
  have f2 : payN o q 8 = pk 12288 (V 4) := f 2 (by decide)
  have f3 : payN o q 12 = pk 12288 (V 5) := f 3 (by decide)
  have f4 : payN o q 16 = pk 12288 (V 6) := f 4 (by decide)
  have f5 : payN o q 20 = pk 12288 (V 7) := f 5 (by decide)
  have f6 : payN o q 24 = pk 12288 (V 8) := f 6 (by decide)
  have f7 : payN o q 28 = pk 12288 (V 9) := f 7 (by decide)
  have f8 : payN o q 32 = pk 12288 (V 10) := f 8 (by decide)
  have f9 : payN o q 36 = pk 12288 (V 11) := f 9 (by decide)
  have f10 : payN o q 40 = pk 12288 (V 12) := f 10 (by decide)
  have f11 : payN o q 44 = pk 12288 (V 13) := f 11 (by decide)
  have key := hash_eq 12288 (bdC n p q) V hV
  rw [e15, ones_eq, ← hO, ← hM] at key
  rw [hN, e0, e14, e1, f0, f1, f2, f3, f4, f5, f6, f7, f8, f9, f10, f11]
  exact key
theorem ne_sound (hO : O = lan (fun _ => 1) 12288) (hM : M = msk 12288) {u v : Nat → W32} (h : neN O M (pk 12288 u) (pk 12288 v) = true) (i : Nat) (hi : i < 12288) : u i ≠ v i := by
  intro e
  have h1 := Nat.eq_of_beq_eq_true h
  have e1 : Nat.mul O 4294967296 = lan (fun _ => 4294967296) 12288 := onesC hO _
  have e2 : Nat.add (Nat.xor (pk 12288 u) (pk 12288 v)) M = lan (fun i => (u i ^^^ v i).toNat + 4294967295) 12288 := by
    rw [hM]
    refine (congrArg (fun x => Nat.add x (msk 12288)) (xor_pk 12288 u v)).trans ?_
    rw [nadd, pk, msk, lan_add]
  rw [e1, e2] at h1
  have b1 : ∀ i, (u i ^^^ v i).toNat + 4294967295 < 2 ^ 64 := fun i => by have := (u i ^^^ v i).isLt; omega
  have h2 : lan (fun i => (u i ^^^ v i).toNat + 4294967295 &&& 4294967296) 12288 = lan (fun _ => 4294967296) 12288 := (lan_and b1 (fun _ => by decide) 12288).symm.trans h1
  have h3 := lan_inj (fun i => Nat.and_lt_two_pow _ (by decide)) (fun _ => by decide) h2 hi
  rw [e, BitVec.xor_self] at h3
  exact absurd h3 (by decide)
theorem chkN_sound (hO : O = lan (fun _ => 1) 12288) (hM : M = msk 12288) (ho : o = lan (fun _ => 1) 256) {p q : Nat} (hp : p < 256) (hq : q < 1000) (h : chkN O M o p q = true) {j s : Nat} (hj : j < 48) (hs : s < 256) : ∀ x ∈ pairL, 2 * (p + (q + 1)) + x.2 ≤ 202 → H1 (bdB x.1 p (48 * q + (j + 1)) s) ≠ H1 (bdB x.2 p (48 * q + (j + 1)) s) := by
  have hi : 256 * j + s < 12288 := by omega
  have e : ∀ n, bdC n p q (256 * j + s) = bdB n p (48 * q + (j + 1)) s := fun n => by
    rw [bdC, show (256 * j + s) / 256 = j by omega, show (256 * j + s) % 256 = s by omega]
  have one : ∀ a b, a < 256 → b < 256 → (Nat.ble 203 (Nat.add (Nat.mul 2 (Nat.add p (Nat.add q 1))) b) || neN O M (hN O M o p q a) (hN O M o p q b)) = true → 2 * (p + (q + 1)) + b ≤ 202 → H1 (bdB a p (48 * q + (j + 1)) s) ≠ H1 (bdB b p (48 * q + (j + 1)) s) := fun a b ha hb hn hle => by
    have hf : Nat.ble 203 (Nat.add (Nat.mul 2 (Nat.add p (Nat.add q 1))) b) = false := by
      cases hx : Nat.ble 203 (Nat.add (Nat.mul 2 (Nat.add p (Nat.add q 1))) b) with
      | false => rfl
      | true =>
        have h3 : 203 ≤ 2 * (p + (q + 1)) + b := Nat.le_of_ble_eq_true hx
        omega
    rw [hf, Bool.false_or] at hn
    rw [h_eq hO hM ho p q a hp hq ha, h_eq hO hM ho p q b hp hq hb] at hn
    have := ne_sound hO hM hn _ hi
    rwa [e, e] at this
  unfold chkN at h
  simp only [Bool.and_eq_true] at h
  intro x hx
  simp only [pairL, List.mem_cons, List.not_mem_nil, or_false] at hx
  obtain ⟨c0, c1, c2, c3, c4, c5, c6, c7, c8, c9, c10, c11, c12, c13, c14, c15, c16, c17⟩ := h
  rcases hx with rfl | rfl | rfl | rfl | rfl | rfl | rfl | rfl | rfl | rfl | rfl | rfl | rfl | rfl | rfl | rfl | rfl | rfl
  · exact one 1 3 (by decide) (by decide) c0
  · exact one 1 5 (by decide) (by decide) c1
  · exact one 1 9 (by decide) (by decide) c2
  · exact one 2 3 (by decide) (by decide) c3
  · exact one 2 6 (by decide) (by decide) c4
  · exact one 2 10 (by decide) (by decide) c5
  · exact one 3 7 (by decide) (by decide) c6
  · exact one 3 11 (by decide) (by decide) c7
  · exact one 4 5 (by decide) (by decide) c8
  · exact one 4 6 (by decide) (by decide) c9
  · exact one 4 12 (by decide) (by decide) c10
  · exact one 5 7 (by decide) (by decide) c11
  · exact one 6 7 (by decide) (by decide) c12
  · exact one 8 9 (by decide) (by decide) c13
  · exact one 8 10 (by decide) (by decide) c14
  · exact one 8 12 (by decide) (by decide) c15
  · exact one 9 11 (by decide) (by decide) c16
  · exact one 10 11 (by decide) (by decide) c17
end
theorem msk_ones (n : Nat) : Nat.mul (ones n) 4294967295 = msk n := ones_mul n 4294967295
theorem chk_sound {p q : Nat} (hp : p < 256) (hq : q < 1000) (h : chk p q = true) {j s : Nat} (hj : j < 48) (hs : s < 256) : ∀ x ∈ pairL, 2 * (p + (q + 1)) + x.2 ≤ 202 → H1 (bdB x.1 p (48 * q + (j + 1)) s) ≠ H1 (bdB x.2 p (48 * q + (j + 1)) s) := by
  have h1 := ones_eq 12288
  have h2 := msk_ones 12288
  have h3 := ones_eq 256
  unfold chk at h
  exact chkN_sound h1 h2 h3 hp hq h hj hs
end Go.Proofs.YtddpjahoeldleaaGreatDoor.Hs

/-! all chunks -/
namespace Go.Proofs.YtddpjahoeldleaaGreatDoor.Hs
abbrev C (p q : Nat) : Prop := chk p q = true
def UpTo (p n : Nat) : Prop := ∀ q, q < n → C p q
theorem UpTo.z {p : Nat} : UpTo p 0 := fun _ h => absurd h (Nat.not_lt_zero _)
theorem UpTo.s {p n : Nat} (h : UpTo p n) (c : C p n) : UpTo p (n + 1) := fun q hq => by
  by_cases e : q = n
  · rw [e]; exact c
  · exact h q (by omega)
/-- the last chunk of each part -/
def Parts (n : Nat) : Prop := ∀ p, p < n → UpTo p (99 - p)
theorem Parts.z : Parts 0 := fun _ h => absurd h (Nat.not_lt_zero _)
theorem Parts.s {n : Nat} (h : Parts n) (c : UpTo n (99 - n)) : Parts (n + 1) := fun q hq => by
  by_cases e : q = n
  · rw [e]; exact c
  · exact h q (by omega)
theorem nil_ne : ∀ x ∈ pairL, H1 (bdB x.1 0 0 0) ≠ H1 (bdB x.2 0 0 0) := by decide +kernel
theorem pay_mod (left s : Nat) : payB left s = payB left (s % 256) := by
  unfold payB
  refine List.map_congr_left fun i _ => ?_
  apply UInt8.toNat_inj.1
  rw [UInt8.toNat_ofNat', UInt8.toNat_ofNat']
  omega
theorem pay_zero (s t : Nat) : payB 0 s = payB 0 t := rfl
/-- no two records of the same text, with numbers that differ in one bit, have a sector whose hash has the same second word -/
theorem no_coll (h : Parts 99) {p left s : Nat} (hp : left = 0 → p = 0) (x : Nat × Nat) (hx : x ∈ pairL) (hn : 2 * (p + max 1 ((left + 47) / 48)) + x.2 ≤ 202) : H1 (bdB x.1 p left s) ≠ H1 (bdB x.2 p left s) := by
  have h3 : 3 ≤ x.2 := by
    have : ∀ x ∈ pairL, 3 ≤ x.2 := by decide
    exact this x hx
  by_cases h0 : left = 0
  · subst h0
    have e : ∀ n, bdB n p 0 s = bdB n 0 0 0 := fun n => by rw [bdB, bdB, hp rfl, pay_zero s 0]
    rw [e, e]
    exact nil_ne x hx
  · have e : ∀ n, bdB n p left s = bdB n p (48 * ((left - 1) / 48) + ((left - 1) % 48 + 1)) (s % 256) := fun n => by
      rw [bdB, bdB, pay_mod, show 48 * ((left - 1) / 48) + ((left - 1) % 48 + 1) = left by omega]
    rw [e, e]
    have hq : (left + 47) / 48 = (left - 1) / 48 + 1 := by omega
    exact chk_sound (by omega) (by omega) (h p (by omega) _ (by omega)) (Nat.mod_lt _ (by decide)) (Nat.mod_lt _ (by decide)) x hx (by omega)
end Go.Proofs.YtddpjahoeldleaaGreatDoor.Hs
