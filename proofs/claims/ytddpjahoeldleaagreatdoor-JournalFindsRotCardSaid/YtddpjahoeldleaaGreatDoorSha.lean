/- SHA-256 of 56 bytes, on words of 32 bits; the sectors of a record: plain law. -/
namespace Go.Proofs.YtddpjahoeldleaaGreatDoor

abbrev Bs := List UInt8
abbrev W32 := BitVec 32
def rotr (x : W32) (n : Nat) : W32 := (x >>> n) ||| (x <<< (32 - n))
def bigS0 (x : W32) : W32 := rotr x 2 ^^^ rotr x 13 ^^^ rotr x 22
def bigS1 (x : W32) : W32 := rotr x 6 ^^^ rotr x 11 ^^^ rotr x 25
def smS0 (x : W32) : W32 := rotr x 7 ^^^ rotr x 18 ^^^ (x >>> 3)
def smS1 (x : W32) : W32 := rotr x 17 ^^^ rotr x 19 ^^^ (x >>> 10)
def chF (e f g : W32) : W32 := (e &&& f) ^^^ ((e ^^^ 0xffffffff) &&& g)
def majF (a b c : W32) : W32 := (a &&& b) ^^^ (a &&& c) ^^^ (b &&& c)
/-- the round constants -/
def kNat : List Nat := [
  0x428a2f98, 0x71374491, 0xb5c0fbcf, 0xe9b5dba5, 0x3956c25b, 0x59f111f1, 0x923f82a4, 0xab1c5ed5,
  0xd807aa98, 0x12835b01, 0x243185be, 0x550c7dc3, 0x72be5d74, 0x80deb1fe, 0x9bdc06a7, 0xc19bf174,
  0xe49b69c1, 0xefbe4786, 0x0fc19dc6, 0x240ca1cc, 0x2de92c6f, 0x4a7484aa, 0x5cb0a9dc, 0x76f988da,
  0x983e5152, 0xa831c66d, 0xb00327c8, 0xbf597fc7, 0xc6e00bf3, 0xd5a79147, 0x06ca6351, 0x14292967,
  0x27b70a85, 0x2e1b2138, 0x4d2c6dfc, 0x53380d13, 0x650a7354, 0x766a0abb, 0x81c2c92e, 0x92722c85,
  0xa2bfe8a1, 0xa81a664b, 0xc24b8b70, 0xc76c51a3, 0xd192e819, 0xd6990624, 0xf40e3585, 0x106aa070,
  0x19a4c116, 0x1e376c08, 0x2748774c, 0x34b0bcb5, 0x391c0cb3, 0x4ed8aa4a, 0x5b9cca4f, 0x682e6ff3,
  0x748f82ee, 0x78a5636f, 0x84c87814, 0x8cc70208, 0x90befffa, 0xa4506ceb, 0xbef9a3f7, 0xc67178f2]
def kW (t : Nat) : W32 := BitVec.ofNat 32 (kNat.getD t 0)
def byteN (b : Bs) (i : Nat) : Nat := (b.getD i 0).toNat
/-- word t of a block -/
def wordAt (b : Bs) (t : Nat) : W32 := BitVec.ofNat 32 (((byteN b (4 * t) * 256 + byteN b (4 * t + 1)) * 256 + byteN b (4 * t + 2)) * 256 + byteN b (4 * t + 3))
def nextW (b : Bs) (l : List W32) (t : Nat) : W32 :=
  if t < 16 then wordAt b t else l.getD (t - 16) 0 + smS0 (l.getD (t - 15) 0) + l.getD (t - 7) 0 + smS1 (l.getD (t - 2) 0)
def schedS (b : Bs) (l : List W32) (t : Nat) : List W32 := l ++ [nextW b l t]
/-- the first t words of the schedule of a block -/
def schedL (b : Bs) : Nat → List W32
  | 0 => []
  | t + 1 => schedS b (schedL b t) t
theorem sched_len (b : Bs) : ∀ t, (schedL b t).length = t
  | 0 => rfl
  | t + 1 => by rw [schedL, schedS, List.length_append, sched_len b t]; rfl
structure Reg where
  a : W32
  b : W32
  c : W32
  d : W32
  e : W32
  f : W32
  g : W32
  h : W32
def Reg.round (s : Reg) (k w : W32) : Reg :=
  let x := s.h + bigS1 s.e + chF s.e s.f s.g + k + w
  let y := bigS0 s.a + majF s.a s.b s.c
  ⟨x + y, s.a, s.b, s.c, s.d + x, s.e, s.f, s.g⟩
def Reg.rounds (w : List W32) (s : Reg) : Nat → Reg
  | 0 => s
  | t + 1 => (Reg.rounds w s t).round (kW t) (w.getD t 0)
def Reg.plus (s r : Reg) : Reg := ⟨s.a + r.a, s.b + r.b, s.c + r.c, s.d + r.d, s.e + r.e, s.f + r.f, s.g + r.g, s.h + r.h⟩
def Reg.compress (s : Reg) (b : Bs) : Reg := s.plus (Reg.rounds (schedL b 64) s 64)
def Reg.words (s : Reg) : List W32 := [s.a, s.b, s.c, s.d, s.e, s.f, s.g, s.h]
def byteW (x : W32) (n : Nat) : UInt8 := UInt8.ofNat (x.toNat / 2 ^ n % 256)
def Reg.bytes (s : Reg) : Bs := s.words.flatMap fun x => [byteW x 24, byteW x 16, byteW x 8, byteW x 0]
def iv : Reg := ⟨0x6a09e667, 0xbb67ae85, 0x3c6ef372, 0xa54ff53a, 0x510e527f, 0x9b05688c, 0x1f83d9ab, 0x5be0cd19⟩
def block1 (b : Bs) : Bs := b ++ [128, 0, 0, 0, 0, 0, 0, 0]
def block2 : Bs := List.replicate 62 0 ++ [1, 192]
/-- the hash of 56 bytes -/
def sha56 (b : Bs) : Bs := ((iv.compress (block1 b)).compress block2).bytes
theorem sha_len (b : Bs) : (sha56 b).length = 32 := rfl

/-! the sectors of a record -/
def leN (n : Nat) : Nat → Bs
  | 0 => []
  | k + 1 => UInt8.ofNat (n % 256) :: leN (n / 256) k
def numB : Bs → Nat
  | [] => 0
  | x :: r => x.toNat + 256 * numB r
def bodyB (number k : Nat) (rest : Bs) : Bs := leN number 4 ++ leN k 2 ++ leN rest.length 2 ++ (rest.take 48 ++ List.replicate (48 - rest.length) 0)
def checkedB (b : Bs) : Bs := b ++ (sha56 b).take 8
def countN (n : Nat) : Nat := if 8000 < n then 0 else if n = 0 then 1 else (n + 47) / 48
def countI (n : Int) : Nat := if n < 0 then 0 else countN n.toNat
def sectB (number : Nat) (text : Bs) (k : Nat) : Bs := checkedB (bodyB number k (text.drop (48 * k)))
def packB (number : Nat) (text : Bs) : List Bs := (List.range (countN text.length)).map (sectB number text)
structure PartV where
  number : Nat
  part : Nat
  left : Nat
  payload : Bs
  ok : Bool
def noPart : PartV := ⟨0, 0, 0, [], false⟩
def goodB (s : Bs) (number part left : Nat) : Bool :=
  decide (checkedB (s.take 56) = s) && (decide (1 ≤ number) && (decide (number ≤ 4096) && (decide (48 * part + left ≤ 8000) && ((decide (1 ≤ left) || decide (part = 0)) && (((s.take 56).drop (8 + min left 48)).all (· == 0))))))
def unpackB (s : Bs) : PartV :=
  if s.length = 64 ∧ goodB s (numB (s.take 4)) (numB ((s.drop 4).take 2)) (numB ((s.drop 6).take 2)) = true then
    ⟨numB (s.take 4), numB ((s.drop 4).take 2), numB ((s.drop 6).take 2), (s.drop 8).take (min (numB ((s.drop 6).take 2)) 48), true⟩
  else noPart
theorem le_len : ∀ (k n : Nat), (leN n k).length = k
  | 0, _ => rfl
  | k + 1, n => by rw [leN, List.length_cons, le_len k]
theorem num_le : ∀ (k n : Nat), n < 256 ^ k → numB (leN n k) = n
  | 0, n, h => by simp at h; simp [leN, numB, h]
  | k + 1, n, h => by
    rw [leN, numB, num_le k (n / 256) (by rw [Nat.pow_succ] at h; exact Nat.div_lt_of_lt_mul (by rw [Nat.mul_comm]; exact h)), UInt8.toNat_ofNat']
    omega
theorem body_len (number k : Nat) (rest : Bs) : (bodyB number k rest).length = 56 := by
  simp only [bodyB, List.length_append, le_len, List.length_take, List.length_replicate]
  omega
theorem sect_len (number : Nat) (text : Bs) (k : Nat) : (sectB number text k).length = 64 := by
  rw [sectB, checkedB, List.length_append, body_len, List.length_take, sha_len]; rfl
/-- a sector of a record reads as it was made -/
theorem unpack_sect {number k : Nat} {text : Bs} (h1 : 1 ≤ number) (h2 : number ≤ 4096) (h3 : text.length ≤ 8000) (hk : k < countN text.length) :
    unpackB (sectB number text k) = ⟨number, k, text.length - 48 * k, (text.drop (48 * k)).take 48, true⟩ := by
  have hc : 48 * k ≤ text.length ∧ (48 * k < text.length ∨ k = 0) := by
    unfold countN at hk
    rw [if_neg (by omega)] at hk
    split at hk <;> omega
  obtain ⟨rest, hrest⟩ : ∃ rest, rest = text.drop (48 * k) := ⟨_, rfl⟩
  have hl : rest.length = text.length - 48 * k := by rw [hrest, List.length_drop]
  have hb := body_len number k rest
  have hs : sectB number text k = bodyB number k rest ++ (sha56 (bodyB number k rest)).take 8 := by rw [sectB, checkedB, hrest]
  have t56 : (sectB number text k).take 56 = bodyB number k rest := by rw [hs]; exact List.take_left' hb
  have e1 : (sectB number text k).take 4 = leN number 4 := by
    rw [hs, bodyB, List.append_assoc, List.append_assoc, List.append_assoc]
    exact List.take_left' (le_len 4 number)
  have d4 : (sectB number text k).drop 4 = leN k 2 ++ (leN rest.length 2 ++ ((rest.take 48 ++ List.replicate (48 - rest.length) 0) ++ (sha56 (bodyB number k rest)).take 8)) := by
    rw [hs]
    conv => lhs; rw [bodyB, List.append_assoc, List.append_assoc, List.append_assoc]
    exact List.drop_left' (le_len 4 number)
  have e2 : ((sectB number text k).drop 4).take 2 = leN k 2 := by rw [d4]; exact List.take_left' (le_len 2 k)
  have d6 : (sectB number text k).drop 6 = leN rest.length 2 ++ ((rest.take 48 ++ List.replicate (48 - rest.length) 0) ++ (sha56 (bodyB number k rest)).take 8) := by
    rw [show 6 = 4 + 2 from rfl, ← List.drop_drop, d4]; exact List.drop_left' (le_len 2 k)
  have e3 : ((sectB number text k).drop 6).take 2 = leN rest.length 2 := by rw [d6]; exact List.take_left' (le_len 2 _)
  have d8 : (sectB number text k).drop 8 = (rest.take 48 ++ List.replicate (48 - rest.length) 0) ++ (sha56 (bodyB number k rest)).take 8 := by
    rw [show 8 = 6 + 2 from rfl, ← List.drop_drop, d6]; exact List.drop_left' (le_len 2 _)
  have n1 : numB (leN number 4) = number := num_le 4 number (by omega)
  have n2 : numB (leN k 2) = k := num_le 2 k (by omega)
  have n3 : numB (leN rest.length 2) = rest.length := num_le 2 _ (by omega)
  have hpay : ((sectB number text k).drop 8).take (min rest.length 48) = rest.take 48 := by
    rw [d8, List.append_assoc]
    have hm : (rest.take 48).length = min rest.length 48 := by rw [List.length_take]; omega
    exact List.take_left' hm
  have hz : (((sectB number text k).take 56).drop (8 + min rest.length 48)).all (· == 0) = true := by
    rw [t56, bodyB]
    have e : leN number 4 ++ leN k 2 ++ leN rest.length 2 ++ (rest.take 48 ++ List.replicate (48 - rest.length) (0 : UInt8)) = (leN number 4 ++ leN k 2 ++ leN rest.length 2 ++ rest.take 48) ++ List.replicate (48 - rest.length) 0 := by simp only [List.append_assoc]
    rw [e, List.drop_left' (by simp only [List.length_append, le_len, List.length_take]; omega)]
    simp
  unfold unpackB
  rw [e1, e2, e3, n1, n2, n3, hpay]
  rw [if_pos]
  · rw [hl, hrest]
  · refine ⟨sect_len _ _ _, ?_⟩
    unfold goodB
    rw [hz, t56, decide_eq_true (show checkedB (bodyB number k rest) = sectB number text k by rw [hs, checkedB]), decide_eq_true h1, decide_eq_true h2, decide_eq_true (by omega)]
    rcases hc.2 with h | h
    · rw [decide_eq_true (p := 1 ≤ rest.length) (by omega)]; rfl
    · rw [decide_eq_true (p := k = 0) h, Bool.or_true]; rfl
end Go.Proofs.YtddpjahoeldleaaGreatDoor
