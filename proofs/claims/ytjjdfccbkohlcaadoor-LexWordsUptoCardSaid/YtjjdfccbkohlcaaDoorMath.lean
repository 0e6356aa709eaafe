/- The plain law of the lexer: what stands in a text, as a function on lists of bytes; no program in sight. -/
namespace Go.Proofs.YtjjdfccbkohlcaaDoor.Lx

abbrev Bs := List UInt8

def isL (c : UInt8) : Bool := (97 ≤ c && c ≤ 122) || (65 ≤ c && c ≤ 90)
def isD (c : UInt8) : Bool := 48 ≤ c && c ≤ 57
def isE (c : UInt8) : Bool := isL c || isD c

/-- the same of a number -/
def isLI (n : Int) : Bool := decide (97 ≤ n ∧ n ≤ 122 ∨ 65 ≤ n ∧ n ≤ 90)
def isDI (n : Int) : Bool := decide (48 ≤ n ∧ n ≤ 57)
theorem isLI_eq (c : UInt8) : isLI (c.toNat : Int) = isL c := by
  rw [isLI, isL, Bool.eq_iff_iff]
  simp [UInt8.le_iff_toNat_le]
  omega
theorem isDI_eq (c : UInt8) : isDI (c.toNat : Int) = isD c := by
  rw [isDI, isD, Bool.eq_iff_iff]
  simp [UInt8.le_iff_toNat_le]
  omega

/-- how many bytes of blanks a text begins with; the flag: inside a comment -/
def skipN : Bool → Bs → Nat
  | _, [] => 0
  | cm, x :: r => if x = 10 then skipN false r + 1 else if x = 35 then skipN true r + 1 else if x = 32 || cm then skipN cm r + 1 else 0

def runN (p : UInt8 → Bool) : Bs → Nat
  | [] => 0
  | x :: r => if p x then runN p r + 1 else 0

def single (c : UInt8) : Bool := [40, 41, 123, 125, 91, 93, 44, 58, 46, 61, 43, 45, 42, 47, 37, 60].contains c

def double (x y : UInt8) : Bool := (x == 61 && y == 61) || (x == 45 && y == 62)

def signN : Bs → Nat
  | [] => 0
  | [x] => if single x then 1 else 0
  | x :: y :: _ => if double x y then 2 else if single x then 1 else 0

def tokN : Bs → Nat
  | [] => 0
  | x :: r =>
    if isL x then (if 16 < runN isE r + 1 then 0 else runN isE r + 1)
    else if isD x then (if 16 < runN isD r + 1 then 0 else runN isD r + 1)
    else signN (x :: r)

structure Tok where
  text : Bs
  before : Bs
  deriving DecidableEq

abbrev Res := Except Nat (List Tok × Bs)

/-- a result behind some tokens that were read before, 'at' bytes further -/
def after (acc : List Tok) (n : Nat) : Res → Res
  | .ok (ts, e) => .ok (acc ++ ts, e)
  | .error m => .error (n + m)

def scanF : Nat → Bs → Res
  | 0, _ => .error 0
  | f + 1, l =>
    if skipN false l = l.length then .ok ([], l)
    else if tokN (l.drop (skipN false l)) = 0 then .error (skipN false l)
    else after [⟨(l.drop (skipN false l)).take (tokN (l.drop (skipN false l))), l.take (skipN false l)⟩] (skipN false l + tokN (l.drop (skipN false l)))
      (scanF f (l.drop (skipN false l + tokN (l.drop (skipN false l)))))

def scan (l : Bs) : Res := scanF (l.length + 1) l

theorem skipN_le : ∀ (cm : Bool) (l : Bs), skipN cm l ≤ l.length
  | _, [] => by simp [skipN]
  | cm, x :: r => by
    have h1 := skipN_le false r
    have h2 := skipN_le true r
    have h3 := skipN_le cm r
    simp only [skipN, List.length_cons]
    split
    · omega
    · split
      · omega
      · split <;> omega

theorem runN_le (p : UInt8 → Bool) : ∀ l : Bs, runN p l ≤ l.length
  | [] => by simp [runN]
  | x :: r => by
    have h1 := runN_le p r
    simp only [runN, List.length_cons]
    split <;> omega

theorem signN_le : ∀ l : Bs, signN l ≤ l.length
  | [] => by simp [signN]
  | [x] => by simp only [signN, List.length_cons, List.length_nil]; split <;> omega
  | x :: y :: r => by simp only [signN, List.length_cons]; split <;> (try split) <;> omega

theorem tokN_le : ∀ l : Bs, tokN l ≤ l.length
  | [] => by simp [tokN]
  | x :: r => by
    have h1 := runN_le isE r
    have h2 := runN_le isD r
    have h3 := signN_le (x :: r)
    simp only [tokN]
    simp only [List.length_cons] at *
    repeat' split
    all_goals omega

theorem tokN_le16 : ∀ l : Bs, tokN l ≤ 16
  | [] => by simp [tokN]
  | [x] => by simp only [tokN, signN]; repeat' split
              all_goals omega
  | x :: y :: r => by
    simp only [tokN, signN]
    repeat' split
    all_goals omega

/-- with fuel enough the fuel does not matter -/
theorem scanF_fuel : ∀ (f g : Nat) (l : Bs), l.length < f → l.length < g → scanF f l = scanF g l
  | 0, _, l, h, _ => absurd h (by omega)
  | _ + 1, 0, l, _, h => absurd h (by omega)
  | f + 1, g + 1, l, hf, hg => by
    simp only [scanF]
    by_cases h1 : skipN false l = l.length
    · rw [if_pos h1, if_pos h1]
    · rw [if_neg h1, if_neg h1]
      by_cases h2 : tokN (l.drop (skipN false l)) = 0
      · rw [if_pos h2, if_pos h2]
      · rw [if_neg h2, if_neg h2]
        have hs := skipN_le false l
        rw [scanF_fuel f g _ (by rw [List.length_drop]; omega) (by rw [List.length_drop]; omega)]

theorem scan_eq (l : Bs) : scan l =
    if skipN false l = l.length then .ok ([], l)
    else if tokN (l.drop (skipN false l)) = 0 then .error (skipN false l)
    else after [⟨(l.drop (skipN false l)).take (tokN (l.drop (skipN false l))), l.take (skipN false l)⟩] (skipN false l + tokN (l.drop (skipN false l)))
      (scan (l.drop (skipN false l + tokN (l.drop (skipN false l))))) := by
  rw [scan, scanF]
  by_cases h1 : skipN false l = l.length
  · rw [if_pos h1, if_pos h1]
  · rw [if_neg h1, if_neg h1]
    by_cases h2 : tokN (l.drop (skipN false l)) = 0
    · rw [if_pos h2, if_pos h2]
    · rw [if_neg h2, if_neg h2]
      have hs := skipN_le false l
      rw [scan, scanF_fuel l.length ((l.drop (skipN false l + tokN (l.drop (skipN false l)))).length + 1) _ (by rw [List.length_drop]; omega) (by omega)]

theorem scan_end {l : Bs} (h : skipN false l = l.length) : scan l = .ok ([], l) := by rw [scan_eq, if_pos h]
theorem scan_bad {l : Bs} (h : skipN false l < l.length) (h0 : tokN (l.drop (skipN false l)) = 0) : scan l = .error (skipN false l) := by
  rw [scan_eq, if_neg (by omega), if_pos h0]
theorem scan_step {l : Bs} (h : skipN false l < l.length) (h0 : tokN (l.drop (skipN false l)) ≠ 0) :
    scan l = after [⟨(l.drop (skipN false l)).take (tokN (l.drop (skipN false l))), l.take (skipN false l)⟩] (skipN false l + tokN (l.drop (skipN false l)))
      (scan (l.drop (skipN false l + tokN (l.drop (skipN false l))))) := by
  rw [scan_eq, if_neg (by omega), if_neg h0]

theorem after_after (a b : List Tok) (n m : Nat) (x : Res) : after a n (after b m x) = after (a ++ b) (n + m) x := by
  cases x with
  | ok p => obtain ⟨ts, e⟩ := p; simp [after]
  | error k => simp [after, Nat.add_assoc]

theorem after_nil (x : Res) : after [] 0 x = x := by
  cases x with
  | ok p => obtain ⟨ts, e⟩ := p; simp [after]
  | error k => simp [after]

/-- what Scan returns -/
def scanT (l : Bs) : List Tok × Bs × Int :=
  if 8192 < l.length then ([], [], 8192) else match scan l with
    | .ok (ts, e) => (ts, e, -1)
    | .error n => ([], [], n)


theorem skipN_drop {l : Bs} {k : Nat} {x : UInt8} (h : l[k]? = some x) (cm : Bool) :
    skipN cm (l.drop k) = if x = 10 then skipN false (l.drop (k + 1)) + 1 else if x = 35 then skipN true (l.drop (k + 1)) + 1 else if x = 32 || cm then skipN cm (l.drop (k + 1)) + 1 else 0 := by
  obtain ⟨hk, hx⟩ := List.getElem?_eq_some_iff.1 h
  rw [List.drop_eq_getElem_cons hk, hx, skipN]
theorem skipN_nil {l : Bs} {k : Nat} (h : l.length ≤ k) (cm : Bool) : skipN cm (l.drop k) = 0 := by
  rw [List.drop_eq_nil_of_le h, skipN]

/-- a comment goes on to the line end -/
theorem skipN_true_none : ∀ (l : Bs), (∀ k : Nat, l[k]? ≠ some 10) → skipN true l = l.length
  | [], _ => by simp [skipN]
  | x :: r, h => by
    have hx : x ≠ 10 := fun e => h 0 (by simp [e])
    have hr := skipN_true_none r (fun k => by simpa using h (k + 1))
    simp only [skipN, List.length_cons, if_neg hx]
    split <;> simp [hr]
theorem skipN_true_some : ∀ (l : Bs) (n : Nat), l[n]? = some 10 → (∀ k : Nat, k < n → l[k]? ≠ some 10) → skipN true l = n + skipN false (l.drop n)
  | [], n, h, _ => by simp at h
  | x :: r, 0, h, _ => by
    have hx : x = 10 := by simpa using h
    subst hx
    simp [skipN]
  | x :: r, n + 1, h, hk => by
    have hx : x ≠ 10 := fun e => hk 0 (by omega) (by simp [e])
    have hr := skipN_true_some r n (by simpa using h) (fun k hkn => by simpa using hk (k + 1) (by omega))
    simp only [skipN, if_neg hx, List.drop_succ_cons]
    split
    · rw [hr]; omega
    · simp [hr]; omega

def signsL : List Bs := [[61, 61], [45, 62], [40], [41], [123], [125], [91], [93], [44], [58], [46], [61], [43], [45], [42], [47], [37], [60]]
/-- the length of the first of some texts that begins a text -/
def sgn : List Bs → Bs → Nat
  | [], _ => 0
  | x :: r, l => if x.isPrefixOf l then x.length else sgn r l
theorem sgn_step {k : Nat} (h : k < signsL.length) (l : Bs) : sgn (signsL.drop k) l = if (signsL.getD k []).isPrefixOf l then (signsL.getD k []).length else sgn (signsL.drop (k + 1)) l := by
  rw [List.drop_eq_getElem_cons h, sgn, List.getD_eq_getElem?_getD, List.getElem?_eq_getElem h, Option.getD_some]
theorem pre1 (a x : UInt8) (r : Bs) : ([a] : Bs).isPrefixOf (x :: r) = (a == x) := by simp [List.isPrefixOf]
theorem pre2 (a b x : UInt8) (r : Bs) : ([a, b] : Bs).isPrefixOf (x :: r) = (a == x && ([b] : Bs).isPrefixOf r) := by simp [List.isPrefixOf]
theorem pre2' (a b x y : UInt8) (r : Bs) : ([a, b] : Bs).isPrefixOf (x :: y :: r) = (a == x && b == y) := by simp [List.isPrefixOf]
theorem pre2s (a b x : UInt8) : ([a, b] : Bs).isPrefixOf [x] = false := by simp [List.isPrefixOf]
theorem sgn_singles (x : UInt8) (r : Bs) : ∀ cs : List UInt8, sgn (cs.map fun c => [c]) (x :: r) = if cs.contains x then 1 else 0
  | [] => by simp [sgn]
  | c :: cs => by
    have ih := sgn_singles x r cs
    simp only [List.map_cons, sgn, pre1, ih, List.contains_cons, List.length_cons, List.length_nil]
    by_cases e : c = x
    · subst e; simp
    · have e' : x ≠ c := fun h => e h.symm
      simp [beq_eq_false_iff_ne.2 e, beq_eq_false_iff_ne.2 e']
theorem sgn_eq (l : Bs) : sgn signsL l = signN l := by
  have hs : signsL = [61, 61] :: [45, 62] :: ([40, 41, 123, 125, 91, 93, 44, 58, 46, 61, 43, 45, 42, 47, 37, 60] : List UInt8).map fun c => [c] := rfl
  match l with
  | [] => rfl
  | [x] =>
    rw [hs, sgn, sgn, pre2s, pre2s, sgn_singles]
    simp only [signN, single, Bool.false_eq_true, if_false]
    split <;> simp_all
  | x :: y :: r =>
    have e1 : ∀ a b : UInt8, (a == b) = (b == a) := fun a b => by rw [Bool.eq_iff_iff, beq_iff_eq, beq_iff_eq]; exact eq_comm
    have hd : double x y = ((61 == x && 61 == y) || (45 == x && 62 == y)) := by rw [double, e1 x 61, e1 y 61, e1 x 45, e1 y 62]
    have hc : single x = ([40, 41, 123, 125, 91, 93, 44, 58, 46, 61, 43, 45, 42, 47, 37, 60] : List UInt8).contains x := rfl
    rw [hs, sgn, sgn, pre2', pre2', sgn_singles, signN, hd, ← hc]
    generalize (61 == x && 61 == y) = p
    generalize (45 == x && 62 == y) = q
    cases p <;> cases q <;> rfl
end Go.Proofs.YtjjdfccbkohlcaaDoor.Lx
