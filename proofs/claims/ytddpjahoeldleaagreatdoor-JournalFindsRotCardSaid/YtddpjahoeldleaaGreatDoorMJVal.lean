/- A record among parts; plain values of Open. -/
import Derived.Test.YtddpjahoeldleaaGreatDoorMUnpack
import Derived.Test.YtddpjahoeldleaaGreatDoorMSame
import Derived.Test.YtddpjahoeldleaaGreatDoorMDFlush
import Derived.Test.YtddpjahoeldleaaGreatDoorMJWrite

namespace Go.Proofs.YtddpjahoeldleaaGreatDoor
open Go.RowKit

theorem take_no {zs : List Int} {k : Nat} {z x : Int} (h : zs[k]? = some x) (h1 : z ∉ zs.take k) (hq : z ≠ x) : z ∉ zs.take (k + 1) := by
  obtain ⟨hk, rfl⟩ := List.getElem?_eq_some_iff.1 h
  rw [List.take_succ_eq_append_getElem hk, List.mem_append, List.mem_singleton]
  rintro (h | h)
  · exact h1 h
  · exact hq h
set_option maxHeartbeats 1000000 in
set_option maxRecDepth 100000 in
theorem index_any (A : Option Addr) (n c : Nat) (zs : List Int) (z : Int) (w : World) (h : Rd w w.heap.size 1 A n (intCells zs)) (hn : n ≤ 100000) :
    Calls Tryz.prog 78 #[.slice A n c, .int .i64 z] w (fun e w' => ∃ i : Int, e = .returned (.int .i64 i) ∧ decide (0 ≤ i) = decide (z ∈ zs) ∧ Below w.heap.size w w') := by
  have HL := Lib.hid (show zs.length = n by have := h.1; simpa [intCells] using this)
  have H := Lib.hid h
  clear h
  go_enter Tryz.func78, Tryz.ntmps78
  go_wp2_with fail
  go_loopw [5, 8] (fun _ x wr => ∃ k : Nat, k ≤ n ∧ x = .int .i64 k ∧ Hid (z ∉ zs.take k) ∧ Hid (Below w.heap.size w wr)) (fun _ x _ => n - (intOf x).toNat)
  case atStart => exact ⟨0, by omega, rfl, Lib.hid (by simp), Lib.hid (Below.refl _ _)⟩
  case round =>
    obtain ⟨k, hk, rfl, M, B⟩ := hrel
    by_cases hlt : k < n
    · obtain ⟨b1, o1, u, rfl, _, hu, x1⟩ := (H.out.below B.out).at1 hlt
      obtain ⟨x, hx⟩ : ∃ x, zs[k]? = some x := ⟨_, List.getElem?_eq_getElem (by have := HL.out; omega)⟩
      rw [intCells, List.getElem?_map, hx] at hu
      obtain rfl := (Option.some.inj hu).symm
      clear hu
      have HX := Lib.hid hx
      clear hx
      have j1 : (k : Int) < (n : Int) := by omega
      have j0 : (0 : Int) ≤ (k : Int) := by omega
      by_cases hq : z = x
      · subst hq
        have HR := Lib.hid (show z ∈ zs from List.mem_of_getElem? HX.out)
        go_wp2_with fail
        go_ret
        exact ⟨k, rfl, by rw [decide_eq_true HR.out, decide_eq_true j0], B.out⟩
      · have M2 := Lib.hid (take_no HX.out M.out hq)
        have hq' : (z == x) = false := by simpa using hq
        go_wp2_with fail
        go_roundw
        case rel => exact ⟨k + 1, by omega, by go_num, M2, B⟩
        case measure => simp [intOf]; omega
    · obtain rfl : k = n := by omega
      go_wp2_with fail
      go_ret
      exact ⟨-1, rfl, by rw [decide_eq_false (p := z ∈ zs)]; rfl; have := M.out; rwa [List.take_of_length_le (by rw [HL.out]; exact Nat.le_refl _)] at this, B.out⟩
theorem contains_any (A : Option Addr) (n c : Nat) (zs : List Int) (z : Int) (w : World) (h : Rd w w.heap.size 1 A n (intCells zs)) (hn : n ≤ 100000) (r : Bool) (hr : Hid (decide (z ∈ zs) = r)) :
    Calls Tryz.prog 47 #[.slice A n c, .int .i64 z] w (RetB (.bool r) w) := by
  have H := Lib.hid (index_any A n c zs z w h hn)
  clear h
  go_enter Tryz.func47, Tryz.ntmps47
  go_wp2_with fail
  refine H.out.mono ?_
  rintro e w' ⟨i, rfl, hi, hb⟩
  have HI := Lib.hid hi
  clear hi
  go_wp2_with fail
  go_ret
  exact RetB.bool (by rw [← hr.out, ← HI.out]) hb

/-! parts in memory -/
def partCells (ps : List PartV) : List Value := ps.flatMap fun p => (partRow p).toList
theorem partCells_cons (p : PartV) (ps : List PartV) : partCells (p :: ps) = (partRow p).toList ++ partCells ps := rfl
theorem partCells_snoc (ps : List PartV) (p : PartV) : partCells (ps ++ [p]) = partCells ps ++ (partRow p).toList := by simp [partCells]
theorem partCells_len (ps : List PartV) : (partCells ps).length = ps.length * 5 := by
  induction ps with
  | nil => rfl
  | cons p r ih => rw [partCells_cons, List.length_append, ih]; simp [partRow]; omega
theorem partCells_at (ps : List PartV) : ∀ (m j : Nat) (o : PartV), ps[m]? = some o → j < 5 → (partCells ps)[m * 5 + j]? = (partRow o)[j]? := by
  induction ps with
  | nil => intro m j o h; cases h
  | cons a os ih =>
    intro m j o h hj
    rw [partCells_cons]
    cases m with
    | zero =>
      obtain rfl : a = o := by simpa using h
      rw [Nat.zero_mul, Nat.zero_add, List.getElem?_append_left (by simp [partRow]; omega), Array.getElem?_toList]
    | succ m =>
      rw [List.getElem?_append_right (by simp [partRow]; omega), show (m + 1) * 5 + j - (partRow a).toList.length = m * 5 + j by simp [partRow]; omega]
      exact ih m j o (by simpa using h) hj
theorem partCells_drop (ps : List PartV) : ∀ k, (partCells ps).drop (k * 5) = partCells (ps.drop k) := by
  induction ps with
  | nil => intro k; cases k <;> rfl
  | cons a os ih =>
    intro k
    cases k with
    | zero => simp
    | succ k =>
      rw [partCells_cons, show (k + 1) * 5 = (partRow a).toList.length + k * 5 by simp [partRow]; omega, List.drop_append, Nat.add_sub_cancel_left, ih k, List.drop_succ_cons, List.drop_of_length_le (Nat.le_add_right _ _), List.nil_append]
theorem rd_part {w : World} {B n k : Nat} {A : Option Addr} {ps : List PartV} (h : Rd w B 5 A n (partCells ps)) (hk : k < n) :
    ∃ b off p, A = some ⟨b, off, none⟩ ∧ b < B ∧ ps[k]? = some p ∧ w.cell? ⟨b, off + k * 5, none⟩ = some (.int .i64 (p.number : Int)) ∧ w.cell? ⟨b, off + k * 5 + 1, none⟩ = some (.int .i64 (p.part : Int)) ∧ w.cell? ⟨b, off + k * 5 + 2, none⟩ = some (.int .i64 (p.left : Int)) ∧ w.cell? ⟨b, off + k * 5 + 3, none⟩ = some (str p.payload) ∧ w.cell? ⟨b, off + k * 5 + 4, none⟩ = some (.bool p.ok) := by
  obtain ⟨b, off, e, hb, hc⟩ := h.2 (by omega)
  have hl : ps.length = n := by have := h.1; rw [partCells_len] at this; omega
  have ho : ps[k]? = some ps[k] := List.getElem?_eq_getElem (by omega)
  have at_ : ∀ j u, (partRow ps[k])[j]? = some u → w.cell? ⟨b, off + k * 5 + j, none⟩ = some u := fun j u hu => by
    have hj : j < 5 := by have := (Array.getElem?_eq_some_iff.1 hu).1; simpa [partRow] using this
    rw [Nat.add_assoc]
    exact hc _ u ((partCells_at ps k j _ ho hj).trans hu)
  exact ⟨b, off, ps[k], e, hb, ho, at_ 0 _ rfl, at_ 1 _ rfl, at_ 2 _ rfl, at_ 3 _ rfl, at_ 4 _ rfl⟩

/-! the record -/
def PG (p : PartV) : Prop := 48 * p.part + p.left ≤ 8000 ∧ p.number ≤ 4096 ∧ p.payload.length ≤ 48
def recV (ps : List PartV) : Value := if recOK ps = true then .tuple #[str (recT ps (countN (ps.getD 0 noPart).left)), .int .i64 (countN (ps.getD 0 noPart).left : Int), .bool true] else .tuple #[str [], .int .i64 0, .bool false]

/-- the first k parts are those of the record that p begins -/
def Good (ps : List PartV) (p : PartV) (k : Nat) : Prop := ∀ i, i < k → (ps.getD i noPart).ok = true ∧ (ps.getD i noPart).number = p.number ∧ (ps.getD i noPart).part = i ∧ (ps.getD i noPart).left + 48 * i = p.left
theorem recOK_iff {ps : List PartV} {p : PartV} (h : ps[0]? = some p) : recOK ps = true ↔ p.ok = true ∧ p.part = 0 ∧ 1 ≤ countN p.left ∧ countN p.left ≤ ps.length ∧ Good ps p (countN p.left) := by
  cases ps with
  | nil => cases h
  | cons a r =>
    obtain rfl : a = p := by simpa using h
    unfold recOK Good
    simp only [Bool.and_eq_true, decide_eq_true_eq, List.all_eq_true, List.mem_range]
theorem recV_yes {ps : List PartV} {p : PartV} (h : ps[0]? = some p) (C : Nat) (hC : C = countN p.left) (h1 : p.ok = true) (h2 : p.part = 0) (h3 : 1 ≤ C) (h4 : C ≤ ps.length) (h5 : Good ps p C) : recV ps = .tuple #[str (recT ps C), .int .i64 (C : Int), .bool true] := by
  subst hC
  unfold recV
  rw [if_pos ((recOK_iff h).2 ⟨h1, h2, h3, h4, h5⟩), show ps.getD 0 noPart = p by rw [List.getD_eq_getElem?_getD, h]; rfl]
theorem recV_no {ps : List PartV} {p : PartV} (h : ps[0]? = some p) (C : Nat) (hC : C = countN p.left) (hn : ¬ (p.ok = true ∧ p.part = 0 ∧ C ≤ ps.length ∧ Good ps p C)) : recV ps = .tuple #[str [], .int .i64 0, .bool false] := by
  subst hC
  unfold recV
  rw [if_neg (fun e => hn (by obtain ⟨a, b, c, d⟩ := (recOK_iff h).1 e; exact ⟨a, b, d.1, d.2⟩))]
theorem Good.succ {ps : List PartV} {p q : PartV} {k : Nat} (h : Good ps p k) (hq : ps[k]? = some q) (h1 : q.ok = true) (h2 : q.number = p.number) (h3 : q.part = k) (h4 : q.left + 48 * k = p.left) : Good ps p (k + 1) := by
  intro i hi
  rcases Nat.lt_succ_iff_lt_or_eq.1 hi with hi | rfl
  · exact h i hi
  · rw [List.getD_eq_getElem?_getD, hq]; exact ⟨h1, h2, h3, h4⟩
theorem Good.not {ps : List PartV} {p q : PartV} {k C : Nat} (hk : k < C) (hq : ps[k]? = some q) (h : ¬ (q.ok = true ∧ q.number = p.number ∧ q.part = k ∧ q.left + 48 * k = p.left)) : ¬ Good ps p C := by
  intro e
  have := e k hk
  rw [List.getD_eq_getElem?_getD, hq] at this
  exact h this
theorem rectext_succ {ps : List PartV} {q : PartV} {k : Nat} (hq : ps[k]? = some q) : recT ps (k + 1) = recT ps k ++ q.payload := by
  obtain ⟨hk, rfl⟩ := List.getElem?_eq_some_iff.1 hq
  rw [recT, List.take_succ_eq_append_getElem hk, List.flatMap_append, recT]
  simp
theorem rec_len (ps : List PartV) (h : ∀ p ∈ ps, p.payload.length ≤ 48) : ∀ k, (recT ps k).length ≤ 48 * k
  | 0 => by simp [recT]
  | k + 1 => by
    by_cases hk : k < ps.length
    · rw [rectext_succ (List.getElem?_eq_getElem hk), List.length_append]
      have := rec_len ps h k
      have := h _ (List.getElem_mem hk)
      omega
    · have := rec_len ps h k
      rw [recT, List.take_of_length_le (by omega)] at this ⊢
      omega
theorem count_fits {n : Nat} (h : n ≤ 8000) : countN n ≤ 167 ∧ 48 * countN n ≤ n + 48 := by unfold countN; rw [if_neg (by omega)]; split <;> omega

set_option maxHeartbeats 2000000 in
set_option maxRecDepth 100000 in
theorem record_any (A : Option Addr) (n c : Nat) (ps : List PartV) (w : World) (h : Rd w w.heap.size 5 A n (partCells ps)) (h0 : 0 < n) (hn : n ≤ 100000) (hc : n ≤ c) (hg : ∀ p ∈ ps, PG p) :
    Calls Tryz.prog 46 #[.slice A n c] w (RetB (recV ps) w) := by
  obtain ⟨hz, hsz⟩ := zero_of_info infoJpart
  have HL := Lib.hid (show ps.length = n by have := h.1; rw [partCells_len] at this; omega)
  have H := Lib.hid h
  obtain ⟨b, off, p, rfl, hlt, hp, x0, x1, x2, x3, x4⟩ := rd_part h h0
  have HPG := Lib.hid (hg p (List.mem_of_getElem? hp))
  have HG := Lib.hid hg
  have HP := Lib.hid hp
  clear h hg hp
  simp only [Nat.zero_mul, Nat.add_zero] at x0 x1 x2 x3 x4
  have HRV := Lib.hid (show recV ps = recV ps from rfl)
  obtain ⟨RV, hRV⟩ : ∃ V, V = recV ps := ⟨_, rfl⟩
  rw [← hRV]
  have HV := Lib.hid hRV
  clear hRV HRV
  obtain ⟨N, hN⟩ : ∃ N, N = p.number := ⟨_, rfl⟩
  obtain ⟨K, hK⟩ : ∃ N, N = p.part := ⟨_, rfl⟩
  obtain ⟨L, hL⟩ : ∃ N, N = p.left := ⟨_, rfl⟩
  obtain ⟨y, hy⟩ : ∃ y : ByteArray, y = ⟨p.payload.toArray⟩ := ⟨_, rfl⟩
  obtain ⟨o, ho⟩ : ∃ N, N = p.ok := ⟨_, rfl⟩
  rw [← hN] at x0
  rw [← hK] at x1
  rw [← hL] at x2
  rw [show str p.payload = .string y by rw [hy]] at x3
  rw [← ho] at x4
  have HN := Lib.hid hN
  have HK := Lib.hid hK
  have HL' := Lib.hid hL
  have HO := Lib.hid ho
  clear hN hK hL hy ho
  have q0 := (Blk.new w 80 #[.int .i64 N, .int .i64 K, .int .i64 L, .string y, .bool o]).cell 0
  have q1 := (Blk.new w 80 #[.int .i64 N, .int .i64 K, .int .i64 L, .string y, .bool o]).cell 1
  have q2 := (Blk.new w 80 #[.int .i64 N, .int .i64 K, .int .i64 L, .string y, .bool o]).cell 2
  have q3 := (Blk.new w 80 #[.int .i64 N, .int .i64 K, .int .i64 L, .string y, .bool o]).cell 3
  have q4 := (Blk.new w 80 #[.int .i64 N, .int .i64 K, .int .i64 L, .string y, .bool o]).cell 4
  simp only [List.getElem?_toArray, List.getElem?_cons_zero, List.getElem?_cons_succ] at q0 q1 q2 q3 q4
  go_enter Tryz.func46, Tryz.ntmps46
  go_wp2_with fail
  obtain ⟨C, hC⟩ : ∃ C, C = countI (L : Int) := ⟨_, rfl⟩
  have hcall := fun W => count_any (L : Int) W
  rw [← hC] at hcall
  have HC := Lib.hid (show C = countN L by rw [hC]; unfold countI; rw [if_neg (by omega)]; rfl)
  have HCA := Lib.hid hcall
  clear hC hcall
  refine (HCA.out _).mono ?_
  rintro e w' ⟨rfl, rfl⟩
  have QF := Lib.hid (Blk.new w 80 #[.int .i64 N, .int .i64 K, .int .i64 L, .string y, .bool o])
  have HNO := Lib.hid (fun hn => HV.out.trans (recV_no HP.out C (by rw [HC.out, HL'.out]) hn))
  cases o
  · clear q0 q1 q2 q3 x0 x1 x2 x3 x4
    go_wp2_with fail
    go_ret3
    rw [HNO.out (fun e => by have := HO.out; rw [e.1] at this; cases this)]
    exact ⟨rfl, below_new _ _⟩
  · by_cases hk0 : K = 0
    · subst hk0
      by_cases hcn : (n : Int) < (C : Int)
      · go_wp2_with fail
        go_ret3
        rw [HNO.out (fun e => by have := HL.out; have := e.2.2.1; omega)]
        exact ⟨rfl, below_new _ _⟩
      · have hl8 : L ≤ 8000 := by have := HPG.out.1; have := HL'.out; omega
        have HC1 := Lib.hid (show 1 ≤ C from by rw [HC.out]; exact count_pos hl8)
        have HC2 := Lib.hid (show C ≤ 167 from by rw [HC.out]; exact (count_fits hl8).1)
        have HC3 := Lib.hid (show 48 * C ≤ L + 48 from by rw [HC.out]; exact (count_fits hl8).2)
        have j7 : C ≤ n := by omega
        have j8 : C ≤ 167 := HC2.out
        have j9 : (0 : Int) ≤ (C : Int) := by omega
        have j10 : (C : Int) ≤ (c : Int) := by omega
        go_wp2_with fail
        obtain ⟨w1, hw1⟩ : ∃ w1, w1 = w.alloc (.cells #[.int .i64 N, .int .i64 0, .int .i64 L, .string y, .bool true] 80) := ⟨_, rfl⟩
        have QF : Hid (Blk (w.alloc (.cells #[.int .i64 N, .int .i64 0, .int .i64 L, .string y, .bool true] 80)) w.heap.size 80 #[.int .i64 N, .int .i64 0, .int .i64 L, .string y, .bool true]) := QF
        rw [← hw1] at QF
        have HB1 := Lib.hid (show Below w.heap.size w w1 by rw [hw1]; exact below_new _ _)
        rw [← hw1]
        clear hw1 q0 q1 q2 q3 q4 x0 x1 x2 x3 x4
        go_loopw [7, 8, 9, 34] (fun t _ _ x wr => ∃ k : Nat, k ≤ C ∧ x = .int .i64 k ∧ Hid (Good ps p k) ∧ Hid (Below w.heap.size w wr) ∧ Hid (Blk wr w.heap.size 80 #[.int .i64 N, .int .i64 0, .int .i64 L, .string y, .bool true]) ∧ ∃ z : ByteArray, t = .string z ∧ Hid (z.data.toList = recT ps k)) (fun _ _ _ x _ => C - (intOf x).toNat)
        case atStart => exact ⟨0, by omega, rfl, Lib.hid (fun i hi => by omega), HB1, QF, _, rfl, Lib.hid rfl⟩
        case round =>
          obtain ⟨k, hk, rfl, G, B, F, z, rfl, Z⟩ := hrel
          by_cases hlt : k < C
          · obtain ⟨b1, o1, q, e1, _, hq, x0, x1, x2, x3, x4⟩ := rd_part (H.out.below B.out) (k := k) (by omega)
            injection e1 with e1
            injection e1 with e1 e2
            subst e1 e2
            have HQ := Lib.hid hq
            clear hq
            obtain ⟨M, hM⟩ : ∃ N, N = q.number := ⟨_, rfl⟩
            obtain ⟨P, hP⟩ : ∃ N, N = q.part := ⟨_, rfl⟩
            obtain ⟨l, hl⟩ : ∃ N, N = q.left := ⟨_, rfl⟩
            obtain ⟨y2, hy2⟩ : ∃ y : ByteArray, y = ⟨q.payload.toArray⟩ := ⟨_, rfl⟩
            obtain ⟨o2, ho2⟩ : ∃ N, N = q.ok := ⟨_, rfl⟩
            rw [← hM] at x0
            rw [← hP] at x1
            rw [← hl] at x2
            rw [show str q.payload = .string y2 by rw [hy2]] at x3
            rw [← ho2] at x4
            have HM := Lib.hid hM
            have HP2 := Lib.hid hP
            have HL2 := Lib.hid hl
            have HY2 := Lib.hid hy2
            have HO2 := Lib.hid ho2
            clear hM hP hl hy2 ho2
            have hQB := Blk.new wr 80 #[.int .i64 M, .int .i64 P, .int .i64 l, .string y2, .bool o2]
            have hFB := F.out.below (below_new wr (.cells #[.int .i64 M, .int .i64 P, .int .i64 l, .string y2, .bool o2] 80)) F.out.lt
            have HQB := Lib.hid hQB
            have HFB := Lib.hid hFB
            clear hQB hFB
            have HB2 := Lib.hid (below_alloc' B.out (.cells #[.int .i64 M, .int .i64 P, .int .i64 l, .string y2, .bool o2] 80))
            have j1 : (k : Int) < (C : Int) := by omega
            have j0 : (0 : Int) ≤ (k : Int) := by omega
            have HBAD := Lib.hid (fun hn => HNO.out (fun e => Good.not hlt HQ.out hn e.2.2.2))
            cases o2
            · obtain ⟨⟨k0, k1, k2, k3, k4⟩, -⟩ := blk5 HQB.out
              obtain ⟨⟨z0, z1, z2, z3, z4⟩, -⟩ := blk5 HFB.out
              go_wp2_with fail
              go_ret3
              rw [HBAD.out (fun e => by have := HO2.out; rw [e.1] at this; cases this)]
              exact ⟨rfl, HB2.out⟩
            · by_cases hMN : M = N
              · subst hMN
                by_cases hPk : P = k
                · subst hPk
                  by_cases hlL : l + 48 * P = L
                  · have j3 : ((l : Int) == (L : Int) - 48 * (P : Int)) = true := by simp; omega
                    have j4 : (48 : Int) * (P : Int) ≤ 8016 := by omega
                    have j5 : ¬ 9223372036854775807 < z.size + y2.size := by
                      have s1 : z.size = (recT ps P).length := by rw [← Z.out]; rfl
                      have s2 : y2.size = q.payload.length := by rw [HY2.out]; rfl
                      have := (HG.out q (List.mem_of_getElem? HQ.out)).2.2
                      have := rec_len ps (fun p hp => (HG.out p hp).2.2) P
                      omega
                    have HZ := Lib.hid (show (z ++ y2).data.toList = recT ps (P + 1) by rw [ByteArray.data_append, Array.toList_append, rectext_succ HQ.out, Z.out, HY2.out])
                    have HG2 := Lib.hid (G.out.succ HQ.out HO2.out.symm (by rw [← HM.out, HN.out]) HP2.out.symm (by have := HL2.out; have := HL'.out; omega))
                    obtain ⟨⟨k0, k1, k2, k3, k4⟩, -⟩ := blk5 HQB.out
                    obtain ⟨⟨z0, z1, z2, z3, z4⟩, -⟩ := blk5 HFB.out
                    go_wp2_with fail
                    go_roundw
                    case rel => exact ⟨P + 1, by omega, by go_num, HG2, HB2, HFB, _, rfl, HZ⟩
                    case measure => simp [intOf]; omega
                  · have j3 : ((l : Int) == (L : Int) - 48 * (P : Int)) = false := by simp; omega
                    have j4 : (48 : Int) * (P : Int) ≤ 8016 := by omega
                    obtain ⟨⟨k0, k1, k2, k3, k4⟩, -⟩ := blk5 HQB.out
                    obtain ⟨⟨z0, z1, z2, z3, z4⟩, -⟩ := blk5 HFB.out
                    go_wp2_with fail
                    go_ret3
                    rw [HBAD.out (fun e => by have := HL2.out; have := HL'.out; have := e.2.2.2; omega)]
                    exact ⟨rfl, HB2.out⟩
                · have j3 : ((P : Int) == (k : Int)) = false := by simp; omega
                  have j3' : (P == k) = false := by simpa using hPk
                  have j3'' : decide (P = k) = false := by simpa using hPk
                  obtain ⟨⟨k0, k1, k2, k3, k4⟩, -⟩ := blk5 HQB.out
                  obtain ⟨⟨z0, z1, z2, z3, z4⟩, -⟩ := blk5 HFB.out
                  go_wp2_with fail
                  all_goals first | (exfalso; omega) | skip
                  go_ret3
                  rw [HBAD.out (fun e => by have := HP2.out; have := e.2.2.1; omega)]
                  exact ⟨rfl, HB2.out⟩
              · have j3 : ((M : Int) == (N : Int)) = false := by simp; omega
                have j3' : (M == N) = false := by simpa using hMN
                have j3'' : decide (M = N) = false := by simpa using hMN
                obtain ⟨⟨k0, k1, k2, k3, k4⟩, -⟩ := blk5 HQB.out
                obtain ⟨⟨z0, z1, z2, z3, z4⟩, -⟩ := blk5 HFB.out
                go_wp2_with fail
                all_goals first | (exfalso; omega) | skip
                go_ret3
                rw [HBAD.out (fun e => by have := HM.out; have := HN.out; have := e.2.1; omega)]
                exact ⟨rfl, HB2.out⟩
          · obtain rfl : k = C := by omega
            go_wp2_with fail
            go_ret3
            rw [HV.out, recV_yes HP.out k (by rw [HC.out, HL'.out]) HO.out.symm HK.out.symm HC1.out (by rw [HL.out]; omega) G.out, ← Z.out]
            exact ⟨rfl, B.out⟩
    · have hk1 : ((K : Int) == 0) = false := by simpa using hk0
      go_wp2_with fail
      go_ret3
      rw [HNO.out (fun e => by have := HK.out; rw [e.2.1] at this; exact hk0 this)]
      exact ⟨rfl, below_new _ _⟩
end Go.Proofs.YtddpjahoeldleaaGreatDoor

namespace Go.Proofs.YtddpjahoeldleaaGreatDoor
open Go.RowKit Go.Maps
theorem guard_sect (x y : Operand) (xs ys : Array Value) (w : World) : (eqGuard .eql 83 x y (.agg xs) (.agg ys)).run Tryz.prog w = .ok () w :=
  run_eqGuard_agg w .eql 83 x y xs ys (by kernel_rfl)
theorem eq_sect_loop (d : Nat) (a b : Bs) (ha : a.length = 64) (hb : b.length = 64) (w : World) : (Op.equalIn (d + 2) 83 (.agg (Dk.cellsOfB a).toArray) (.agg (Dk.cellsOfB b).toArray)).run Tryz.prog w = .ok (decide (a = b)) w := by
  rw [Op.equalIn]
  simp only [Sem.run_bind, run_underlying Tryz.underlying83, Result.andThen_ok, Dk.size5, Nat.mul_one]
  rw [Std.Legacy.Range.forIn_eq_forIn_range']
  have h := Dk.eq_range d a b ha hb w 64 0 rfl
  rw [List.drop_zero, List.drop_zero] at h
  have h' : (forIn (List.range' [:64].start [:64].size [:64].step) ((none, ()) : Option Bool × Unit) (Dk.eqBody d a b)).run Tryz.prog w = _ := h
  unfold Dk.eqBody at h'
  rw [h']
  by_cases e : a = b
  · rw [if_pos e, Result.andThen_ok, decide_eq_true e]
    rfl
  · rw [if_neg e, Result.andThen_ok, decide_eq_false e]
    rfl
theorem row64 (b : Bs) (h : b.length = 64) : rowB 64 b = (Dk.cellsOfB b).toArray := by simp [rowB, h, byteCells, Dk.cellsOfB]
theorem row_zero : rowB 64 [] = (Dk.cellsOfB Dk.zeroBs).toArray := by simp [rowB, byteCells, Dk.cellsOfB, Dk.zeroBs]
theorem eql_sect (a : Bs) (ha : a.length = 64) (w : World) : (binOp .eql 83 (.agg (rowB 64 a)) (.agg (rowB 64 []))).run Tryz.prog w = .ok (.bool (decide (a = Dk.zeroBs))) w := by
  rw [row64 a ha, row_zero, run_eql_struct, eq_sect_loop 9998 a _ ha rfl, Result.andThen_ok]
end Go.Proofs.YtddpjahoeldleaaGreatDoor

namespace Go.Proofs.YtddpjahoeldleaaGreatDoor

/-- the sectors as Read gives them -/
def secsB (S : Dk.St) : List Bs := (List.range S.bl.length).map fun k : Nat => Dk.readB S (k : Int)
def partsB (S : Dk.St) : List PartV := (secsB S).map unpackB
def ovJ (o : OV) : JV := ⟨[], o.bad.map fun k : Nat => (k : Int), [], (o.next : Int), (o.fin : Int), false⟩
def addJ (J : JV) (l : List (Nat × Bs)) : JV := { J with nums := l.map fun x => (x.1 : Int), texts := l.map Prod.snd }
def openJ (S : Dk.St) : JV := addJ (ovJ (oFold (secsB S))) (foundL (partsB S))
end Go.Proofs.YtddpjahoeldleaaGreatDoor
