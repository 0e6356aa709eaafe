/- The reference's lists: Image, Pending, Worn; Len, Up; SameInts. -/
import Derived.Test.YtibhnjnfifpepaaRefDo
import Derived.Deep.AppendLies
namespace Go.Proofs.Ytibhnjnfifpepaa
open Go.RowKit Go.Maps

/-- a list of the call's own that comes back -/
def OwnPost (base : Nat) (ty : TypeId) (n : Nat) (xs : List Value) (w : World) : Ending → World → Prop := fun e w' => ∃ v, e = .returned v ∧ w'.ownsRow base ty 1 v n xs ∧ Below w.heap.size w w'
theorem OwnPost.open_ {base : Nat} {ty : TypeId} {n : Nat} {xs : List Value} {w : World} {e : Ending} {w' : World} (h : OwnPost base ty n xs w e w') : ∃ A c, e = .returned (.slice A n c) ∧ Rd w' w'.heap.size 1 A n xs ∧ n ≤ c ∧ Below w.heap.size w w' := by
  obtain ⟨v, hx, hown, hb⟩ := h
  obtain ⟨A, c, rfl, hc⟩ := own_slice hown
  exact ⟨A, c, hx, Rd.of_own hown, hc, hb⟩
theorem cells_one (w : World) (e : TypeId) (a : Value) : ∀ (j : Nat) (u : Value), [a][j]? = some u → (w.alloc (.cells #[a] e)).cell? ((⟨w.heap.size, 0, none⟩ : Addr).add j) = some u := by
  intro j u hj
  match j, hj with
  | 0, hj => rw [show (⟨w.heap.size, 0, none⟩ : Addr).add 0 = ⟨w.heap.size, 0, none⟩ from rfl, World.cell?_alloc_at _ _ _ _ rfl]; simpa using hj
  | j + 1, hj => simp at hj
theorem strCells_snoc (ss : List Bs) (s : Bs) : strCells (ss ++ [s]) = strCells ss ++ [str s] := by simp [strCells]
theorem info3 : (Try.prog.info? 3).map (fun i => (i.zero, i.size, i.bytes)) = some (some (.int .i64 0), 1, 8) := by kernel_rfl

theorem rlen_any (w : World) (r gs : Nat) (T : RSt) (h : RefAt w r gs T) : Calls Try.prog 52 #[.pointer (some ⟨r, 0, none⟩)] w (Ret (.int .i64 (T.s.length : Int)) w) := by
  obtain ⟨c0, c1, c2⟩ := h.heads
  clear h
  go_enter Try.func52, Try.ntmps52
  go_wp2_with fail
  go_ret
  exact Ret.mk
theorem rup_any (w : World) (r gs : Nat) (T : RSt) (h : RefAt w r gs T) : Calls Try.prog 53 #[.pointer (some ⟨r, 0, none⟩)] w (Ret (.bool (!T.off)) w) := by
  obtain ⟨c0, c1, c2⟩ := h.heads
  clear h
  go_enter Try.func53, Try.ntmps53
  go_wp2_with fail
  go_ret
  exact Ret.mk

def textsTo (T : RSt) (k : Nat) : List Bs := (T.s.take k).map (·.text)
theorem textsTo_step {T : RSt} {k : Nat} {x : Sec} (hx : T.s[k]? = some x) : textsTo T (k + 1) = textsTo T k ++ [x.text] := by
  rw [textsTo, textsTo, (take_snoc hx).1, List.map_append]; rfl
theorem placesFrom_append (f : Sec → Bool) (b : List Sec) : ∀ (a : List Sec) (j : Nat), placesFrom f (a ++ b) j = placesFrom f a j ++ placesFrom f b (j + a.length)
  | [], j => rfl
  | x :: r, j => by
    rw [List.cons_append, placesFrom, placesFrom, placesFrom_append f b r (j + 1), List.length_cons, show j + 1 + r.length = j + (r.length + 1) by omega]
    split
    · rfl
    · rfl
theorem places_step (f : Sec → Bool) {l : List Sec} {k : Nat} {x : Sec} (hx : l[k]? = some x) : placesFrom f (l.take (k + 1)) 0 = placesFrom f (l.take k) 0 ++ (if f x then [(k : Int)] else []) := by
  have hk := (List.getElem?_eq_some_iff.1 hx).1
  rw [(take_snoc hx).1, placesFrom_append, List.length_take, Nat.min_eq_left (by omega), Nat.zero_add]
  congr 1
theorem places_le (f : Sec → Bool) : ∀ (l : List Sec) (j : Nat), (placesFrom f l j).length ≤ l.length
  | [], _ => Nat.le_refl _
  | x :: r, j => by
    have := places_le f r (j + 1)
    rw [placesFrom]
    split
    · rw [List.length_cons, List.length_cons]; omega
    · rw [List.length_cons]; omega
theorem intCells_snoc (zs : List Int) (z : Int) : intCells (zs ++ [z]) = intCells zs ++ [.int .i64 z] := by simp [intCells]

set_option maxHeartbeats 2000000 in
set_option maxRecDepth 100000 in
theorem rimage_any (w : World) (r gs : Nat) (T : RSt) (h : RefAt w r gs T) : Calls Try.prog 48 #[.pointer (some ⟨r, 0, none⟩)] w (OwnPost w.heap.size 9 T.s.length (strCells (textsTo T T.s.length)) w) := by
  obtain ⟨i0, hi, hz0, hz1, hz2⟩ := info_parts info9
  have n2 := h.n2
  have H := Lib.hid h
  obtain ⟨n, hn⟩ : ∃ n, n = T.s.length := ⟨_, rfl⟩
  rw [← hn] at n2 ⊢
  have HN := Lib.hid hn
  clear h hn
  go_enter Try.func48, Try.ntmps48
  go_wp2_with fail
  go_loopw [3, 4] (fun v x wr => ∃ k : Nat, k ≤ n ∧ x = .int .i64 k ∧ wr.ownsRow w.heap.size 9 1 v k (strCells (textsTo T k)) ∧ Below w.heap.size w wr) (fun _ x _ => n - (intOf x).toNat)
  case atStart => exact ⟨0, by omega, rfl, World.ownsRow_nil _ _ _ _, Below.refl _ _⟩
  case round =>
    obtain ⟨k, hk, rfl, hown, hb⟩ := hrel
    have hsz := hb.size
    have hR := H.out.go hb
    obtain ⟨e0, -, -⟩ := hR.heads
    rw [← HN.out] at e0
    by_cases hlt : k < n
    · obtain ⟨x, hx⟩ : ∃ x, T.s[k]? = some x := ⟨_, List.getElem?_eq_getElem (by have := HN.out; omega)⟩
      obtain ⟨d0, -, -, -⟩ := hR.sec hx
      have Hts := Lib.hid (textsTo_step hx)
      have j1 : (k : Int) < (n : Int) := by omega
      have j0 : (0 : Int) ≤ (k : Int) := by omega
      obtain ⟨b, hbx⟩ : ∃ b, b = x.text := ⟨_, rfl⟩
      rw [← hbx] at d0 Hts
      unfold str at d0
      clear hx hR hbx
      go_wp2_with (at_builtin; refine wpList_append_own _ rfl _ _ 27 rfl w.heap.size 9 i0 _ 1 16 Try.underlying27 hi hz0 hz1 hz2 rfl (by decide) _ _ _ rfl (hown.alloc _) ⟨wr.heap.size, 0, none⟩ 1 1 [str b] rfl rfl ?c1 ?c2 ?c3 ?c4 ?c5 ?_)
      case c1 => exact cells_one _ _ _
      case c2 => intro u hu; simp at hu; subst hu; rfl
      case c3 => unfold maxLen; omega
      case c4 => omega
      case c5 => simp; omega
      intro v' w2 hown1 hgrow _
      have hb3 : Below w.heap.size w w2 := (hb.alloc hsz _).grown hgrow (by simp; omega) (fun g hg => (hown.lt g hg).1)
      clear hgrow hown
      go_wp2_with fail
      go_roundw
      case rel =>
        refine ⟨k + 1, by omega, by go_num, ?_, hb3⟩
        rw [Hts.out, strCells_snoc]
        exact hown1
      case measure => simp [intOf]; omega
    · obtain rfl : k = n := by omega
      go_wp2_with fail
      go_ret
      exact ⟨_, rfl, hown, hb⟩
set_option maxHeartbeats 2000000 in
set_option maxRecDepth 100000 in
theorem rpending_any (w : World) (r gs : Nat) (T : RSt) (h : RefAt w r gs T) : Calls Try.prog 50 #[.pointer (some ⟨r, 0, none⟩)] w (OwnPost w.heap.size 3 (placesFrom (·.dirty) T.s 0).length (intCells (placesFrom (·.dirty) T.s 0)) w) := by
  obtain ⟨i0, hi, hz0, hz1, hz2⟩ := info_parts info3
  have n2 := h.n2
  have H := Lib.hid h
  obtain ⟨n, hn⟩ : ∃ n, n = T.s.length := ⟨_, rfl⟩
  rw [← hn] at n2
  have HN := Lib.hid hn
  have HE := Lib.hid (show placesFrom (·.dirty) T.s 0 = placesFrom (·.dirty) (T.s.take n) 0 by rw [hn, List.take_length])
  rw [HE.out]
  clear h hn
  go_enter Try.func50, Try.ntmps50
  go_wp2_with fail
  go_loopw [3, 4] (fun v x wr => ∃ (k : Nat) (zs : List Int), k ≤ n ∧ x = .int .i64 k ∧ Hid (zs = placesFrom (·.dirty) (T.s.take k) 0) ∧ zs.length ≤ k ∧ wr.ownsRow w.heap.size 3 1 v zs.length (intCells zs) ∧ Below w.heap.size w wr) (fun _ x _ => n - (intOf x).toNat)
  case atStart => exact ⟨0, [], by omega, rfl, Lib.hid rfl, by simp, World.ownsRow_nil _ _ _ _, Below.refl _ _⟩
  case round =>
    obtain ⟨k, zs, hk, rfl, hzs, hzl, hown, hb⟩ := hrel
    have hsz := hb.size
    have hR := H.out.go hb
    obtain ⟨e0, -, -⟩ := hR.heads
    rw [← HN.out] at e0
    by_cases hlt : k < n
    · obtain ⟨x, hx⟩ : ∃ x, T.s[k]? = some x := ⟨_, List.getElem?_eq_getElem (by have := HN.out; omega)⟩
      obtain ⟨d0, d1, d2, d3⟩ := hR.sec hx
      have Hts := Lib.hid (places_step (·.dirty) hx)
      have j1 : (k : Int) < (n : Int) := by omega
      have j0 : (0 : Int) ≤ (k : Int) := by omega
      clear hx hR
      cases hd : x.dirty
      · rw [hd] at d2
        have HZ := Lib.hid (show zs = placesFrom (·.dirty) (T.s.take (k + 1)) 0 by rw [Hts.out, hd, hzs.out]; simp)
        clear hd
        go_wp2_with fail
        go_roundw
        case rel => exact ⟨k + 1, zs, by omega, by go_num, HZ, by omega, hown, hb⟩
        case measure => simp [intOf]; omega
      · rw [hd] at d2
        have HZ := Lib.hid (show zs ++ [(k : Int)] = placesFrom (·.dirty) (T.s.take (k + 1)) 0 by rw [Hts.out, hd, hzs.out]; simp)
        clear hd
        go_wp2_with (at_builtin; refine wpList_append_own _ rfl _ _ 36 rfl w.heap.size 3 i0 _ 1 8 Try.underlying36 hi hz0 hz1 hz2 rfl (by decide) _ _ _ rfl (hown.alloc _) ⟨wr.heap.size, 0, none⟩ 1 1 [.int .i64 (k : Int)] rfl rfl ?c1 ?c2 ?c3 ?c4 ?c5 ?_)
        case c1 => exact cells_one _ _ _
        case c2 => intro u hu; simp at hu; subst hu; rfl
        case c3 => unfold maxLen; omega
        case c4 => omega
        case c5 => simp; omega
        intro v' w2 hown1 hgrow _
        have hb3 : Below w.heap.size w w2 := (hb.alloc hsz _).grown hgrow (by simp; omega) (fun g hg => (hown.lt g hg).1)
        clear hgrow hown
        go_wp2_with fail
        go_roundw
        case rel =>
          refine ⟨k + 1, zs ++ [(k : Int)], by omega, by go_num, HZ, by rw [List.length_append, List.length_singleton]; omega, ?_, hb3⟩
          rw [intCells_snoc, List.length_append, List.length_singleton]
          exact hown1
        case measure => simp [intOf]; omega
    · obtain rfl : k = n := by omega
      go_wp2_with fail
      go_ret
      exact ⟨_, rfl, by rw [← hzs.out]; exact hown, hb⟩
set_option maxHeartbeats 2000000 in
set_option maxRecDepth 100000 in
theorem rworn_any (w : World) (r gs : Nat) (T : RSt) (h : RefAt w r gs T) : Calls Try.prog 51 #[.pointer (some ⟨r, 0, none⟩)] w (OwnPost w.heap.size 3 (placesFrom (·.worn) T.s 0).length (intCells (placesFrom (·.worn) T.s 0)) w) := by
  obtain ⟨i0, hi, hz0, hz1, hz2⟩ := info_parts info3
  have n2 := h.n2
  have H := Lib.hid h
  obtain ⟨n, hn⟩ : ∃ n, n = T.s.length := ⟨_, rfl⟩
  rw [← hn] at n2
  have HN := Lib.hid hn
  have HE := Lib.hid (show placesFrom (·.worn) T.s 0 = placesFrom (·.worn) (T.s.take n) 0 by rw [hn, List.take_length])
  rw [HE.out]
  clear h hn
  go_enter Try.func51, Try.ntmps51
  go_wp2_with fail
  go_loopw [3, 4] (fun v x wr => ∃ (k : Nat) (zs : List Int), k ≤ n ∧ x = .int .i64 k ∧ Hid (zs = placesFrom (·.worn) (T.s.take k) 0) ∧ zs.length ≤ k ∧ wr.ownsRow w.heap.size 3 1 v zs.length (intCells zs) ∧ Below w.heap.size w wr) (fun _ x _ => n - (intOf x).toNat)
  case atStart => exact ⟨0, [], by omega, rfl, Lib.hid rfl, by simp, World.ownsRow_nil _ _ _ _, Below.refl _ _⟩
  case round =>
    obtain ⟨k, zs, hk, rfl, hzs, hzl, hown, hb⟩ := hrel
    have hsz := hb.size
    have hR := H.out.go hb
    obtain ⟨e0, -, -⟩ := hR.heads
    rw [← HN.out] at e0
    by_cases hlt : k < n
    · obtain ⟨x, hx⟩ : ∃ x, T.s[k]? = some x := ⟨_, List.getElem?_eq_getElem (by have := HN.out; omega)⟩
      obtain ⟨d0, d1, d2, d3⟩ := hR.sec hx
      have Hts := Lib.hid (places_step (·.worn) hx)
      have j1 : (k : Int) < (n : Int) := by omega
      have j0 : (0 : Int) ≤ (k : Int) := by omega
      clear hx hR
      cases hd : x.worn
      · rw [hd] at d3
        have HZ := Lib.hid (show zs = placesFrom (·.worn) (T.s.take (k + 1)) 0 by rw [Hts.out, hd, hzs.out]; simp)
        clear hd
        go_wp2_with fail
        go_roundw
        case rel => exact ⟨k + 1, zs, by omega, by go_num, HZ, by omega, hown, hb⟩
        case measure => simp [intOf]; omega
      · rw [hd] at d3
        have HZ := Lib.hid (show zs ++ [(k : Int)] = placesFrom (·.worn) (T.s.take (k + 1)) 0 by rw [Hts.out, hd, hzs.out]; simp)
        clear hd
        go_wp2_with (at_builtin; refine wpList_append_own _ rfl _ _ 36 rfl w.heap.size 3 i0 _ 1 8 Try.underlying36 hi hz0 hz1 hz2 rfl (by decide) _ _ _ rfl (hown.alloc _) ⟨wr.heap.size, 0, none⟩ 1 1 [.int .i64 (k : Int)] rfl rfl ?c1 ?c2 ?c3 ?c4 ?c5 ?_)
        case c1 => exact cells_one _ _ _
        case c2 => intro u hu; simp at hu; subst hu; rfl
        case c3 => unfold maxLen; omega
        case c4 => omega
        case c5 => simp; omega
        intro v' w2 hown1 hgrow _
        have hb3 : Below w.heap.size w w2 := (hb.alloc hsz _).grown hgrow (by simp; omega) (fun g hg => (hown.lt g hg).1)
        clear hgrow hown
        go_wp2_with fail
        go_roundw
        case rel =>
          refine ⟨k + 1, zs ++ [(k : Int)], by omega, by go_num, HZ, by rw [List.length_append, List.length_singleton]; omega, ?_, hb3⟩
          rw [intCells_snoc, List.length_append, List.length_singleton]
          exact hown1
        case measure => simp [intOf]; omega
    · obtain rfl : k = n := by omega
      go_wp2_with fail
      go_ret
      exact ⟨_, rfl, by rw [← hzs.out]; exact hown, hb⟩
set_option maxRecDepth 100000 in
theorem sameInts_any (A1 A2 : Option Addr) (n1 n2 c1 c2 : Nat) (xs ys : List Int) (w : World) (h1 : Rd w w.heap.size 1 A1 n1 (intCells xs)) (h2 : Rd w w.heap.size 1 A2 n2 (intCells ys)) (e : xs = ys) (m1 : n1 ≤ 9223372036854775807) :
    Calls Try.prog 49 #[.slice A1 n1 c1, .slice A2 n2 c2] w (RetB (.bool true) w) := by
  subst e
  have l1 : xs.length = n1 := by have := h1.1; simpa [intCells] using this
  have l2 : xs.length = n2 := by have := h2.1; simpa [intCells] using this
  obtain rfl : n1 = n2 := by omega
  have L1 := Lib.hid l1
  clear l1 l2
  go_enter Try.func49, Try.ntmps49
  go_wp2_with fail
  go_loopw [5] (fun x wr => ∃ k : Nat, k ≤ n1 ∧ x = .int .i64 k ∧ Below w.heap.size w wr) (fun x _ => n1 - (intOf x).toNat)
  case atStart => exact ⟨0, by omega, rfl, Below.refl _ _⟩
  case round =>
    obtain ⟨k, hk, rfl, hbl⟩ := hrel
    by_cases hlt : k < n1
    · obtain ⟨b1, o1, u1, rfl, _, hu1, x1⟩ := (h1.below hbl).at1 hlt
      obtain ⟨b2, o2, u2, rfl, _, hu2, x2⟩ := (h2.below hbl).at1 hlt
      rw [intCells, List.getElem?_map, List.getElem?_eq_getElem (by have := L1.out; omega)] at hu1 hu2
      obtain rfl := (Option.some.inj hu1).symm
      obtain rfl := (Option.some.inj hu2).symm
      have j1 : (k : Int) < (n1 : Int) := by omega
      have j0 : (0 : Int) ≤ (k : Int) := by omega
      generalize xs[k]'(by have := L1.out; omega) = z at *
      clear hu1 hu2
      go_wp2_with fail
      go_quiet (fail)
      go_wp2_with fail
      go_roundw
      case rel => exact ⟨k + 1, by omega, by go_num, below_drewN hbl _⟩
      case measure => simp [intOf]; omega
    · obtain rfl : k = n1 := by omega
      go_wp2_with fail
      go_ret
      exact ⟨rfl, hbl⟩
end Go.Proofs.Ytibhnjnfifpepaa
