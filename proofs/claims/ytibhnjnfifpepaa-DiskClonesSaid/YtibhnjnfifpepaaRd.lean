/- Slices that read as a list of cells, nil let in. -/
import Derived.Test.YtibhnjnfifpepaaRead
import Derived.Laws.Rows
import Derived.Lib.Hide
import Derived.Laws.OwnMore
import Derived.OwnWalk
namespace Go.Proofs.Ytibhnjnfifpepaa
open Go.RowKit

/-- the slice at A, of n elements of some cells each, holds the cells xs, below block B -/
def Rd (w : World) (B size : Nat) (A : Option Addr) (n : Nat) (xs : List Value) : Prop :=
  xs.length = n * size ∧ (0 < n → ∃ b off, A = some ⟨b, off, none⟩ ∧ b < B ∧ ∀ j u, xs[j]? = some u → w.cell? ⟨b, off + j, none⟩ = some u)

section
variable {w w' : World} {B B' size n : Nat} {A : Option Addr} {xs : List Value}
theorem Rd.nil : Rd w B size A 0 [] := ⟨by simp, fun h => absurd h (by omega)⟩
theorem Rd.keep (h : Rd w B size A n xs) (hk : ∀ p : Addr, p.block < B → w'.cell? p = w.cell? p) : Rd w' B size A n xs :=
  ⟨h.1, fun hn => by
    obtain ⟨b, off, e, hb, hc⟩ := h.2 hn
    exact ⟨b, off, e, hb, fun j u hu => (hk _ hb).trans (hc j u hu)⟩⟩
theorem Rd.more (h : Rd w B size A n xs) (hB : B ≤ B') : Rd w B' size A n xs :=
  ⟨h.1, fun hn => by
    obtain ⟨b, off, e, hb, hc⟩ := h.2 hn
    exact ⟨b, off, e, by omega, hc⟩⟩
theorem Rd.below (h : Rd w B size A n xs) (hb : Below B w w') : Rd w' B size A n xs := h.keep fun _ hp => hb.cell hp
theorem Rd.of_own {base : Nat} {e : TypeId} {c : Nat} (h : w.ownsRow base e size (.slice A n c) n xs) : Rd w w.heap.size size A n xs := by
  refine ⟨h.1, fun hn => ?_⟩
  rcases h.2 with ⟨_, h0⟩ | ⟨g, cap, cur, hv, _, hg, _⟩
  · omega
  have hlt : g < w.heap.size := (Array.getElem?_eq_some_iff.1 hg).1
  have hA : A = some ⟨g, 0, none⟩ := by injection hv
  subst hA
  refine ⟨g, 0, rfl, hlt, fun j u hu => ?_⟩
  have := h.cells (g := g) rfl j u hu
  rwa [show (⟨g, 0, none⟩ : Addr).add j = ⟨g, 0 + j, none⟩ from by unfold Addr.add; split <;> simp_all] at this
/-- 's[k:m]' -/
theorem Rd.cut (h : Rd w B size A n xs) {k m cap : Nat} (hk : k ≤ m) (hm : m ≤ n) (hc : n ≤ cap) :
    Rd w B size (if cap = k then A else A.map (·.add (k * size))) (m - k) ((xs.drop (k * size)).take ((m - k) * size)) := by
  have hl := h.1
  have h1 : k * size + (m - k) * size ≤ n * size := by rw [← Nat.add_mul]; exact Nat.mul_le_mul_right _ (by omega)
  refine ⟨by rw [List.length_take, List.length_drop]; omega, fun hn => ?_⟩
  obtain ⟨b, off, rfl, hb, hcell⟩ := h.2 (by omega)
  rw [if_neg (by omega)]
  refine ⟨b, off + k * size, by simp [Addr.add], hb, fun j u hu => ?_⟩
  rw [Nat.add_assoc]
  refine hcell _ u ?_
  rw [List.getElem?_take] at hu
  split at hu
  · rwa [List.getElem?_drop] at hu
  · cases hu
theorem own_slice {base : Nat} {e : TypeId} {v : Value} (h : w.ownsRow base e size v n xs) : ∃ A c, v = .slice A n c ∧ n ≤ c := by
  rcases h.2 with ⟨rfl, rfl⟩ | ⟨g, cap, cur, rfl, _, _, hc, _⟩
  · exact ⟨none, 0, rfl, Nat.le_refl _⟩
  · exact ⟨_, cap, rfl, hc⟩
theorem own_below {base : Nat} {e : TypeId} {v : Value} (h : w.ownsRow base e size v n xs) (hb : Below w.heap.size w w') : w'.ownsRow base e size v n xs :=
  h.kept (row := none) ⟨hb.os, hb.tape, hb.output, hb.size, fun i hi _ => hb.block i hi⟩ (by cases hv : v.ownBlock <;> simp)
/-- element k of a slice of one-cell elements -/
theorem Rd.at1 (h : Rd w B 1 A n xs) {k : Nat} (hk : k < n) : ∃ b off u, A = some ⟨b, off, none⟩ ∧ b < B ∧ xs[k]? = some u ∧ w.cell? ⟨b, off + k, none⟩ = some u := by
  obtain ⟨b, off, e, hb, hc⟩ := h.2 (by omega)
  have hl : k < xs.length := by have := h.1; omega
  exact ⟨b, off, xs[k], e, hb, List.getElem?_eq_getElem hl, hc k _ (List.getElem?_eq_getElem hl)⟩
end
theorem below_mono {B B' : Nat} {w w' : World} (h : Below B w w') (hB : B' ≤ B) : Below B' w w' := h.mono hB
/-- block g is just these cells, none frozen -/
def Blk (w : World) (g : Nat) (t : TypeId) (cs : Array Value) : Prop := w.heap[g]? = some (.cells cs t (0, 0))
section
variable {w w' : World} {g : Nat} {t : TypeId} {cs : Array Value}
theorem Blk.lt (h : Blk w g t cs) : g < w.heap.size := (Array.getElem?_eq_some_iff.1 h).1
theorem Blk.cell (h : Blk w g t cs) (i : Nat) : w.cell? ⟨g, i, none⟩ = cs[i]? := cell_of_row w g i cs t (0, 0) h
theorem Blk.frozen (h : Blk w g t cs) (i : Nat) : w.frozen? ⟨g, i, none⟩ = false := by
  unfold Blk at h
  simp [World.frozen?, h]
theorem Blk.new (w : World) (t : TypeId) (cs : Array Value) : Blk (w.alloc (.cells cs t)) w.heap.size t cs := heap_alloc_new w _
theorem Blk.drewN (h : Blk w g t cs) (n : Nat) : Blk (w.drewN n) g t cs := h
theorem Blk.set_ (h : Blk w g t cs) (i : Nat) (u : Value) : Blk (w.setCell ⟨g, i, none⟩ u) g t (cs.setIfInBounds i u) := by
  unfold Blk at h ⊢
  simp [World.setCell, Array.getElem?_modify, h]
theorem Blk.below {B : Nat} (h : Blk w g t cs) (hb : Below B w w') (hg : g < B) : Blk w' g t cs := (hb.block g hg).trans h
end

theorem run_make_rowN {P : Program} (t e : TypeId) (i : TypeInfo) (z : Value) (ht : P.underlying t = some (.slice e)) (hi : P.info? e = some i) (hz : i.zero = some z)
    (kl kc : IntKind) (n c : Nat) (hnc : n ≤ c) (hbytes : i.bytes * c ≤ 281474976710656) (h63 : c ≤ 9223372036854775807) (w : World) :
    (Instr.makeSlice t (.int kl (n : Int)) (.int kc (c : Int))).run P w = .ok (.slice (some ⟨w.heap.size, 0, none⟩) n c) (w.alloc (.cells (madeCells z.cells (c * i.size)) e)) := by
  have hb : (i.bytes : Int) * (c : Int) ≤ 281474976710656 := by
    have h : ((i.bytes * c : Nat) : Int) ≤ 281474976710656 := by omega
    rwa [Int.natCast_mul] at h
  have hr := run_make (P := P) w t e i z ht hi hz kl kc n c (by omega) (by omega) hb (by omega)
  simp only [Int.toNat_natCast] at hr
  exact hr
theorem made_list (v : Value) (n : Nat) : (madeCells #[v] n).toList = List.replicate n v := by
  apply List.ext_getElem
  · simp [madeCells]
  · intro i h1 h2
    simp [madeCells, Nat.mod_one]

/-- what stands before token i -/
abbrev str (l : Bs) : Value := .string ⟨l.toArray⟩
theorem arr_eq (a b : Bs) : ((⟨a.toArray⟩ : ByteArray).toList == (⟨b.toArray⟩ : ByteArray).toList) = (a == b) := by rw [Lib.toList_data, Lib.toList_data]
theorem take_eq_succ {α : Type} {xs ys : List α} {k : Nat} (h1 : k < xs.length) (h2 : k < ys.length) (he : xs.take k = ys.take k) (hx : xs[k] = ys[k]) : xs.take (k + 1) = ys.take (k + 1) := by
  rw [List.take_succ_eq_append_getElem h1, List.take_succ_eq_append_getElem h2, he, hx]
theorem below_drewN {B : Nat} {w w' : World} (h : Below B w w') (n : Nat) : Below B w (w'.drewN n) := ⟨h.os, h.tape, h.output, h.size, h.block⟩
theorem RetB.bool {a b : Bool} {w w' : World} (h : a = b) (hb : Below w.heap.size w w') : RetB (.bool b) w (.returned (.bool a)) w' := by rw [h]; exact ⟨rfl, hb⟩
theorem Rd.go {w w' : World} {size n : Nat} {A : Option Addr} {xs : List Value} (h : Rd w w.heap.size size A n xs) (hb : Below w.heap.size w w') : Rd w' w'.heap.size size A n xs := (h.below hb).more hb.size
theorem below_go {w w1 w2 : World} (h : Below w.heap.size w w1) (hb : Below w1.heap.size w1 w2) : Below w.heap.size w w2 := h.trans (hb.mono h.size)

def strCells (ss : List Bs) : List Value := ss.map str
theorem strCells_at {ss : List Bs} {k : Nat} (h : k < ss.length) : (strCells ss)[k]? = some (str ss[k]) := by simp [strCells, h]
/-- element k of a slice of strings -/
theorem Rd.str {w : World} {B : Nat} {A : Option Addr} {n : Nat} {ss : List Bs} (h : Rd w B 1 A n (strCells ss)) (hn : ss.length = n) {k : Nat} (hk : k < n) :
    ∃ b off, A = some ⟨b, off, none⟩ ∧ b < B ∧ w.cell? ⟨b, off + k, none⟩ = some (.string ⟨(ss[k]'(by omega)).toArray⟩) := by
  obtain ⟨b, off, e, hb, hc⟩ := h.2 (by omega)
  exact ⟨b, off, e, hb, hc _ _ (strCells_at (by omega))⟩

set_option maxRecDepth 100000 in
theorem sameTexts_any (A1 A2 : Option Addr) (n1 n2 c1 c2 : Nat) (xs ys : List Bs) (w : World) (h1 : Rd w w.heap.size 1 A1 n1 (strCells xs)) (h2 : Rd w w.heap.size 1 A2 n2 (strCells ys)) (e1 : xs.length = n1) (e2 : ys.length = n2)
    (m1 : n1 ≤ 9223372036854775807) (b : Bool) (hb : Hid (decide (xs = ys) = b)) :
    Calls Try.prog 16 #[.slice A1 n1 c1, .slice A2 n2 c2] w (RetB (.bool b) w) := by
  have E1 := Lib.hid e1
  have E2 := Lib.hid e2
  clear e1 e2
  by_cases hne : n1 = n2
  · subst hne
    go_enter Try.func16, Try.ntmps16
    go_wp2_with fail
    go_loopw [5] (fun x wr => ∃ k : Nat, k ≤ n1 ∧ x = .int .i64 k ∧ xs.take k = ys.take k ∧ Below w.heap.size w wr) (fun x _ => n1 - (intOf x).toNat)
    case atStart => exact ⟨0, by omega, rfl, by simp, Below.refl _ _⟩
    case round =>
      obtain ⟨k, hk, rfl, he, hbl⟩ := hrel
      have Ht := Lib.hid he
      clear he
      by_cases hlt : k < n1
      · obtain ⟨b1, o1, rfl, hb1, x1⟩ := (h1.below hbl).str E1.out hlt
        obtain ⟨b2, o2, rfl, hb2, y1⟩ := (h2.below hbl).str E2.out hlt
        have l1 : k < xs.length := by have := E1.out; omega
        have l2 : k < ys.length := by have := E2.out; omega
        obtain ⟨p, hp⟩ : ∃ p : ByteArray, p = ⟨xs[k].toArray⟩ := ⟨_, rfl⟩
        obtain ⟨q, hq⟩ : ∃ q : ByteArray, q = ⟨ys[k].toArray⟩ := ⟨_, rfl⟩
        have He : Hid ((p.toList == q.toList) = (xs[k] == ys[k])) := Lib.hid (by rw [hp, hq, arr_eq])
        rw [← hp] at x1
        rw [← hq] at y1
        clear hp hq
        cases hx : p.toList == q.toList
        · have Hx := Lib.hid (He.out.symm.trans hx)
          go_wp2_with fail
          go_quiet (fail)
          go_wp2_with fail
          go_ret
          refine RetB.bool ?_ (below_drewN hbl _)
          rw [← hb.out]
          simp only [Bool.false_eq, decide_eq_false_iff_not]
          intro e
          subst e
          exact absurd rfl (beq_eq_false_iff_ne.1 Hx.out)
        · have Hx := Lib.hid (He.out.symm.trans hx)
          go_wp2_with fail
          go_quiet (fail)
          go_wp2_with fail
          go_roundw
          case rel => exact ⟨k + 1, by omega, by go_num, take_eq_succ l1 l2 Ht.out (beq_iff_eq.1 Hx.out), below_drewN hbl _⟩
          case measure => simp [intOf]; omega
      · go_wp2_with fail
        go_ret
        refine RetB.bool ?_ hbl
        rw [← hb.out]
        obtain rfl : k = n1 := by omega
        have := Ht.out
        rw [List.take_of_length_le (by have := E1.out; omega), List.take_of_length_le (by have := E2.out; omega)] at this
        simp [this]
  · go_enter Try.func16, Try.ntmps16
    go_wp2_with fail
    go_ret
    refine RetB.bool ?_ (Below.refl _ _)
    rw [← hb.out]
    simp only [Bool.false_eq, decide_eq_false_iff_not]
    intro e
    subst e
    exact hne (E1.out.symm.trans E2.out)
end Go.Proofs.Ytibhnjnfifpepaa
