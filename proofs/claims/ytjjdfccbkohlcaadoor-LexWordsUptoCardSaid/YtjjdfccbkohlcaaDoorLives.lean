/- lives: the examples hold. -/
import Derived.Test.YtjjdfccbkohlcaaDoorWord
namespace Go.Proofs.YtjjdfccbkohlcaaDoor
open Go.RowKit

/-- a Scan whose result is known -/
theorem scan_known (s : ByteArray) (ts : List Lx.Tok) (e : Lx.Bs) (n : Int) (w : World) (hs : s.size ≤ 1000000) (ht : Tabs w) (h : Lx.scanT s.data.toList = (ts, e, n)) :
    Calls Tryd.prog 11 #[.string s] w fun x w' => ∃ A c, x = .returned (.tuple #[.slice A ts.length c, str e, .int .i64 n]) ∧ Rd w' w'.heap.size 2 A ts.length (tokCells ts) ∧ ts.length ≤ c ∧ Below w.heap.size w w' := by
  refine (scan_any s w (by omega) ht).mono ?_
  rintro x w' ⟨v, hx, hown, hb⟩
  rw [h] at hx hown
  obtain ⟨A, c, rfl, hc⟩ := own_slice hown
  exact ⟨A, c, hx, Rd.of_own hown, hc, hb⟩

theorem Rd.lit (w : World) (e : TypeId) (cs : List Value) : Rd (w.alloc (.cells cs.toArray e)) (w.alloc (.cells cs.toArray e)).heap.size 1 (some ⟨w.heap.size, 0, none⟩) cs.length cs := by
  refine ⟨by simp, fun _ => ⟨w.heap.size, 0, rfl, by simp, fun j u hj => ?_⟩⟩
  rw [Nat.zero_add, World.cell?_alloc_at _ _ _ _ rfl]
  simpa using hj
theorem Rd.go {w w' : World} {size n : Nat} {A : Option Addr} {xs : List Value} (h : Rd w w.heap.size size A n xs) (hb : Below w.heap.size w w') : Rd w' w'.heap.size size A n xs := (h.below hb).more hb.size
theorem below_new (w : World) (o : Obj) : Below w.heap.size w (w.alloc o) := (Below.refl _ _).alloc (Nat.le_refl _) o
theorem tabs_go {w w' : World} (h : Tabs w) (hb : Below w.heap.size w w') : Tabs w' := below_tabs hb (Nat.le_refl _) h
theorem kw_go {w w' : World} (h : Kw w) (hb : Below w.heap.size w w') : Kw w' := below_kw hb (Nat.le_refl _) h
theorem below_go {w w1 w2 : World} (h : Below w.heap.size w w1) (hb : Below w1.heap.size w1 w2) : Below w.heap.size w w2 := h.trans (hb.mono h.size)
/-- a list of strings that comes back -/
theorem OwnPost.open_ {base : Nat} {ty : TypeId} {size n : Nat} {xs : List Value} {w : World} {e : Ending} {w' : World} (h : OwnPost base ty size n xs w e w') : ∃ A c, e = .returned (.slice A n c) ∧ Rd w' w'.heap.size size A n xs ∧ n ≤ c ∧ Below w.heap.size w w' := by
  obtain ⟨v, hx, hown, hb⟩ := h
  obtain ⟨A, c, rfl, hc⟩ := own_slice hown
  exact ⟨A, c, hx, Rd.of_own hown, hc, hb⟩
theorem lit1 : Lx.scanT [102, 40, 97, 41, 32, 35, 32, 120] = ([⟨[102], []⟩, ⟨[40], []⟩, ⟨[97], []⟩, ⟨[41], []⟩], [32, 35, 32, 120], -1) := by decide +kernel
theorem lit2 : Lx.scanT [97, 61, 61, 45, 49] = ([⟨[97], []⟩, ⟨[61, 61], []⟩, ⟨[45], []⟩, ⟨[49], []⟩], [], -1) := by decide +kernel
theorem lit3 : Lx.scanT [97, 32, 63, 32, 98] = ([], [], 2) := by decide +kernel

set_option maxHeartbeats 1000000 in
set_option maxRecDepth 100000 in
theorem lives_any (w : World) (ht : Tabs w) (hk : Kw w) : Calls Tryd.prog 15 #[] w (RetB (.bool true) w) := by
  go_enter Tryd.func15, Tryd.ntmps15
  go_wp2_with fail
  refine (scan_known _ _ _ _ _ (by decide) ht lit1).mono ?_
  rintro e w1 ⟨A1, c1, rfl, r1, -, b1⟩
  have ht := tabs_go ht b1
  have hk := kw_go hk b1
  go_wp2_with fail
  refine (scan_known _ _ _ _ _ (by decide) ht lit2).mono ?_
  rintro e w2 ⟨A2, c2, rfl, r2, -, b2⟩
  have ht := tabs_go ht b2
  have hk := kw_go hk b2
  have r1 := r1.go b2
  have b1 := below_go b1 b2
  clear b2
  go_wp2_with fail
  refine (scan_known _ _ _ _ _ (by decide) ht lit3).mono ?_
  rintro e w3 ⟨A3, c3, rfl, -, -, b3⟩
  have ht := tabs_go ht b3
  have hk := kw_go hk b3
  have r1 := r1.go b3
  have r2 := r2.go b3
  have b1 := below_go b1 b3
  clear b3
  go_wp2_with fail
  have q1 := Rd.lit w3 9 (strCells [[102], [40], [97], [44], [98], [41], [46], [120]])
  have b3 := below_new w3 (.cells (strCells [[102], [40], [97], [44], [98], [41], [46], [120]]).toArray 9)
  have ht := tabs_go ht b3
  have hk := kw_go hk b3
  have r1 := r1.go b3
  have r2 := r2.go b3
  have b1 := below_go b1 b3
  clear b3
  refine (usual_any _ 8 8 [[102], [40], [97], [44], [98], [41], [46], [120]] _ q1 (by omega)).mono ?_
  rintro e w4 h4
  obtain ⟨A4, c4, rfl, r4, -, b4⟩ := h4.open_
  have ht := tabs_go ht b4
  have hk := kw_go hk b4
  have r1 := r1.go b4
  have r2 := r2.go b4
  have b1 := below_go b1 b4
  clear b4 q1 h4
  go_wp2_with fail
  have q2 := Rd.lit w4 9 (strCells [[], [32], [], [], [32], [], [], [], []])
  have b4 := below_new w4 (.cells (strCells [[], [32], [], [], [32], [], [], [], []]).toArray 9)
  have ht := tabs_go ht b4
  have hk := kw_go hk b4
  have r1 := r1.go b4
  have r2 := r2.go b4
  have r4 := r4.go b4
  have b1 := below_go b1 b4
  clear b4
  refine (texts_any _ 4 _ _ _ r1 rfl (by omega)).mono ?_
  rintro e w5 h5
  obtain ⟨A5, c5, rfl, r5, -, b5⟩ := h5.open_
  have ht := tabs_go ht b5
  have hk := kw_go hk b5
  have r1 := r1.go b5
  have r2 := r2.go b5
  have r4 := r4.go b5
  have q2 := q2.go b5
  have b1 := below_go b1 b5
  clear b5 h5
  go_wp2_with fail
  have q3 := Rd.lit w5 9 (strCells [[102], [40], [97], [41]])
  have b6 := below_new w5 (.cells (strCells [[102], [40], [97], [41]]).toArray 9)
  have ht := tabs_go ht b6
  have hk := kw_go hk b6
  have r1 := r1.go b6
  have r2 := r2.go b6
  have r4 := r4.go b6
  have r5 := r5.go b6
  have q2 := q2.go b6
  have b1 := below_go b1 b6
  clear b6
  refine (sameTexts_any _ _ 4 4 _ _ _ [[102], [40], [97], [41]] _ r5 q3 rfl rfl (by omega) true (Lib.hid (by decide))).mono ?_
  rintro e w6 ⟨rfl, b6⟩
  have ht := tabs_go ht b6
  have hk := kw_go hk b6
  have r1 := r1.go b6
  have r2 := r2.go b6
  have r4 := r4.go b6
  have q2 := q2.go b6
  have b1 := below_go b1 b6
  clear b6 r5 q3
  obtain ⟨b, o, rfl, hbb, -, x1⟩ := r1.tok (k := 1) rfl (by decide)
  clear r1
  go_wp2_with fail
  refine (texts_any _ 4 _ _ _ r2 rfl (by omega)).mono ?_
  rintro e w7 h7
  obtain ⟨A7, c7, rfl, r7, -, b7⟩ := h7.open_
  have ht := tabs_go ht b7
  have hk := kw_go hk b7
  have r4 := r4.go b7
  have q2 := q2.go b7
  have b1 := below_go b1 b7
  clear b7 h7 r2
  go_wp2_with fail
  have q3 := Rd.lit w7 9 (strCells [[97], [61, 61], [45], [49]])
  have b8 := below_new w7 (.cells (strCells [[97], [61, 61], [45], [49]]).toArray 9)
  have ht := tabs_go ht b8
  have hk := kw_go hk b8
  have r4 := r4.go b8
  have r7 := r7.go b8
  have q2 := q2.go b8
  have b1 := below_go b1 b8
  clear b8
  refine (sameTexts_any _ _ 4 4 _ _ _ [[97], [61, 61], [45], [49]] _ r7 q3 rfl rfl (by omega) true (Lib.hid (by decide))).mono ?_
  rintro e w8 ⟨rfl, b8⟩
  have ht := tabs_go ht b8
  have hk := kw_go hk b8
  have r4 := r4.go b8
  have q2 := q2.go b8
  have b1 := below_go b1 b8
  clear b8 r7 q3
  go_wp2_with fail
  refine (sameTexts_any _ _ 9 9 _ _ _ [[], [32], [], [], [32], [], [], [], []] _ r4 q2 rfl rfl (by omega) true (Lib.hid (by decide +kernel))).mono ?_
  rintro e w9 ⟨rfl, b9⟩
  have ht := tabs_go ht b9
  have hk := kw_go hk b9
  have b1 := below_go b1 b9
  clear b9 r4 q2
  go_wp2_with fail
  refine (word_any _ _ (by decide) ht hk true (Lib.hid (by decide +kernel))).mono ?_
  rintro e w10 ⟨rfl, b9⟩
  have ht := tabs_go ht b9
  have hk := kw_go hk b9
  have b1 := below_go b1 b9
  clear b9
  go_wp2_with fail
  refine (word_any _ _ (by decide) ht hk false (Lib.hid (by decide +kernel))).mono ?_
  rintro e w11 ⟨rfl, b9⟩
  have ht := tabs_go ht b9
  have hk := kw_go hk b9
  have b1 := below_go b1 b9
  clear b9
  go_wp2_with fail
  refine (word_any _ _ (by decide) ht hk false (Lib.hid (by decide +kernel))).mono ?_
  rintro e w12 ⟨rfl, b9⟩
  have b1 := below_go b1 b9
  go_wp2_with fail
  go_ret
  exact ⟨rfl, b1⟩
end Go.Proofs.YtjjdfccbkohlcaaDoor
