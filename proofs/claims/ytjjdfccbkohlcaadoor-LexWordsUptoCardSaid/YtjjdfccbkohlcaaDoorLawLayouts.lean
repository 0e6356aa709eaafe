/- The walk of LexLayouts. -/
import Derived.Test.YtjjdfccbkohlcaaDoorLayout
import Derived.Test.YtjjdfccbkohlcaaDoorLawJoins
namespace Go.Proofs.YtjjdfccbkohlcaaDoor
open Go.RowKit

def Apart (u v : Value) : Prop := ∀ g, u.ownBlock = some g → v.ownBlock ≠ some g
theorem Apart.symm {u v : Value} (h : Apart u v) : Apart v u := fun g h1 h2 => h g h2 h1
theorem Apart.row {u v : Value} (h : Apart u v) : v.ownBlock = none ∨ v.ownBlock ≠ u.ownBlock := by
  cases hu : v.ownBlock with
  | none => exact .inl rfl
  | some g => exact .inr fun e => h g (by rw [← e]) hu
/-- what lies in the old row or in a new block lies apart -/
theorem apart_new {u v : Value} {g H n cap : Nat} (h : Apart u v) (hat : u.ownBlock = some g ∨ g = H) (hv : ∀ k, v.ownBlock = some k → k < H) : Apart (.slice (some ⟨g, 0, none⟩) n cap) v := by
  intro g' e hv'
  have e' : g = g' := by simpa [Value.ownBlock] using e
  subst e'
  rcases hat with h1 | h1
  · exact h _ h1 hv'
  · have := hv _ hv'; omega
theorem strCells_get (ss : List Lx.Bs) {k : Nat} (h : k < ss.length) : (strCells ss)[k]? = some (str (ss.getD k [])) := by simp [strCells, h]
theorem usualCells_get (ss : List Lx.Bs) {k : Nat} (h : k < ss.length + 1) : (strCells (usualL ss))[k]? = some (str (usualAt ss k)) := by
  rw [strCells, List.getElem?_map, usual_get ss k h]; rfl

set_option maxHeartbeats 16000000 in
set_option maxRecDepth 100000 in
theorem lexLayouts_walk (A A' : Option Addr) (n0 c0 n' c' : Nat) (zs ys : List Int) (last : Int) (w : World) (h1 : Rd w w.heap.size 1 A n0 (intCells zs)) (hf : Fits zs)
    (h1' : Rd w w.heap.size 1 A' n' (intCells ys)) (hf' : Fits ys) (l1 : -9223372036854775808 ≤ last) (l2 : last ≤ 9223372036854775807) (ht : Tabs w) (hkw : Kw w) :
    Calls Tryd.prog 6 #[.slice A n0 c0, .slice A' n' c', .int .i64 last] w (RetB (.bool true) w) := by
  obtain ⟨i0, hi, hz0, hz1, hz2⟩ := info_parts info38
  go_enter Tryd.func6, Tryd.ntmps6
  go_wp2_with fail
  refine (pieces_any _ _ _ _ _ h1 hf).mono ?_
  rintro e w1 he1
  obtain ⟨A1, c1, rfl, r1, -, b1⟩ := he1.open_
  clear he1
  have LS := Lib.hid (fun k sm => lay_scan zs ys k sm)
  have US := Lib.hid (usu_scan zs)
  have LZ := Lib.hid (lay_small zs ys)
  have UZ := Lib.hid (usu_small zs)
  have UL := Lib.hid (usual_last zs)
  have hn30 := pieces_le zs
  generalize pieces zs = ws at *
  obtain ⟨n, hn⟩ : ∃ n, n = ws.length := ⟨_, rfl⟩
  rw [← hn] at r1 hn30 ⊢
  have HN := Lib.hid hn
  clear hn
  go_wp2_with fail
  refine (usual_any _ _ _ _ _ r1 (by omega)).mono ?_
  rintro e w2 he2
  obtain ⟨A2, c2, rfl, r2, -, b2⟩ := he2.open_
  clear he2
  have r1 := r1.go b2
  have b1 := below_go b1 b2
  clear b2
  have x1 : (((n + 1 : Nat) : Int) != (n : Int) + 1) = false := by simp
  go_wp2_with fail
  go_loopw [8, 9, 11] (fun v8 v9 x wr => ∃ k : Nat, k ≤ n ∧ x = .int .i64 k ∧ wr.ownsRow w2.heap.size 38 2 v8 k (tokCells (layTo (layTok ys ws) k)) ∧ wr.ownsRow w2.heap.size 38 2 v9 k (tokCells (layTo (usuTok ws) k)) ∧ Apart v8 v9 ∧ Below w2.heap.size w2 wr) (fun _ _ x _ => n - (intOf x).toNat)
  case atStart => exact ⟨0, by omega, rfl, World.ownsRow_nil _ _ _ _, World.ownsRow_nil _ _ _ _, (fun g h => by simp [Value.ownBlock] at h), Below.refl _ _⟩
  case round =>
    obtain ⟨k, hk, rfl, hown8, hown9, hap, hb⟩ := hrel
    have hsz := hb.size
    by_cases hlt : k < n
    · obtain ⟨b, o, u, rfl, hbb, hu, x2⟩ := (r1.below hb).at1 hlt
      rw [strCells_get ws (by have := HN.out; omega)] at hu
      injection hu with hu
      subst hu
      obtain ⟨b', o', u, rfl, hbb', hu, x3⟩ := (r2.below hb).at1 (show k < n + 1 by omega)
      rw [usualCells_get ws (by have := HN.out; omega)] at hu
      injection hu with hu
      subst hu
      obtain ⟨r, hr, hr4⟩ := at_nat ys k 4000 (by omega)
      have Hr : Hid ((r : Int) = atI ys (k : Int) 4000) := Lib.hid hr
      obtain ⟨k1, hk1, hk1'⟩ := around_nat (r : Int) 1000000 (by omega)
      have K1 := Lib.hid hk1
      have hTk : layTok ys ws k = ⟨ws.getD k [], gapB k1 (k : Int)⟩ := by have e1 : atI ys (k : Int) 4000 = (r : Int) := hr.symm; have e2 : aroundI (r : Int) 1000000 = (k1 : Int) := hk1.symm; rw [layTok, e1, e2, Int.toNat_natCast]
      have hUk : usuTok ws k = ⟨ws.getD k [], usualAt ws k⟩ := rfl
      have TK := Lib.hid ((layTo_succ (layTok ys ws) k).trans (by rw [hTk]))
      have UK := Lib.hid ((layTo_succ (usuTok ws) k).trans (by rw [hUk]))
      clear hr hk1 hTk hUk
      obtain ⟨tx, htx⟩ : ∃ tx, tx = ws.getD k [] := ⟨_, rfl⟩
      obtain ⟨ux, hux⟩ : ∃ ux, ux = usualAt ws k := ⟨_, rfl⟩
      obtain ⟨gx, hgx⟩ : ∃ gx, gx = gapB k1 (k : Int) := ⟨_, rfl⟩
      rw [← htx, ← hgx] at TK
      rw [← htx, ← hux] at UK
      rw [← htx] at x2
      rw [← hux] at x3
      have GP : ∀ W : World, Calls Tryd.prog 19 #[.int .i64 (r : Int), .int .i64 (k : Int)] W (RetB (.string ⟨gx.toArray⟩) W) := fun W => by rw [hgx]; exact gap_any _ _ _ (by omega) (by omega) k1 K1 hk1'
      clear htx hux hgx
      have hm : Rd wr.drew wr.drew.heap.size 1 A' n' (intCells ys) := Rd.go (w' := wr.drew) h1' (below_go b1 hb.drew)
      go_wp2_with fail
      have i1 : (0 : Int) ≤ (k : Int) := by omega
      have i2 : (k : Int) < (n : Int) := by omega
      have i3 : (k : Int) < (n : Int) + 1 := by omega
      unfold str at x2 x3
      have ag : u8.ownBlock ≠ some b := fun e => by have := (hown8.lt b e).1; omega
      have ag9 : u9.ownBlock ≠ some b := fun e => by have := (hown9.lt b e).1; omega
      have ag9' : u9.ownBlock ≠ some b' := fun e => by have := (hown9.lt b' e).1; omega
      go_region_held3 (fun W => W.cell? ⟨b, o + k, none⟩ = some (.string ⟨tx.toArray⟩))
        (first | exact y1 | (rw [hgrow.cell_far _ (by simp; omega) (Ne.symm ag)]; assumption) | go_keep)
        (first | (have _ := y1; refine step_append_lies _ (by rfl) _ _ _ (by rfl) w2.heap.size 38 i0 _ 2 32 Tryd.underlying27 hi hz0 hz1 hz2 rfl (by omega) u8 k _ (by rfl) (hown8'.alloc _) ⟨w3.heap.size, 0, none⟩ 1 1 [str tx, str gx] (by rfl) (by rfl) (World.news_of_block (cs := #[str tx, str gx]) (t := 38) (fr := (0, 0)) (heap_alloc_new w3 _)) (by simp [Value.oneCell', str]) (by omega) (by unfold maxLen; omega) (by omega) (by simp; omega) (w3.heap.size + 1) (by simp) ?_; intro gg cap w4 hown8'' hgrow hat hlt2) | (go_at_call 20; refine (at_any _ _ _ ys k 4000 _ hm hf' (by omega) (by omega) (by omega) r Hr).mono ?_; rintro e w' ⟨rfl, rfl⟩) | (go_at_call 19; refine (GP _).mono ?_; rintro e w3 ⟨rfl, hb3⟩; have y1 := (hb3.cell (p := ⟨b, o + k, none⟩) (by show b < wr.heap.size; omega)).trans x2; have hown8' := own_below (w := wr.drew) hown8 hb3; have hsz3 : wr.heap.size ≤ w3.heap.size := hb3.size))
      have q9 := own_below (w := wr.drew) hown9 hb3
      have ap8 := apart_new (n := k + 1) (cap := cap) hap hat (fun g hg => Nat.lt_succ_of_lt (q9.lt g hg).2)
      have q9' := (q9.alloc (.cells #[str tx, str gx] 38)).kept hgrow hap.row
      have hb5 : Below w2.heap.size w2 w3 := hb.drew.trans (hb3.mono hsz)
      have hb6 : Below w2.heap.size w2 w4 := (hb5.alloc (by omega) _).grown hgrow (by simp; omega) (fun g hg => (hown8.lt g hg).1)
      have x2' : w4.cell? ⟨b, o + k, none⟩ = some (.string ⟨tx.toArray⟩) := (hb6.cell (p := ⟨b, o + k, none⟩) hbb).trans ((hb.cell (p := ⟨b, o + k, none⟩) hbb).symm.trans x2)
      have x3' : w4.cell? ⟨b', o' + k, none⟩ = some (.string ⟨ux.toArray⟩) := (hb6.cell (p := ⟨b', o' + k, none⟩) hbb').trans ((hb.cell (p := ⟨b', o' + k, none⟩) hbb').symm.trans x3)
      have hsz6 := hb6.size
      clear hgrow hown8 hown9 hown8' q9 hb3 hb5 x2 x3 hb hsz hsz3 hap hm hat y1
      generalize w4 = w5 at *
      go_wp2_with fail
      go_region_held3 (fun W => W.cell? ⟨b, o + k, none⟩ = some (.string ⟨tx.toArray⟩) ∧ W.cell? ⟨b', o' + k, none⟩ = some (.string ⟨ux.toArray⟩))
        (first | go_keep | (go_split_ands; refine ⟨?_, ?_⟩ <;> (first | (rw [hgrow.cell_far _ (by simp; omega) (Ne.symm ag9)]; assumption) | (rw [hgrow.cell_far _ (by simp; omega) (Ne.symm ag9')]; assumption))))
        ((refine step_append_lies _ (by rfl) _ _ _ (by rfl) w2.heap.size 38 i0 _ 2 32 Tryd.underlying27 hi hz0 hz1 hz2 rfl (by omega) u9 k _ (by rfl) ((q9'.alloc _).drew) ⟨w5.heap.size, 0, none⟩ 1 1 [str tx, str ux] (by rfl) (by rfl) (World.news_of_block (cs := #[str tx, str ux]) (t := 38) (fr := (0, 0)) (heap_alloc_new w5 _)) (by simp [Value.oneCell', str]) (by omega) (by unfold maxLen; omega) (by omega) (by simp; omega) (w5.heap.size + 1) (by simp) ?_; intro gg9 cap9 w6 hown9'' hgrow hat hlt9))
      have q8 := own_below (w := w5) hown8'' ((below_new w5 (.cells #[str tx, str ux] 38)))
      have ap9 := apart_new (n := k + 1) (cap := cap9) ap8.symm hat (fun g hg => Nat.lt_succ_of_lt (hown8''.lt g hg).2)
      have q8' := q8.drew.kept hgrow (ap8.symm).row
      have hb7 : Below w2.heap.size w2 w6 := ((hb6.alloc hsz6 _).drew).grown hgrow (by simp; omega) (fun g hg => (q9'.lt g hg).1)
      clear hgrow hown8'' q9' q8 hb6 x2' x3' hat
      go_wp2_with fail
      go_roundw
      case rel =>
        refine ⟨k + 1, by omega, by go_num, ?_, ?_, ap9.symm, hb7⟩
        · rw [TK.out, tokCells_snoc]; exact q8'
        · rw [UK.out, tokCells_snoc]; exact hown9''
      case measure => simp [intOf]; omega
    · obtain rfl : n = k := by omega
      obtain ⟨A8, c8, rfl, hc8⟩ := own_slice hown8
      obtain ⟨A9, c9, rfl, hc9⟩ := own_slice hown9
      have r8 := Rd.of_own hown8
      have r9 := Rd.of_own hown9
      obtain ⟨b', o', u, rfl, hbb', hu, x3⟩ := (r2.below hb).at1 (show n < n + 1 by omega)
      rw [usualCells_get ws (by have := HN.out; omega), HN.out, UL.out] at hu
      injection hu with hu
      subst hu
      clear hown8 hown9 hap
      obtain ⟨k3, hk3, hk3'⟩ := around_nat last 1000000 (by omega)
      have K3 := Lib.hid hk3
      clear hk3
      have S1 := Lib.hid (LS.out k3 0)
      have G3 := gapB_len k3 0
      obtain ⟨G, hG⟩ : ∃ G, G = gapB k3 0 := ⟨_, rfl⟩
      rw [← hG] at S1 G3
      have GP : ∀ W : World, Calls Tryd.prog 19 #[.int .i64 last, .int .i64 0] W (RetB (.string ⟨G.toArray⟩) W) := fun W => by rw [hG]; exact gap_any _ _ _ l1 l2 k3 K3 hk3'
      clear hG
      have LT := layTo_length (layTok ys ws) ws.length
      have UT := layTo_length (usuTok ws) ws.length
      have S2 := US
      have Z1 := LZ.out
      have Z2 := UZ.out
      rw [← HN.out] at S1 S2 Z1 Z2 LT UT
      clear LS US LZ UZ UL
      obtain ⟨T, hT⟩ : ∃ T, T = layTo (layTok ys ws) n := ⟨_, rfl⟩
      obtain ⟨U, hU⟩ : ∃ U, U = layTo (usuTok ws) n := ⟨_, rfl⟩
      rw [← hT] at S1 r8 LT Z1
      rw [← hU] at S2 r9 UT Z2
      clear hT hU
      have LTh := Lib.hid LT
      have UTh := Lib.hid UT
      clear LT UT HN
      have hsz := hb.size
      have hb := below_go b1 hb
      have gx1 : (⟨G.toArray⟩ : ByteArray).size = G.length := mk_size G
      obtain ⟨gx, hgx⟩ : ∃ gx : ByteArray, gx = ⟨G.toArray⟩ := ⟨_, rfl⟩
      rw [← hgx] at gx1 GP
      have ge : str G = .string gx := by rw [hgx]
      have gl : gx.data.toList = G := by rw [hgx]
      have GE := Lib.hid ge
      have GL := Lib.hid gl
      clear hgx ge gl
      go_wp2_with fail
      refine (GP _).mono ?_
      rintro e w3 ⟨rfl, b3⟩
      have hb3 := below_go hb b3
      have x3 := (b3.cell (p := ⟨b', o' + n, none⟩) (by show b' < _; omega)).trans x3
      have r8 := r8.go b3
      have r9 := r9.go b3
      have hsz := Nat.le_trans hsz b3.size
      clear b3 hb
      go_wp2_with fail
      refine (text_any _ n c8 T gx _ r8 LTh.out (by omega) (by omega)).mono ?_
      rintro e w4 ⟨rfl, b4⟩
      have hb4 := below_go hb3 b4
      have x3 := (b4.cell (p := ⟨b', o' + n, none⟩) (by show b' < _; omega)).trans x3
      have r8 := r8.go b4
      have r9 := r9.go b4
      have hsz := Nat.le_trans hsz b4.size
      clear b4 hb3
      obtain ⟨s1, hs1⟩ : ∃ s1 : ByteArray, s1 = ⟨(flat T ++ gx.data.toList).toArray⟩ := ⟨_, rfl⟩
      have hz1 : s1.size ≤ 1000000 := by rw [hs1, mk_size, GL.out, List.length_append]; omega
      have hs1' : str (flat T ++ gx.data.toList) = .string s1 := by rw [hs1]
      have HS1 : Lx.scanT s1.data.toList = (T, G, -1) := by rw [hs1, GL.out]; exact S1.out
      rw [hs1']
      have HS1 := Lib.hid HS1
      clear hs1 hs1'
      go_wp2_with fail
      refine (scan_any s1 _ (by omega) (tabs_go ht hb4)).mono ?_
      rintro e w5 h5
      obtain ⟨A5, c5, rfl, r5, d5, b5⟩ := h5.open_ HS1.out
      clear h5
      have hb5 := below_go hb4 b5
      have x3 := (b5.cell (p := ⟨b', o' + n, none⟩) (by show b' < _; omega)).trans x3
      have r8 := r8.go b5
      have r9 := r9.go b5
      have hsz := Nat.le_trans hsz b5.size
      clear b5 hb4
      rw [GE.out]
      have i3 : (n : Int) < (n : Int) + 1 := by omega
      have i4 : (0 : Int) ≤ (n : Int) := by omega
      unfold str at x3
      go_wp2_with fail
      refine (text_any _ n c9 U ⟨#[]⟩ _ r9 UTh.out (by omega) (by rw [show (⟨#[]⟩ : ByteArray).size = 0 from rfl]; omega)).mono ?_
      rintro e w6 ⟨rfl, b6⟩
      have hb6 := below_go hb5 b6
      have r5 := r5.go b6
      have r8 := r8.go b6
      have r9 := r9.go b6
      clear b6 hb5 x3
      obtain ⟨s2, hs2⟩ : ∃ s2 : ByteArray, s2 = ⟨(flat U ++ (⟨#[]⟩ : ByteArray).data.toList).toArray⟩ := ⟨_, rfl⟩
      have hz2 : s2.size ≤ 1000000 := by rw [hs2, mk_size, show (⟨#[]⟩ : ByteArray).data.toList = [] from rfl, List.append_nil]; omega
      have hs2' : str (flat U ++ (⟨#[]⟩ : ByteArray).data.toList) = .string s2 := by rw [hs2]
      have HS2 : Lx.scanT s2.data.toList = (U, [], -1) := by rw [hs2, show (⟨#[]⟩ : ByteArray).data.toList = [] from rfl, List.append_nil]; exact S2.out
      rw [hs2']
      have HS2 := Lib.hid HS2
      clear hs2 hs2'
      go_wp2_with fail
      refine (scan_any s2 _ (by omega) (tabs_go ht hb6)).mono ?_
      rintro e w7 h7
      obtain ⟨A7, c7, rfl, r7, d7, b7⟩ := h7.open_ HS2.out
      clear h7
      have hb7 := below_go hb6 b7
      have r5 := r5.go b7
      have r8 := r8.go b7
      have r9 := r9.go b7
      clear b7 hb6
      rw [LTh.out] at r5 ⊢
      rw [UTh.out] at r7 ⊢
      go_wp2_with fail
      refine (plain_any _ n c5 T _ r5 LTh.out (by omega)).mono ?_
      rintro e w8 h8
      obtain ⟨B8, e8, rfl, t8, -, b8⟩ := h8.open_
      have hb8 := below_go hb7 b8
      have r7 := r7.go b8
      have r8 := r8.go b8
      have r9 := r9.go b8
      clear b8 h8 hb7
      go_wp2_with fail
      refine (plain_any _ n c8 T _ r8 LTh.out (by omega)).mono ?_
      rintro e w9 h9
      obtain ⟨B9, e9, rfl, t9, -, b9⟩ := h9.open_
      have hb9 := below_go hb8 b9
      have r7 := r7.go b9
      have r9 := r9.go b9
      have t8 := t8.go b9
      clear b9 h9 hb8
      go_wp2_with fail
      refine (same_any _ _ _ _ e8 e9 T T _ t8 t9 LTh.out LTh.out (by omega) true (Lib.hid (by simp))).mono ?_
      rintro e w10 ⟨rfl, b10⟩
      have hb10 := below_go hb9 b10
      have r7 := r7.go b10
      have r9 := r9.go b10
      clear b10 hb9 t8 t9
      go_wp2_with fail
      refine (plain_any _ n c7 U _ r7 UTh.out (by omega)).mono ?_
      rintro e w11 h11
      obtain ⟨B11, e11, rfl, t11, -, b11⟩ := h11.open_
      have hb11 := below_go hb10 b11
      have r9 := r9.go b11
      clear b11 h11 hb10
      go_wp2_with fail
      refine (plain_any _ n c9 U _ r9 UTh.out (by omega)).mono ?_
      rintro e w12 h12
      obtain ⟨B12, e12, rfl, t12, -, b12⟩ := h12.open_
      have hb12 := below_go hb11 b12
      have t11 := t11.go b12
      clear b12 h12 hb11
      go_wp2_with fail
      refine (same_any _ _ _ _ e11 e12 U U _ t11 t12 UTh.out UTh.out (by omega) true (Lib.hid (by simp))).mono ?_
      rintro e w13 ⟨rfl, b13⟩
      have hb13 := below_go hb12 b13
      go_wp2_with fail
      refine (lives_any _ (tabs_go ht hb13) (kw_go hkw hb13)).mono ?_
      rintro e w14 ⟨rfl, b14⟩
      go_wp2_with fail
      go_ret
      exact ⟨rfl, below_go hb13 b14⟩
end Go.Proofs.YtjjdfccbkohlcaaDoor
