/- The walk of LexLossless. -/
import Derived.Test.YtjjdfccbkohlcaaDoorText
import Derived.Test.YtjjdfccbkohlcaaDoorLawJoins
namespace Go.Proofs.YtjjdfccbkohlcaaDoor
open Go.RowKit

theorem scan_alone {l : Lx.Bs} {n m : Nat} (hn : Lx.skipN false l = n) (hm : Lx.tokN (l.drop n) = m) (h0 : m ≠ 0) : Lx.scan (l.take n ++ (l.drop n).take m) = .ok ([⟨(l.drop n).take m, l.take n⟩], []) := by
  have h1 := Lx.skipN_le false l
  have h2 := Lx.tokN_le (l.drop n)
  rw [List.length_drop] at h2
  rw [← List.take_add]
  have e1 : Lx.skipN false (l.take (n + m)) = n := by rw [Lx.skipN_take, hn]; omega
  have e2 : (l.take (n + m)).drop n = (l.drop n).take m := by rw [List.drop_take, Nat.add_sub_cancel_left]
  have e3 : Lx.tokN ((l.take (n + m)).drop n) = m := by rw [e2, Lx.tokN_take _ _ (by omega) (by omega), hm]
  have e4 : (l.take (n + m)).length = n + m := by rw [List.length_take]; omega
  have e5 : (l.take (n + m)).drop (n + m) = [] := List.drop_eq_nil_of_le (by rw [e4]; exact Nat.le_refl _)
  rw [Lx.scan_step (by rw [e1, e4]; omega) (by rw [e1, e3]; exact h0), e1, e3, e5, Lx.scan_end (l := []) rfl, e2, List.take_take, List.take_take, Nat.min_self, Nat.min_eq_left (by omega)]
  rfl
theorem scan_parts : ∀ (f : Nat) (l : Lx.Bs) (ts : List Lx.Tok) (e : Lx.Bs), Lx.scanF f l = .ok (ts, e) →
    flat ts ++ e = l ∧ Lx.skipN false e = e.length ∧ ∀ t ∈ ts, Lx.skipN false t.before = t.before.length ∧ Lx.scan (t.before ++ t.text) = .ok ([t], []) ∧ t.before.length + t.text.length ≤ l.length
  | 0, l, ts, e, h => by simp [Lx.scanF] at h
  | f + 1, l, ts, e, h => by
    rw [Lx.scanF] at h
    split at h
    · rename_i he
      simp only [Except.ok.injEq, Prod.mk.injEq] at h
      rw [← h.1, ← h.2]
      exact ⟨rfl, he, fun t ht => by cases ht⟩
    · split at h
      · cases h
      · rename_i h1 h0
        have g1 := Lx.skipN_le false l
        generalize hn : Lx.skipN false l = n at *
        generalize hm : Lx.tokN (l.drop n) = m at *
        have g2 := Lx.tokN_le (l.drop n)
        rw [List.length_drop, hm] at g2
        generalize hr : Lx.scanF f (l.drop (n + m)) = r at h
        cases r with
        | error k => simp [Lx.after] at h
        | ok p =>
          obtain ⟨ts', e'⟩ := p
          simp only [Lx.after, Except.ok.injEq, Prod.mk.injEq] at h
          obtain ⟨i1, i2, i3⟩ := scan_parts f _ ts' e' hr
          rw [← h.1, ← h.2]
          refine ⟨?_, i2, fun t ht => ?_⟩
          · rw [List.cons_append, List.nil_append, show flat (⟨(l.drop n).take m, l.take n⟩ :: ts') = l.take n ++ (l.drop n).take m ++ flat ts' from by simp [flat], List.append_assoc, i1, ← List.drop_drop, List.append_assoc, List.take_append_drop, List.take_append_drop]
          · simp only [List.cons_append, List.nil_append, List.mem_cons] at ht
            rcases ht with rfl | ht
            · refine ⟨?_, scan_alone hn hm h0, ?_⟩
              · show Lx.skipN false (l.take n) = (l.take n).length
                rw [Lx.skipN_take, hn, List.length_take]; omega
              · simp; omega
            · obtain ⟨j1, j2, j3⟩ := i3 t ht
              rw [List.length_drop] at j3
              exact ⟨j1, j2, by omega⟩
theorem scanT_parts {l : Lx.Bs} {ts : List Lx.Tok} {e : Lx.Bs} (hl : ¬ 8192 < l.length) (h : Lx.scanT l = (ts, e, -1)) :
    flat ts ++ e = l ∧ blankB e = true ∧ ∀ t ∈ ts, blankB t.before = true ∧ Lx.scanT (t.before ++ t.text) = ([t], [], -1) ∧ t.before.length + t.text.length ≤ l.length := by
  obtain ⟨h1, h2, h3⟩ := scan_parts _ _ _ _ (scanT_read h)
  have hle : e.length ≤ l.length := by rw [← h1, List.length_append]; omega
  refine ⟨h1, by simp only [blankB, decide_eq_true_eq]; exact ⟨by omega, h2⟩, fun t ht => ?_⟩
  obtain ⟨j1, j2, j3⟩ := h3 t ht
  exact ⟨by simp only [blankB, decide_eq_true_eq]; exact ⟨by omega, j1⟩, scanT_ok (by rw [List.length_append]; omega) j2, j3⟩

theorem guard_tok38 (x y : Operand) (xs ys : Array Value) (w : World) : (eqGuard .neq 38 x y (.agg xs) (.agg ys)).run Tryd.prog w = .ok () w :=
  run_eqGuard_agg w .neq 38 x y xs ys (by kernel_rfl)
theorem fields38 : (Tryd.prog.fieldsOf 38).toList.map (fun f => (f.type, f.offset, f.name == "_")) = [(9, 0, false), (9, 1, false)] := by kernel_rfl
theorem neq_tok38 (a b c d : ByteArray) (w : World) : (binOp .neq 38 (.agg #[.string a, .string b]) (.agg #[.string c, .string d])).run Tryd.prog w = .ok (.bool (!(a.toList == c.toList && b.toList == d.toList))) w := by
  rw [run_neq_struct, run_equalIn_agg w 9999 38 _ _ (by kernel_rfl) (by kernel_rfl), eqFields_two _ fields38, Result.andThen_ok]

set_option maxHeartbeats 16000000 in
set_option maxRecDepth 100000 in
theorem lexLossless_walk (A : Option Addr) (n c : Nat) (zs : List Int) (raw : ByteArray) (w : World) (h1 : Rd w w.heap.size 1 A n (intCells zs)) (hf : Fits zs)
    (hr : raw.size ≤ 140737488355328) (ht : Tabs w) (hkw : Kw w) :
    Calls Tryd.prog 8 #[.slice A n c, .string raw] w (RetB (.bool true) w) := by
  have gt := guard_tok38
  go_enter Tryd.func8, Tryd.ntmps8
  go_wp2_with fail
  refine (sample_any _ _ _ _ _ h1 hf).mono ?_
  rintro e w2 ⟨s2, rfl, hs2, b1⟩
  go_wp2_with fail
  have hL : ∀ p ∈ [s2, raw], p.size ≤ 140737488355328 := by
    intro p hp
    simp only [List.mem_cons, List.not_mem_nil, or_false] at hp
    rcases hp with rfl | rfl
    · omega
    · omega
  have q1 := rd_strs w2 [s2, raw] 2 rfl
  have hs3 : w2.heap.size + 1 ≤ (w2.alloc (.cells ([s2, raw].map Value.string).toArray 9)).heap.size := by rw [World.size_alloc]; omega
  have b3 := below_go b1 (below_new w2 (.cells ([s2, raw].map Value.string).toArray 9))
  obtain ⟨L, hLd⟩ : ∃ L : List ByteArray, L = [s2, raw] := ⟨_, rfl⟩
  have hLl : L.length = 2 := by rw [hLd]; rfl
  have Q1 := Lib.hid q1
  have HL := Lib.hid hL
  rw [← hLd] at Q1 HL hs3 b3
  have HLl := Lib.hid hLl
  have hg := b1.size
  have hWd : w2.alloc (.cells #[.string s2, .string raw] 9) = w2.alloc (.cells (L.map Value.string).toArray 9) := by rw [hLd]; rfl
  rw [hWd]
  clear hLd hLl q1 hL hWd hs2
  generalize w2.alloc (.cells (L.map Value.string).toArray 9) = w3 at *
  go_loopw [6] (fun x wr => ∃ k : Nat, k ≤ 2 ∧ x = .int .i64 k ∧ Rd wr (w2.heap.size + 1) 1 (some ⟨w2.heap.size, 0, none⟩) 2 (L.map Value.string) ∧ Below w.heap.size w wr ∧ w2.heap.size + 1 ≤ wr.heap.size) (fun x _ => 2 - (intOf x).toNat)
  case atStart => exact ⟨0, by omega, rfl, Q1.out, b3, hs3⟩
  case round =>
    obtain ⟨k, hk3, rfl, hrd, hb, hsz⟩ := hrel
    by_cases hlt : k < 2
    · have hkl : k < L.length := by rw [HLl.out]; exact hlt
      have x1 := hrd.ba hlt hkl
      have hp := HL.out _ (List.getElem_mem hkl)
      generalize L[k] = p at *
      rcases scanT_three p.data.toList with ⟨_, hT⟩ | ⟨hl8, ts, E, _, hT⟩ | ⟨hlen, N, hsc, hT⟩
      · have HT := Lib.hid hT
        clear hT
        go_wp2_with fail
        refine (scan_any p _ (by omega) (tabs_go ht hb)).mono ?_
        rintro e w5 h5
        obtain ⟨A5, c5, rfl, -, -, b5⟩ := h5.open_ HT.out
        clear h5
        go_wp2_with fail
        go_roundw
        case rel => exact ⟨k + 1, by omega, by go_num, hrd.below (b5.mono hsz), below_go hb b5, Nat.le_trans hsz b5.size⟩
        case measure => simp [intOf]; omega
      · have hTP := scanT_parts hl8 hT
        have cT := scanT_count hT
        have HT := Lib.hid hT
        rw [list_size] at hl8
        obtain ⟨q1, q2, q3⟩ := hTP
        have Q3 := Lib.hid q3
        obtain ⟨gE, hgE⟩ : ∃ gE : ByteArray, gE = ⟨E.toArray⟩ := ⟨_, rfl⟩
        have eE : str E = .string gE := by rw [hgE]
        have lE : gE.data.toList = E := by rw [hgE]
        have sE : gE.size = E.length := by rw [hgE, mk_size]
        have fl : (flat ts).length + gE.size = p.size := by rw [sE, ← List.length_append, q1, list_size]
        have pe : str (flat ts ++ gE.data.toList) = .string p := by rw [lE, q1]
        have TP : ∀ (A5 : Option Addr) (c5 : Nat) (W : World), Rd W W.heap.size 2 A5 ts.length (tokCells ts) → Calls Tryd.prog 21 #[.slice A5 ts.length c5, .string gE] W (RetB (.string p) W) := fun A5 c5 W hW => by
          have := text_any A5 ts.length c5 ts gE W hW rfl (by omega) (by omega)
          rwa [pe] at this
        have BP : ∀ W : World, Calls Tryd.prog 16 #[.string gE] W (Ret (.bool true) W) := fun W => blank_any gE W (by omega) true (Lib.hid (by rw [lE]; exact q2))
        clear hT q1 q2 q3 lE sE pe hgE
        have EE := Lib.hid eE
        clear eE
        go_wp2_with fail
        refine (scan_any p _ (by omega) (tabs_go ht hb)).mono ?_
        rintro e w5 h5
        obtain ⟨A5, c5, rfl, r5, d5, b5⟩ := h5.open_ HT.out
        clear h5
        have x2 := (b5.cell (p := ⟨w2.heap.size, k, none⟩) (by show w2.heap.size < _; omega)).trans x1
        have hrd2 := hrd.below (b5.mono hsz)
        have hsz2 : w2.heap.size + 1 ≤ w5.heap.size := Nat.le_trans hsz b5.size
        have hb := below_go hb b5
        clear b5 hrd hsz x1
        rw [EE.out]
        have r5d : Rd w5.drew w5.drew.heap.size 2 A5 ts.length (tokCells ts) := r5
        go_wp2_with fail
        go_region_held3 (fun W => W.cell? ⟨w2.heap.size, k, none⟩ = some (.string p)) (first | exact y1 | exact x2 | go_keep) (first | (go_at_call 21; refine (TP _ _ _ r5d).mono ?_; rintro e w6 ⟨rfl, b6⟩; have y1 := (b6.cell (p := ⟨w2.heap.size, k, none⟩) (by show w2.heap.size < w5.heap.size; omega)).trans x2) | (go_at_call 16; refine (BP _).mono ?_; rintro e w' ⟨rfl, rfl⟩))
        have hrd3 := Rd.below (w := w5.drew) hrd2 (b6.mono hsz2)
        have hsz3 : w2.heap.size + 1 ≤ w6.heap.size := Nat.le_trans hsz2 b6.size
        have hb := below_go hb.drew b6
        have r6 := Rd.go (w := w5.drew) r5d b6
        clear b6 hrd2 hsz2 r5 r5d x2
        go_wp2_with fail
        go_loopw [10] (fun x wr => ∃ j : Nat, j ≤ ts.length ∧ x = .int .i64 j ∧ Rd wr (w2.heap.size + 1) 1 (some ⟨w2.heap.size, 0, none⟩) 2 (L.map Value.string) ∧ Below w.heap.size w wr ∧ w2.heap.size + 1 ≤ wr.heap.size ∧ Rd wr wr.heap.size 2 A5 ts.length (tokCells ts)) (fun x _ => ts.length - (intOf x).toNat)
        case atStart => exact ⟨0, by omega, rfl, hrd3, hb, hsz3, r6⟩
        case round =>
          obtain ⟨j, hj, rfl, hrd4, hb4, hsz4, r4⟩ := hrel
          clear hrd3 hb hsz3 r6
          by_cases hlj : j < ts.length
          · obtain ⟨b, o, rfl, hbb, y1, y2⟩ := r4.tok rfl hlj
            obtain ⟨z1, z2, z3⟩ := Q3.out _ (List.getElem_mem hlj)
            generalize ts[j] = t at *
            obtain ⟨tx, htx⟩ : ∃ tx : ByteArray, tx = ⟨t.text.toArray⟩ := ⟨_, rfl⟩
            obtain ⟨bx, hbx⟩ : ∃ bx : ByteArray, bx = ⟨t.before.toArray⟩ := ⟨_, rfl⟩
            have stx : tx.size = t.text.length := by rw [htx, mk_size]
            have sbx : bx.size = t.before.length := by rw [hbx, mk_size]
            have ltx : tx.data.toList = t.text := by rw [htx]
            have lbx : bx.data.toList = t.before := by rw [hbx]
            rw [list_size] at z3
            have SP : Lx.scanT (bx ++ tx).data.toList = ([t], [], -1) := by rw [ByteArray.data_append, Array.toList_append, ltx, lbx]; exact z2
            have a1 : ¬ 9223372036854775807 < bx.size + tx.size := by omega
            have a2 : (bx ++ tx).size ≤ 1000000 := by rw [ByteArray.size_append]; omega
            have BT : ∀ W : World, Calls Tryd.prog 16 #[.string bx] W (Ret (.bool true) W) := fun W => blank_any bx W (by omega) true (Lib.hid (by rw [lbx]; exact z1))
            have et : str t.text = .string tx := by rw [htx]
            have eb : str t.before = .string bx := by rw [hbx]
            have ET := Lib.hid et
            have EB := Lib.hid eb
            have HS := Lib.hid SP
            unfold str at y1 y2
            rw [← htx] at y1
            rw [← hbx] at y2
            clear SP z1 z2 z3 stx sbx ltx lbx htx hbx et eb
            have nt : ∀ w, (binOp .neq 38 (.agg #[.string tx, .string bx]) (.agg #[.string tx, .string bx])).run Tryd.prog w = .ok (.bool false) w := fun w => by rw [neq_tok38]; simp
            have htd : Tabs wr.drew := tabs_go ht hb4.drew
            go_wp2_with fail
            go_region_held3 (fun W => W.cell? ⟨b, o + j * 2, none⟩ = some (.string tx) ∧ W.cell? ⟨b, o + j * 2 + 1, none⟩ = some (.string bx)) (first | exact ⟨k1, k2⟩ | exact ⟨y1, y2⟩ | go_keep) ((go_at_call 11; refine (scan_any _ _ (by omega) htd).mono ?_; rintro e w7 h7; obtain ⟨A7, c7, rfl, r7, d7, b7⟩ := h7.open_ HS.out; clear h7; have k1 := (b7.cell (p := ⟨b, o + j * 2, none⟩) hbb).trans y1; have k2 := (b7.cell (p := ⟨b, o + j * 2 + 1, none⟩) hbb).trans y2))
            have hrd7 := Rd.below (w := wr.drew) hrd4 (b7.mono hsz4)
            have hsz7 : w2.heap.size + 1 ≤ w7.heap.size := Nat.le_trans hsz4 b7.size
            have hb7 := below_go hb4.drew b7
            have r8 := Rd.go (w := wr.drew) r4 b7
            obtain ⟨g7, o7, rfl, l7, m1, m2⟩ := r7.tok rfl (k := 0) (by simp)
            have q1 : w7.cell? ⟨g7, o7, none⟩ = some (.string tx) := m1.trans (congrArg some ET.out)
            have q2 : w7.cell? ⟨g7, o7 + 1, none⟩ = some (.string bx) := m2.trans (congrArg some EB.out)
            clear b7 hrd4 hsz4 hb4 r4 r7 m1 m2 y1 y2 htd d7
            go_wp2_with fail
            go_quiet ((go_at_call 16; exact Calls.quiet_of_same (Ret.same (BT _))))
            go_wp2_with fail
            go_roundw
            case rel => exact ⟨j + 1, by omega, by go_num, hrd7, below_drewN hb7 _, hsz7, r8⟩
            case measure => simp [intOf]; omega
          · go_wp2_with fail
            go_roundw
            case rel => exact ⟨k + 1, by omega, by go_num, hrd4, hb4, hsz4⟩
            case measure => simp [intOf]; omega
      · have HT := Lib.hid hT
        clear hT hsc hlen
        have t1 : ((N : Int) == -1) = false := by simp
        go_wp2_with fail
        refine (scan_any p _ (by omega) (tabs_go ht hb)).mono ?_
        rintro e w5 h5
        obtain ⟨A5, c5, rfl, -, -, b5⟩ := h5.open_ HT.out
        clear h5
        go_wp2_with fail
        go_roundw
        case rel => exact ⟨k + 1, by omega, by go_num, hrd.below (b5.mono hsz), below_go hb b5, Nat.le_trans hsz b5.size⟩
        case measure => simp [intOf]; omega
    · go_wp2_with fail
      refine (lives_any _ (tabs_go ht hb) (kw_go hkw hb)).mono ?_
      rintro e w5 ⟨rfl, b5⟩
      go_wp2_with fail
      go_ret
      exact ⟨rfl, below_go hb b5⟩
end Go.Proofs.YtjjdfccbkohlcaaDoor
