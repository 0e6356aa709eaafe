/- The program's hash is sha56; Count and other small functions. -/
import Derived.Test.YtddpjahoeldleaaGreatDoorMCompress
import Derived.Laws.CopyRow
import Derived.Lib.SlBuf
import Derived.Lib.BufferWrite
import Derived.Lib.IndexBytes
import Derived.Deep.RegionWith
import Derived.Deep.MidRow

namespace Go.Proofs.YtddpjahoeldleaaGreatDoor
open Go.RowKit

/-- a stream as a row: the state, the block, the length -/
def streamL (R : Reg) (blk : Bs) (n : Nat) : List Value := (rowS R).toList ++ byteCells blk ++ [.int .u64 (n : Int)]
def streamRow (R : Reg) (blk : Bs) (n : Nat) : Array Value := (streamL R blk n).toArray
theorem streamRow_size {R : Reg} {blk : Bs} {n : Nat} (h : blk.length = 64) : (streamRow R blk n).size = 73 := by
  simp [streamRow, streamL, rowS, byteCells, h]
/-- more bytes -/
def addS : Nat → Reg → Bs → Nat → Bs → Reg × Bs × Nat
  | 0, R, blk, n, _ => (R, blk, n)
  | _ + 1, R, blk, n, [] => (R, blk, n)
  | f + 1, R, blk, n, t =>
    let at_ := n % 64
    let k := min t.length (64 - at_)
    let blk' := blk.take at_ ++ t.take k ++ blk.drop (at_ + k)
    addS f (if at_ + k = 64 then R.compress blk' else R) blk' (n + k) (t.drop k)
theorem addS_nil (f : Nat) (R : Reg) (blk : Bs) (n : Nat) : addS f R blk n [] = (R, blk, n) := by cases f <;> rfl
theorem addS_step (f : Nat) (R : Reg) (blk : Bs) (n : Nat) {t : Bs} (h : t ≠ []) :
    addS (f + 1) R blk n t = addS f (if n % 64 + min t.length (64 - n % 64) = 64 then R.compress (blk.take (n % 64) ++ t.take (min t.length (64 - n % 64)) ++ blk.drop (n % 64 + min t.length (64 - n % 64))) else R) (blk.take (n % 64) ++ t.take (min t.length (64 - n % 64)) ++ blk.drop (n % 64 + min t.length (64 - n % 64))) (n + min t.length (64 - n % 64)) (t.drop (min t.length (64 - n % 64))) := by
  cases t with
  | nil => exact absurd rfl h
  | cons x r => rfl
/-- fuel enough -/
theorem addS_fuel : ∀ (f g : Nat) (R : Reg) (blk : Bs) (n : Nat) (t : Bs), t.length ≤ f → t.length ≤ g → addS f R blk n t = addS g R blk n t
  | 0, g, R, blk, n, t, h, _ => by
    have : t = [] := List.eq_nil_of_length_eq_zero (by omega)
    subst this; rw [addS_nil, addS_nil]
  | f + 1, 0, R, blk, n, t, _, h => by
    have : t = [] := List.eq_nil_of_length_eq_zero (by omega)
    subst this; rw [addS_nil, addS_nil]
  | f + 1, g + 1, R, blk, n, t, h1, h2 => by
    by_cases ht : t = []
    · subst ht; rw [addS_nil, addS_nil]
    · rw [addS_step f R blk n ht, addS_step g R blk n ht]
      have hl : 0 < t.length := List.length_pos_iff.2 ht
      exact addS_fuel f g _ _ _ _ (by rw [List.length_drop]; omega) (by rw [List.length_drop]; omega)
/-- the stream behind 56 bytes, and behind their padding -/
theorem sum_add {b : Bs} (h : b.length = 56) :
    addS 56 iv (List.replicate 64 0) 0 b = (iv, b ++ List.replicate 8 0, 56) ∧ (addS 72 iv (b ++ List.replicate 8 0) 56 (([128] ++ List.replicate 63 0) ++ lenB 8)).1.bytes = sha56 b := by
  constructor
  · have hne : b ≠ [] := by intro e; rw [e] at h; simp at h
    have e1 : (List.replicate 64 0 : Bs).drop (0 + 56) = List.replicate 8 0 := rfl
    have e2 : b.drop 56 = [] := List.drop_of_length_le (by omega)
    have e3 : b.take 56 = b := List.take_of_length_le (by omega)
    rw [addS_step 55 _ _ _ hne, h, show (0 : Nat) % 64 = 0 from rfl, show min 56 (64 - 0) = 56 from rfl, if_neg (by omega), List.take_zero, List.nil_append, e1, e2, e3, addS_nil]
  · have hne : (([128] ++ List.replicate 63 0) ++ lenB 8 : Bs) ≠ [] := by simp
    rw [addS_step 71 _ _ _ hne]
    have e1 : (b ++ List.replicate 8 0).take 56 = b := List.take_left' h
    have e2 : (b ++ List.replicate 8 (0 : UInt8)).drop 64 = [] := List.drop_of_length_le (by simp [h])
    have e3 : (([128] ++ List.replicate 63 0) ++ lenB 8 : Bs).take 8 = [128, 0, 0, 0, 0, 0, 0, 0] := rfl
    have e4 : (([128] ++ List.replicate 63 0) ++ lenB 8 : Bs).drop 8 = block2 := rfl
    rw [show (([128] ++ List.replicate 63 0) ++ lenB 8 : Bs).length = 72 from rfl, show (56 : Nat) % 64 = 56 from rfl, show min 72 (64 - 56) = 8 from rfl, if_pos rfl, show (56 : Nat) + 8 = 64 from rfl, e1, e2, e3, e4, List.append_nil]
    have hb2 : block2 ≠ [] := by decide
    rw [addS_step 70 _ _ _ hb2, show block2.length = 64 from rfl, show (64 : Nat) % 64 = 0 from rfl, show min 64 (64 - 0) = 64 from rfl, if_pos rfl, List.take_zero, List.nil_append, show block2.take 64 = block2 from rfl]
    rw [show (0 : Nat) + 64 = 64 from rfl, List.drop_of_length_le (by simp [h]), List.append_nil, show block2.drop 64 = [] from rfl, addS_nil]
    rfl

/-- copy(dst, s) of as many bytes as fit -/
theorem run_copy_str {P : Program} (w : World) (dT sT ty elem : TypeId) (g o dLen dCap : Nat) (s : ByteArray) (m : Nat) (hm : Nat.min s.size dLen = m) (cur : Array Value) (t : TypeId)
    (hu : P.underlying dT = some (.slice elem)) (hs : (P.info? elem).map (·.size) = some 1) (hg : w.heap[g]? = some (.cells cur t (0, 0))) (hfit : o + m ≤ cur.size) :
    (Builtin.copy_ #[dT, sT] ty #[.slice (some ⟨g, o, none⟩) dLen dCap, .string s]).run P w =
      .ok (goInt m) (w.setRow g (cur.toList.take o ++ (byteCells s.data.toList).take m ++ cur.toList.drop (o + m)).toArray) := by
  have hms : m ≤ s.size := by rw [← hm]; exact Nat.min_le_left _ _
  have hlen : ((byteCells s.data.toList).take m).length = m := by rw [List.length_take, byteCells_len, list_size]; omega
  have hst := run_storeCells_at P g o t ((byteCells s.data.toList).take m) 0 cur w hg (by rw [hlen]; simpa using hfit) (fun v hv => by
    have := List.mem_of_mem_take hv
    rw [byteCells, List.mem_map] at this
    obtain ⟨x, _, rfl⟩ := this
    rfl)
  have htk : List.take m (List.map (fun b : UInt8 => Value.int IntKind.u8 (b.toNat : Int)) s.data.toList) = (byteCells s.data.toList).take m := rfl
  rw [hlen] at hst
  simp only [Nat.add_zero] at hst
  cases hq : P.info? elem with
  | none => simp [hq] at hs
  | some i =>
    simp [Builtin.copy_, run_underlying hu, Builtin.lenOf, Builtin.firstCells, sizeOf, typeInfo, hq, hm]
    rw [htk, hst]
    simp [Result.andThen]

theorem stream_n {R : Reg} {blk : Bs} {n : Nat} (h : blk.length = 64) : (streamRow R blk n)[72]? = some (.int .u64 (n : Int)) := by
  rw [streamRow, streamL, List.getElem?_toArray, List.getElem?_append_right (by simp [rowS, byteCells, h])]
  simp [rowS, byteCells, h]
theorem streamRow_one (R : Reg) (blk : Bs) (n : Nat) : (streamRow R blk n).all (·.oneCell') = true := by
  rw [Array.all_eq_true_iff_forall_mem]
  intro v hv
  rw [streamRow, streamL] at hv
  simp only [rowS, byteCells, List.mem_toArray, List.mem_append, List.mem_map, List.mem_cons, List.not_mem_nil, or_false] at hv
  rcases hv with ((rfl | rfl | rfl | rfl | rfl | rfl | rfl | rfl) | ⟨x, _, rfl⟩) | rfl <;> rfl
theorem str_nonempty {t : ByteArray} (h : 1 ≤ t.size) : t.toList.isEmpty = false := by
  have : t.toList = t.data.toList := Lib.toList_data t
  rw [this]
  cases hx : t.data.toList with
  | nil => have := list_size t; rw [hx] at this; simp at this; omega
  | cons _ _ => rfl
theorem stream_copy (R : Reg) (n : Nat) {blk : Bs} (h : blk.length = 64) {a m : Nat} (ha : a ≤ 64) {t : Bs} (ham : a + m ≤ 64) :
    ((streamRow R blk n).toList.take (8 + a) ++ (byteCells t).take m ++ (streamRow R blk n).toList.drop (8 + a + m)).toArray = streamRow R (blk.take a ++ t.take m ++ blk.drop (a + m)) n := by
  have hl : (byteCells blk).length = 64 := by rw [byteCells_len, h]
  have e1 : (streamRow R blk n).toList.take (8 + a) = (rowS R).toList ++ (byteCells blk).take a := by
    show (streamL R blk n).take (8 + a) = _
    rw [streamL, List.append_assoc, List.take_append, show (rowS R).toList.length = 8 from rfl, List.take_of_length_le (show (rowS R).toList.length ≤ 8 + a from by show 8 ≤ 8 + a; omega), show 8 + a - 8 = a by omega, List.take_append_of_le_length (by omega)]
  have e2 : (streamRow R blk n).toList.drop (8 + a + m) = (byteCells blk).drop (a + m) ++ [.int .u64 (n : Int)] := by
    show (streamL R blk n).drop (8 + a + m) = _
    rw [streamL, List.append_assoc, List.drop_append, show (rowS R).toList.length = 8 from rfl, List.drop_of_length_le (show (rowS R).toList.length ≤ 8 + a + m from by show 8 ≤ 8 + a + m; omega), List.nil_append, show 8 + a + m - 8 = a + m by omega, List.drop_append_of_le_length (by omega)]
  rw [e1, e2, streamRow, streamL]
  congr 1
  simp only [byteCells, List.map_append, List.map_take, List.map_drop, List.append_assoc]
theorem stream_setn {R : Reg} {blk : Bs} {n k : Nat} (h : blk.length = 64) : (streamRow R blk n).setIfInBounds 72 (.int .u64 (k : Int)) = streamRow R blk k := by
  have hl : (byteCells blk).length = 64 := by rw [byteCells_len, h]
  rw [streamRow, streamRow, streamL, streamL, List.setIfInBounds_toArray, List.set_append_right _ _ (by rw [List.length_append, hl]; exact Nat.le_refl _)]
  congr 2
  rw [List.length_append, hl]
  rfl
theorem stream_there {w : World} {g : Nat} {t : TypeId} {R : Reg} {blk : Bs} {n : Nat} (h : Blk w g t (streamRow R blk n)) (hb : blk.length = 64) : w.there g 0 8 := fun j hj => by
  rw [Nat.zero_add]
  refine ⟨?_, h.frozen j⟩
  rw [h.cell j, Array.getElem?_eq_getElem (by rw [streamRow_size hb]; omega)]
  rfl
theorem setCells_other8 {g g' : Nat} {T : TypeId} {cs : Array Value} : ∀ (w : World) (_ : Blk w g' T cs) (_ : g' ≠ g) (vs : List Value) (o : Nat), Blk (w.setCells g o vs) g' T cs
  | _, h, _, [], _ => h
  | w, h, hne, v :: vs, o => setCells_other8 (w.setCell ⟨g, o, none⟩ v) (h.other (p := ⟨g, o, none⟩) (fun e => hne e.symm) v) hne vs (o + 1)
theorem store8_run (w : World) (g : Nat) (V : Array Value) (hs : V.size = 8) (ht : w.there g 0 8) (h1 : V.all (·.oneCell') = true) : (storeCells ⟨g, 0, none⟩ V.toList).run Tryz.prog w = .ok () (w.setCells g 0 V.toList) := by
  have hl : V.toList.length = 8 := by rw [Array.length_toList, hs]
  have := run_storeCells_cells (P := Tryz.prog) g 0 V.toList 0 w (fun j hj => by rw [Nat.add_zero]; exact (ht j (by omega)).1) (fun j hj => by rw [Nat.add_zero]; exact (ht j (by omega)).2) (fun v hv => (Array.all_eq_true_iff_forall_mem.1 h1) v (Array.mem_toList_iff.1 hv))
  exact this
theorem stream_byte {R : Reg} {blk : Bs} {n j : Nat} {u : Value} (h : (byteCells blk)[j]? = some u) : (streamRow R blk n)[8 + j]? = some u := by
  have hj := (List.getElem?_eq_some_iff.1 h).1
  rw [streamRow, streamL, List.append_assoc, List.getElem?_toArray, List.getElem?_append_right (by show 8 ≤ 8 + j; omega), show 8 + j - (rowS R).toList.length = j from Nat.add_sub_cancel_left 8 j, List.getElem?_append_left hj]
  exact h
theorem stream_cells {w : World} {g : Nat} {t : TypeId} {R : Reg} {blk : Bs} {n : Nat} (h : Blk w g t (streamRow R blk n)) :
    w.cell? ⟨g, 0, none⟩ = some (wordV R.a) ∧ w.cell? ⟨g, 1, none⟩ = some (wordV R.b) ∧ w.cell? ⟨g, 2, none⟩ = some (wordV R.c) ∧ w.cell? ⟨g, 3, none⟩ = some (wordV R.d) ∧ w.cell? ⟨g, 4, none⟩ = some (wordV R.e) ∧ w.cell? ⟨g, 5, none⟩ = some (wordV R.f) ∧ w.cell? ⟨g, 6, none⟩ = some (wordV R.g) ∧ w.cell? ⟨g, 7, none⟩ = some (wordV R.h) :=
  ⟨h.cell 0, h.cell 1, h.cell 2, h.cell 3, h.cell 4, h.cell 5, h.cell 6, h.cell 7⟩
theorem Blk.store8 {w : World} {g : Nat} {t : TypeId} {R : Reg} {blk : Bs} {n : Nat} (h : Blk w g t (streamRow R blk n)) (R' : Reg) : Blk (w.setCells g 0 (rowS R').toList) g t (streamRow R' blk n) := by
  have h7 := (((((((h.set_ 0 (wordV R'.a)).set_ 1 (wordV R'.b)).set_ 2 (wordV R'.c)).set_ 3 (wordV R'.d)).set_ 4 (wordV R'.e)).set_ 5 (wordV R'.f)).set_ 6 (wordV R'.g)).set_ 7 (wordV R'.h)
  have e : streamRow R' blk n = ((((((((streamRow R blk n).setIfInBounds 0 (wordV R'.a)).setIfInBounds 1 (wordV R'.b)).setIfInBounds 2 (wordV R'.c)).setIfInBounds 3 (wordV R'.d)).setIfInBounds 4 (wordV R'.e)).setIfInBounds 5 (wordV R'.f)).setIfInBounds 6 (wordV R'.g)).setIfInBounds 7 (wordV R'.h) := by
    simp [streamRow, streamL, rowS]
  rw [e]
  exact h7
theorem infoSt : (Tryz.prog.info? 148).map (fun i => (i.zero, i.size)) = some (some (.agg (streamRow ⟨0, 0, 0, 0, 0, 0, 0, 0⟩ (List.replicate 64 0) 0)), 73) := by kernel_rfl

set_option maxHeartbeats 4000000 in
set_option maxRecDepth 100000 in
theorem add_any (R : Reg) (blk : Bs) (n : Nat) (hb : blk.length = 64) (hn : n ≤ 100000) (s : ByteArray) (hs : s.size ≤ 100000) (w : World) (hk : Consts w) :
    Calls Tryz.prog 93 #[.agg (streamRow R blk n), .string s] w (RetB (.agg (streamRow (addS s.size R blk n s.data.toList).1 (addS s.size R blk n s.data.toList).2.1 (addS s.size R blk n s.data.toList).2.2)) w) := by
  obtain ⟨hz, hsz⟩ := zero_of_info infoSt
  obtain ⟨Z, hZ⟩ : ∃ Z, Z = streamRow ⟨0, 0, 0, 0, 0, 0, 0, 0⟩ (List.replicate 64 0) 0 := ⟨_, rfl⟩
  obtain ⟨Y, hY⟩ : ∃ Y, Y = streamRow R blk n := ⟨_, rfl⟩
  rw [← hZ] at hz
  rw [← hY]
  have HZ := Lib.hid hZ
  have HY := Lib.hid hY
  have HK := Lib.hid hk
  have HSZ := Lib.hid hsz
  clear hk hZ hY hsz
  go_enter Tryz.func93, Tryz.ntmps93
  go_wp2_with fail
  obtain ⟨g, hg⟩ : ∃ g, g = w.heap.size := ⟨_, rfl⟩
  obtain ⟨w1, hw1⟩ : ∃ w1, w1 = (w.alloc (.cells Y 148)).alloc (.cells Z 148) := ⟨_, rfl⟩
  have A0 := (Blk.new w 148 Y)
  have A1 := Blk.new (w.alloc (.cells Y 148)) 148 Z
  rw [← hw1, show (w.alloc (.cells Y 148)).heap.size = g + 1 by rw [hg]; simp] at A1
  have A0 : Blk w1 g 148 Y := by rw [hw1, hg]; exact A0.below (below_new _ _) A0.lt
  have AB : Below w.heap.size w w1 := by rw [hw1]; exact (below_new w (.cells Y 148)).alloc (by simp) _
  rw [← hw1, ← hg]
  have HG := Lib.hid hg
  have M0 := Lib.hid (show Blk w1 g 148 (streamRow R blk n) by rw [← HY.out]; exact A0)
  have M1 := Lib.hid A1
  have MB := Lib.hid AB
  obtain ⟨F, hF⟩ : ∃ F, F = addS s.size R blk n s.data.toList := ⟨_, rfl⟩
  rw [← hF]
  have HF := Lib.hid hF
  have HF0 := Lib.hid hF
  clear hw1 hg A0 A1 AB hF hz
  go_loopw [1] (fun x wr => ∃ (R' : Reg) (b' : Bs) (n' : Nat) (t : ByteArray), x = .string t ∧ b'.length = 64 ∧ n' + t.size ≤ 200000 ∧ Hid (addS t.size R' b' n' t.data.toList = F) ∧ Hid (Blk wr g 148 (streamRow R' b' n')) ∧ Hid (Blk wr (g + 1) 148 Z) ∧ Hid (Below w.heap.size w wr)) (fun x _ => match x with | .string t => t.size | _ => 0)
  case atStart => exact ⟨R, blk, n, s, rfl, hb, by omega, Lib.hid HF.out.symm, M0, M1, MB⟩
  case round =>
    clear M0 M1 MB hb hn HF HY
    obtain ⟨R', b', n', t, rfl, hb, hn, HF, M0, M1, MB⟩ := hrel
    by_cases h0 : t.size = 0
    · obtain rfl : t = ⟨#[]⟩ := by cases t; rename_i d; simp [ByteArray.size] at h0; subst h0; rfl
      have hF : F = (R', b', n') := HF.out.symm
      clear h0 hn
      obtain ⟨V, hV⟩ : ∃ V, V = streamRow R' b' n' := ⟨_, rfl⟩
      have hM := M0.out
      rw [← hV] at hM
      have HI := Lib.hid (show (Tryz.prog.info? 148).map (·.size) = some V.size by rw [hV, streamRow_size hb]; exact HSZ.out)
      have HZs := Lib.hid (show Z.size = V.size by rw [hV, streamRow_size hb, HZ.out, streamRow_size (by simp)])
      have HO := Lib.hid (show V.all (·.oneCell') = true by rw [hV]; exact streamRow_one _ _ _)
      have HM1 := Lib.hid (show wr.heap[g]? = some (.cells V 148 (0, 0)) from hM)
      have HM0 := Lib.hid (show wr.heap[g + 1]? = some (.cells Z 148 (0, 0)) from M1.out)
      have HB := Lib.hid (below_row MB.out (g := g + 1) (by have := HG.out; omega) V)
      have HVF := Lib.hid (show V = streamRow F.1 F.2.1 F.2.2 by rw [hV, hF])
      clear hM hV hF
      go_wp2_with (first
        | (refine wpList_load_row rfl 148 _ rfl g rfl 148 V (0, 0) _ HM1.out Tryz.underlying148 rfl HI.out ?_)
        | (refine wpList_store_row rfl 148 _ _ rfl (g + 1) V rfl rfl 148 Z HM0.out HI.out HZs.out HO.out ?_))
      refine bodyPost_ret (v := .agg V) ?_ rfl ⟨by rw [HVF.out, HF0.out], HB.out⟩
      exact results_cell_row rfl _ _ (g + 1) _ _ _ _ rfl (M1.out.put V) Tryz.underlying148 rfl HI.out
    · have hne : t.toList.isEmpty = false := str_nonempty (by omega)
      have h1 : 1 ≤ t.size := by omega
      obtain ⟨at_, hat⟩ : ∃ a, a = n' % 64 := ⟨_, rfl⟩
      have hat2 : at_ < 64 := by omega
      have hat3 : (n' : Int) % 64 = (at_ : Int) := by omega
      have HAT := Lib.hid hat
      clear hat
      have c2 : wr.cell? ⟨g, 72, none⟩ = some (.int .u64 (n' : Int)) := (M0.out.cell 72).trans (stream_n hb)
      obtain ⟨m, hm⟩ : ∃ m, m = Nat.min t.size (64 - at_) := ⟨_, rfl⟩
      have hm1 : m ≤ t.size ∧ m ≤ 64 - at_ ∧ 1 ≤ m := by
        have h2 : Nat.min t.size (64 - at_) ≤ t.size := Nat.min_le_left _ _
        have h3 : Nat.min t.size (64 - at_) ≤ 64 - at_ := Nat.min_le_right _ _
        have h4 : 1 ≤ Nat.min t.size (64 - at_) := Nat.le_min.2 ⟨h1, by omega⟩
        rw [← hm] at h2 h3 h4
        exact ⟨h2, h3, h4⟩
      obtain ⟨hm2, hm3, hm4⟩ := hm1
      obtain ⟨b2, hb2⟩ : ∃ b2, b2 = b'.take at_ ++ t.data.toList.take m ++ b'.drop (at_ + m) := ⟨_, rfl⟩
      have hb2l : b2.length = 64 := by rw [hb2, List.length_append, List.length_append, List.length_take, List.length_take, List.length_drop, list_size, hb]; omega
      have hcp := run_copy_str (P := Tryz.prog) wr 84 9 3 5 g (8 + at_) (64 - at_) (64 - at_) t m hm.symm (streamRow R' b' n') 148 Tryz.underlying84 (by obtain ⟨i0, hi, _, hz1, _⟩ := info_parts info5b; rw [hi, Option.map_some, hz1]) M0.out (by rw [streamRow_size hb]; omega)
      rw [stream_copy R' n' hb (by omega) (by omega), ← hb2] at hcp
      obtain ⟨w2, hw2⟩ : ∃ w2, w2 = wr.setRow g (streamRow R' b2 n') := ⟨_, rfl⟩
      rw [← hw2] at hcp
      have N0 := Lib.hid (show Blk w2 g 148 (streamRow R' b2 n') by rw [hw2]; exact M0.out.put _)
      have N1 := Lib.hid (show Blk w2 (g + 1) 148 Z by rw [hw2]; exact M1.out.other_row (fun e => by omega) _)
      have NB := Lib.hid (show Below w.heap.size w w2 by rw [hw2]; exact below_row MB.out (by have := HG.out; omega) _)
      have c3 : w2.cell? ⟨g, 72, none⟩ = some (.int .u64 (n' : Int)) := (N0.out.cell 72).trans (stream_n hb2l)
      have f3 := N0.out.frozen 72
      obtain ⟨w3, hw3⟩ : ∃ w3, w3 = w2.setCell ⟨g, 72, none⟩ (.int .u64 ((n' + m : Nat) : Int)) := ⟨_, rfl⟩
      have P0 := Lib.hid (show Blk w3 g 148 (streamRow R' b2 (n' + m)) by rw [hw3, ← stream_setn (n := n') hb2l]; exact N0.out.set_ 72 _)
      have P1 := Lib.hid (show Blk w3 (g + 1) 148 Z by rw [hw3]; exact N1.out.other (p := ⟨g, 72, none⟩) (fun e => by have : g = g + 1 := e; omega) _)
      have PB := Lib.hid (show Below w.heap.size w w3 by rw [hw3]; exact NB.out.setCell (p := ⟨g, 72, none⟩) (by have := HG.out; show w.heap.size ≤ g; omega) _)
      have HB2 := Lib.hid hb2
      have HB2L := Lib.hid hb2l
      have HM := Lib.hid hm
      have HW3 := Lib.hid hw3
      have j0 : (0 : Int) ≤ (at_ : Int) := by omega
      have j1 : (at_ : Int) ≤ 64 := by omega
      have j2 : ¬ 64 = at_ := by omega
      have j3 : (0 : Int) ≤ (m : Int) := by omega
      have j4 : (m : Int) ≤ (t.size : Int) := by omega
      have j5 : IntKind.u64.wrap ((n' : Int) + (m : Int)) = (n' : Int) + (m : Int) := by rw [IntKind.wrap_u64]; omega
      obtain ⟨t2, ht2⟩ : ∃ t2, t2 = t.extract m t.size := ⟨_, rfl⟩
      have ht2d : t2.data.toList = t.data.toList.drop m := by rw [ht2]; exact Lib.extract_to_end t m
      have ht2s : t2.size = t.size - m := by rw [ht2, ByteArray.size_extract]; omega
      have HSTEP := Lib.hid (show addS t2.size (if at_ + m = 64 then R'.compress b2 else R') b2 (n' + m) t2.data.toList = F by
        have hF := HF.out
        have htne : t.data.toList ≠ [] := by intro e; have := list_size t; rw [e] at this; simp at this; omega
        have h5 : min t.data.toList.length (64 - n' % 64) = m := by rw [list_size, ← HAT.out, hm]
        have hstep := addS_step (t.size - 1) R' b' n' htne
        rw [show t.size - 1 + 1 = t.size by omega, hF, h5, ← HAT.out, ← hb2, ← ht2d] at hstep
        rw [hstep]
        exact addS_fuel _ _ _ _ _ _ (by rw [list_size]; exact Nat.le_refl _) (by rw [list_size, ht2s]; omega))
      have HT2 := Lib.hid ht2
      have HT2S := Lib.hid ht2s
      clear hb2 hb2l hm hw2 hw3 ht2 ht2d ht2s HF HAT
      by_cases h64 : at_ + m = 64
      · have j6 : (at_ : Int) + (m : Int) = 64 := by omega
        rw [if_pos h64] at HSTEP
        clear h64
        go_wp2_with fail
        rw [← HT2.out, ← Int.natCast_add, ← HW3.out]
        have hrd : Rd w3.drew w3.drew.heap.size 1 (some ⟨g, 8, none⟩) 64 (byteCells b2) := by
          refine ⟨by rw [byteCells_len, HB2L.out], fun _ => ⟨g, 8, rfl, P0.out.lt, fun j u hu => ?_⟩⟩
          exact (P0.out.cell (8 + j)).trans (stream_byte hu)
        have HRD := Lib.hid hrd
        have HKC := Lib.hid (show Consts w3.drew from HK.out.below PB.out.drew)
        obtain ⟨a0, b0, c0, d0, e0, f0, g0, h0⟩ := R'
        obtain ⟨z0, z1, z2, z3, z4, z5, z6, z7⟩ := stream_cells P0.out
        dsimp only at z0 z1 z2 z3 z4 z5 z6 z7
        clear hrd c2 c3 f3 hcp j0 j1 j2 j3 j4 j5 j6 hat3
        obtain ⟨S2, hS2⟩ : ∃ S2, S2 = (⟨a0, b0, c0, d0, e0, f0, g0, h0⟩ : Reg).compress b2 := ⟨_, rfl⟩
        rw [← hS2] at HSTEP
        have HS2 := Lib.hid hS2
        clear hS2
        obtain ⟨V, hV⟩ : ∃ V, V = rowS S2 := ⟨_, rfl⟩
        have HVi := Lib.hid (show (Tryz.prog.info? 146).map (·.size) = some V.size by rw [hV, rowS_size]; obtain ⟨_, h⟩ := zero_of_info info8w; exact h)
        have HVo := Lib.hid (show V.all (·.oneCell') = true by rw [hV]; exact rowS_one _)
        have HVs := Lib.hid (show V.size = 8 by rw [hV]; rfl)
        have HV := Lib.hid hV
        clear hV
        go_region_with ((go_at_call 102; refine (compress_any ⟨a0, b0, c0, d0, e0, f0, g0, h0⟩ (some ⟨g, 8, none⟩) 64 b2 _ HRD.out (by omega) (by omega) HKC.out).mono ?_; rintro e w5 ⟨rfl, hb5⟩; rw [← HS2.out, ← HV.out]; have P5 := Lib.hid (show Blk w5 g 148 (streamRow ⟨a0, b0, c0, d0, e0, f0, g0, h0⟩ b2 (n' + m)) from (P0.out.drewN 1).below hb5 (P0.out.drewN 1).lt); have hst := store8_run w5 g V HVs.out (stream_there P5.out HB2L.out) HVo.out; have HB5 := Lib.hid hb5; clear hb5))
        all_goals
          obtain ⟨w6, hw6⟩ : ∃ w6, w6 = w5.setCells g 0 V.toList := ⟨_, rfl⟩
          rw [← hw6]
          have R0 := Lib.hid (show Blk w6 g 148 (streamRow S2 b2 (n' + m)) by rw [hw6, HV.out]; exact P5.out.store8 S2)
          have P1' : Blk w5 (g + 1) 148 Z := (P1.out.drewN 1).below HB5.out (P1.out.drewN 1).lt
          have R1 := Lib.hid (show Blk w6 (g + 1) 148 Z by rw [hw6]; exact setCells_other8 w5 P1' (fun e => by omega) V.toList 0)
          have RB := Lib.hid (show Below w.heap.size w w6 by rw [hw6]; exact Lib.below_setCells g (by have := HG.out; omega) _ _ (below_go PB.out.drew HB5.out))
          clear hw6 P1' hst
          go_wp2_with fail
          refine ⟨⟨S2, b2, n' + m, t2, rfl, HB2L.out, by have := HT2S.out; omega, HSTEP, R0, R1, RB⟩, ?_⟩
          show t2.size < t.size
          have := HT2S.out
          omega
      · have j6 : ¬ (at_ : Int) + (m : Int) = 64 := by omega
        rw [if_neg h64] at HSTEP
        clear h64
        go_wp2_with fail
        rw [← HT2.out, ← Int.natCast_add, ← HW3.out]
        refine ⟨⟨R', b2, n' + m, t2, rfl, HB2L.out, by have := HT2S.out; omega, HSTEP, P0, P1, PB⟩, ?_⟩
        show t2.size < t.size
        have := HT2S.out
        omega
end Go.Proofs.YtddpjahoeldleaaGreatDoor

namespace Go.Proofs.YtddpjahoeldleaaGreatDoor
open Go.RowKit

theorem conv_rd {w : World} {B : Nat} {A : Option Addr} {n : Nat} {b : Bs} (h : Rd w B 1 A n (byteCells b)) (hn : 0 < n) (C : Nat) :
    (convert 84 9 (.slice A n C)).run Tryz.prog w = .ok (.string ⟨b.toArray⟩) w := by
  obtain ⟨g, o, rfl, _, hc⟩ := h.2 hn
  have hl : b.length = n := by have := h.1; rw [byteCells_len] at this; omega
  have := Lib.run_convert_whole (P := Tryz.prog) w 84 5 9 Tryz.underlying84 Tryz.underlying5 Tryz.underlying9 g o ⟨b.toArray⟩ (fun i hi => by
    rw [mk_size] at hi
    refine (hc i (.int .u8 ((b[i]).toNat : Int)) (by rw [byteCells, List.getElem?_map, List.getElem?_eq_getElem hi]; rfl)).trans ?_
    rfl) C
  rw [mk_size, hl] at this
  exact this

set_option maxHeartbeats 1000000 in
set_option maxRecDepth 100000 in
theorem begin_any (w : World) : Calls Tryz.prog 92 #[] w (RetB (.agg (streamRow iv (List.replicate 64 0) 0)) w) := by
  obtain ⟨hz, hsz⟩ := zero_of_info infoSt
  obtain ⟨hy, hsy⟩ := zero_of_info info8w
  obtain ⟨Z, hZ⟩ : ∃ Z, Z = streamRow ⟨0, 0, 0, 0, 0, 0, 0, 0⟩ (List.replicate 64 0) 0 := ⟨_, rfl⟩
  obtain ⟨V, hV⟩ : ∃ V, V = streamRow iv (List.replicate 64 0) 0 := ⟨_, rfl⟩
  obtain ⟨U, hU⟩ : ∃ U, U = rowS iv := ⟨_, rfl⟩
  replace hy : ∀ w, (zeroValue 146).run Tryz.prog w = .ok (.agg #[Value.int .u32 0, Value.int .u32 0, Value.int .u32 0, Value.int .u32 0, Value.int .u32 0, Value.int .u32 0, Value.int .u32 0, Value.int .u32 0]) w := hy
  have hU2 : #[Value.int .u32 1779033703, Value.int .u32 3144134277, Value.int .u32 1013904242, Value.int .u32 2773480762, Value.int .u32 1359893119, Value.int .u32 2600822924, Value.int .u32 528734635, Value.int .u32 1541459225] = U := by rw [hU]; rfl
  have hfold : Array.foldl (fun (cs : Array Value) (x : Value × Nat) => cs.setIfInBounds x.snd x.fst) Z U.zipIdx 0 8 = V := by rw [hU, hV, hZ]; kernel_rfl
  have hUs : U.size = 8 := by rw [hU]; rfl
  have hZ73 : Z.size = 73 := by rw [hZ, streamRow_size (by simp)]
  rw [← hZ] at hz
  rw [← hV]
  have HI := Lib.hid (show (Tryz.prog.info? 148).map (·.size) = some V.size by rw [hV, streamRow_size (by simp)]; exact hsz)
  have HZs := Lib.hid (show Z.size = V.size by rw [hV, hZ, streamRow_size (by simp), streamRow_size (by simp)])
  have HO := Lib.hid (show V.all (·.oneCell') = true by rw [hV]; exact streamRow_one _ _ _)
  have B0 := Blk.new w 148 Z
  have HM := Lib.hid (show (w.alloc (.cells Z 148)).heap[w.heap.size]? = some (.cells Z 148 (0, 0)) from B0)
  have HB := Lib.hid (below_row (below_new w (.cells Z 148)) (Nat.le_refl _) V)
  clear hsz hsy hZ hV hU
  go_enter Tryz.func92, Tryz.ntmps92
  go_wp2_with (first
    | (refine wpList_store_row rfl 148 _ _ rfl w.heap.size V rfl rfl 148 Z HM.out HI.out HZs.out HO.out ?_))
  refine bodyPost_ret (v := .agg V) ?_ rfl ⟨rfl, HB.out⟩
  exact results_cell_row rfl _ _ w.heap.size _ _ _ _ rfl (B0.put V) Tryz.underlying148 rfl HI.out
theorem stream_word (R : Reg) (blk : Bs) (n : Nat) {k : Nat} (h : k < 8) : (streamRow R blk n)[k]? = some (wordV (R.words.getD k 0)) := by
  rw [← rowS_get R h, streamRow, streamL, List.append_assoc, List.getElem?_toArray, List.getElem?_append_left (by show k < 8; exact h)]
  exact Array.getElem?_toList
theorem addS_len : ∀ (f : Nat) (R : Reg) (blk : Bs) (n : Nat) (t : Bs), blk.length = 64 → (addS f R blk n t).2.1.length = 64
  | 0, _, _, _, _, h => h
  | f + 1, R, blk, n, t, h => by
    by_cases ht : t = []
    · subst ht; rw [addS_nil]; exact h
    · rw [addS_step f R blk n ht]
      exact addS_len f _ _ _ _ (by simp only [List.length_append, List.length_take, List.length_drop]; omega)
theorem store_row_run {w : World} {g : Nat} {T : TypeId} {Z V : Array Value} (h : Blk w g T Z) (hs : Z.size = V.size) (h1 : V.all (·.oneCell') = true) : (storeCells ⟨g, 0, none⟩ V.toList).run Tryz.prog w = .ok () (w.setRow g V) := by
  have := run_storeCells_at Tryz.prog g 0 T V.toList 0 Z w h (by rw [Array.length_toList, hs]; omega) (fun v hv => (Array.all_eq_true_iff_forall_mem.1 h1) v (Array.mem_toList_iff.1 hv))
  rw [this]
  congr 2
  apply Array.ext'
  simp
  exact Nat.le_of_eq hs
/-- the padding of 56 bytes -/
def padB : Bs := ([128] ++ List.replicate 63 0) ++ lenB 8

set_option maxHeartbeats 4000000 in
set_option maxRecDepth 100000 in
theorem streamSum_any (R : Reg) (blk : Bs) (hb : blk.length = 64) (w : World) (hk : Consts w) :
    Calls Tryz.prog 94 #[.agg (streamRow R blk 56)] w (RetB (.agg (rowB 32 (addS 72 R blk 56 padB).1.bytes)) w) := by
  obtain ⟨hz, hsz⟩ := zero_of_info info32b
  obtain ⟨Z, hZ⟩ : ∃ Z, Z = rowB 32 [] := ⟨_, rfl⟩
  obtain ⟨Y, hY⟩ : ∃ Y, Y = streamRow R blk 56 := ⟨_, rfl⟩
  rw [← hZ] at hz
  rw [← hY]
  have HZ := Lib.hid hZ
  have HY := Lib.hid hY
  have HK := Lib.hid hk
  have HSZ := Lib.hid hsz
  obtain ⟨g, hg⟩ : ∃ g, g = w.heap.size := ⟨_, rfl⟩
  obtain ⟨w1, hw1⟩ : ∃ w1, w1 = (w.alloc (.cells Y 148)).alloc (.cells Z 125) := ⟨_, rfl⟩
  have A0 := (Blk.new w 148 Y)
  have A1 := Blk.new (w.alloc (.cells Y 148)) 125 Z
  rw [← hw1, show (w.alloc (.cells Y 148)).heap.size = g + 1 by rw [hg]; simp] at A1
  have A0 : Blk w1 g 148 Y := by rw [hw1, hg]; exact A0.below (below_new _ _) A0.lt
  have AB : Below w.heap.size w w1 := by rw [hw1]; exact (below_new w (.cells Y 148)).alloc (by simp) _
  have hws : w1.heap.size = w.heap.size + 2 := by rw [hw1]; simp
  have HG := Lib.hid hg
  have c2 : w1.cell? ⟨g, 72, none⟩ = some (.int .u64 56) := (A0.cell 72).trans (by rw [hY]; exact stream_n hb)
  have c2' : ((w.alloc (.cells Y 148)).alloc (.cells Z 125)).cell? ⟨w.heap.size, 72, none⟩ = some (.int .u64 56) := by rw [← hw1, ← hg]; exact c2
  have HW1 := Lib.hid hw1
  have HWS := Lib.hid hws
  have M0 := Lib.hid A0
  have M1 := Lib.hid A1
  have MB := Lib.hid AB
  have HHZ := Lib.hid hz
  clear hk hZ hY hsz A0 A1 AB hws c2 hg hw1
  go_enter Tryz.func94, Tryz.ntmps94
  go_wp2_with fail
  rw [← HW1.out, ← HG.out]
  have HC2 := Lib.hid (show w1.cell? ⟨g, 72, none⟩ = some (.int .u64 56) by rw [HW1.out, HG.out]; exact c2')
  have hlt := M0.out.lt
  have hown0 : (w1.alloc (.cells #[.int .u8 128] 5)).ownsRow w1.heap.size 5 1 (.slice (some ⟨g + 1 + 1, 0, none⟩) (1 + 0) 1) (1 + 0) (byteCells (zerosB [] 0)) := by
    have := World.ownsRow_lit (base := w1.heap.size) (e := 5) (size := 1) w1 #[.int .u8 128] 1 (Nat.le_refl _) (by decide) rfl
    rw [show w1.heap.size = g + 1 + 1 by rw [HWS.out, HG.out]] at this ⊢
    exact this
  have hb0 : Below w1.heap.size w1 (w1.alloc (.cells #[.int .u8 128] 5)) := below_new w1 _
  clear c2'
  go_loopw [4] (fun x wr => ∃ j : Nat, j ≤ 63 ∧ wr.ownsRow w1.heap.size 5 1 x (1 + j) (byteCells (zerosB [] j)) ∧ Below w1.heap.size w1 wr) (fun x _ => 120 - (match x with | .slice _ n _ => n | _ => 0))
  case atStart => exact ⟨0, by omega, hown0, hb0⟩
  case round =>
    clear hown0 hb0
    obtain ⟨j, hj, hown, hb1⟩ := hrel
    obtain ⟨A, cc, rfl, hcc⟩ := own_slice hown
    have hn : 1 + j ≤ 100000 := by omega
    have c2 : wr.cell? ⟨g, 72, none⟩ = some (.int .u64 56) := (hb1.cell (p := ⟨g, 72, none⟩) hlt).trans HC2.out
    have e0 : IntKind.i64.wrap (56 + (1 + (j : Int))) = 57 + (j : Int) := by rw [IntWalk.i64_in _ (by omega)]; omega
    by_cases hlt2 : j < 63
    · have e1 : ¬ ((57 : Int) + (j : Int)) % 64 = 56 := by omega
      have e2 : ¬ ((56 : Int) + (1 + (j : Int))) % 64 = 56 := by omega
      go_wp2_with (at_builtin; refine wpList_app_byte rfl _ _ rfl hb1 (.slice A (1 + j) cc) (1 + j) (zerosB [] j) (by rfl) hown 0 (by rfl) hn ?_; intro v3 w3 hown3 hb3)
      go_roundw
      case rel => exact ⟨j + 1, by omega, by rw [zeros_step]; exact hown3, hb3⟩
      case measure =>
        obtain ⟨A3, c3, rfl, _⟩ := own_slice hown3
        show 120 - (1 + j + 1) < 120 - (1 + j)
        omega
    · obtain rfl : j = 63 := by omega
      have hown0 : wr.ownsRow w1.heap.size 5 1 (.slice A (64 + 0) cc) (64 + 0) (byteCells (zerosB [] 63 ++ lenB 0)) := by rw [show lenB 0 = [] from rfl, List.append_nil]; exact hown
      clear hown
      rw [show (1 : Nat) + 63 = 64 from rfl]
      go_wp2_with fail
      go_loopw [4, 23] (fun x y wr => ∃ i : Nat, i ≤ 8 ∧ y = .int .i64 i ∧ wr.ownsRow w1.heap.size 5 1 x (64 + i) (byteCells (zerosB [] 63 ++ lenB i)) ∧ Below w1.heap.size w1 wr) (fun _ y _ => 8 - (intOf y).toNat)
      case atStart => exact ⟨0, by omega, rfl, hown0, hb1⟩
      case round =>
        clear hown0 hb1 c2 e0
        obtain ⟨i, hi, rfl, hown, hb1⟩ := hrel
        obtain ⟨A, cc, rfl, hcc⟩ := own_slice hown
        have hn : 64 + i ≤ 100000 := by omega
        by_cases hlt3 : i < 8
        · have j0 : (0 : Int) ≤ (i : Int) := by omega
          have j1 : (i : Int) < 8 := by omega
          obtain ⟨y, hy⟩ : ∃ y, y = UInt8.ofNat (448 / 2 ^ (56 - 8 * i) % 256) := ⟨_, rfl⟩
          have hy2 : (448 : Int) / 2 ^ (56 - 8 * i) % 256 = (y.toNat : Int) := by rw [hy]; exact byte_shift 448 _
          have HY2 := Lib.hid (show lenB (i + 1) = lenB i ++ [y] by rw [hy]; exact len_step ⟨i, hlt3⟩)
          clear hy
          go_wp2_with (at_builtin; refine wpList_app_byte rfl _ _ rfl hb1 (.slice A (64 + i) cc) (64 + i) (zerosB [] 63 ++ lenB i) (by rfl) hown y (by rfl) hn ?_; intro v3 w3 hown3 hb3)
          go_roundw
          case rel => exact ⟨i + 1, by omega, by go_num, by rw [HY2.out, ← List.append_assoc]; exact hown3, hb3⟩
          case measure => simp [intOf]; omega
        · obtain rfl : i = 8 := by omega
          rw [show (64 : Nat) + 8 = 72 from rfl]
          have hcv := conv_rd (Rd.of_own hown) (by omega) cc
          have hsz : (⟨(zerosB [] 63 ++ lenB 8).toArray⟩ : ByteArray).size = 72 := by rfl
          obtain ⟨s, hs⟩ : ∃ s : ByteArray, s = ⟨(zerosB [] 63 ++ lenB 8).toArray⟩ := ⟨_, rfl⟩
          rw [← hs] at hcv hsz
          have hY2 : wr.heap[g]? = some (.cells (streamRow R blk 56) 148 (0, 0)) := by rw [← HY.out]; exact M0.out.below hb1 M0.out.lt
          have hYi : (Tryz.prog.info? 148).map (·.size) = some (streamRow R blk 56).size := by rw [streamRow_size hb]; obtain ⟨_, h⟩ := zero_of_info infoSt; exact h
          obtain ⟨X, hX⟩ : ∃ X, X = streamRow R blk 56 := ⟨_, rfl⟩
          rw [← hX] at hY2 hYi
          have HX := Lib.hid hX
          have HM := Lib.hid hY2
          have HXi := Lib.hid hYi
          have HS := Lib.hid hs
          have HSS := Lib.hid hsz
          have HB1 := Lib.hid hb1
          have HCV := Lib.hid hcv
          rw [show ((8 : Nat) : Int) = 8 by omega]
          clear hX hY2 hYi hs hsz hown
          go_wp2_with (first
            | (refine wpList_load_row rfl 148 _ rfl g rfl 148 X (0, 0) _ HM.out Tryz.underlying148 rfl HXi.out ?_))
          rw [HX.out]
          refine (add_any R blk 56 hb (by omega) s (by rw [HSS.out]; omega) wr (HK.out.below (MB.out.trans (HB1.out.mono MB.out.size)))).mono ?_
          rintro e w5 ⟨rfl, hb5⟩
          obtain ⟨F, hF⟩ : ∃ F, F = addS s.size R blk 56 s.data.toList := ⟨_, rfl⟩
          have hF2 : F = addS 72 R blk 56 padB := by rw [hF, HSS.out, HS.out]; rfl
          have hFl : F.2.1.length = 64 := by rw [hF]; exact addS_len _ _ _ _ _ hb
          rw [← hF]
          obtain ⟨V, hV⟩ : ∃ V, V = streamRow F.1 F.2.1 F.2.2 := ⟨_, rfl⟩
          rw [← hV]
          have HI := Lib.hid (show (Tryz.prog.info? 148).map (·.size) = some V.size by rw [hV, streamRow_size hFl]; obtain ⟨_, h⟩ := zero_of_info infoSt; exact h)
          have HZs := Lib.hid (show (streamRow R blk 56).size = V.size by rw [hV, streamRow_size hFl, streamRow_size hb])
          have HO := Lib.hid (show V.all (·.oneCell') = true by rw [hV]; exact streamRow_one _ _ _)
          have G0 : Blk wr g 148 (streamRow R blk 56) := by rw [← HY.out]; exact M0.out.below HB1.out M0.out.lt
          have G1 : Blk wr (g + 1) 125 Z := M1.out.below HB1.out M1.out.lt
          have G0 : Blk w5 g 148 (streamRow R blk 56) := G0.below hb5 G0.lt
          have G1 : Blk w5 (g + 1) 125 Z := G1.below hb5 G1.lt
          have HM0 := Lib.hid (show w5.heap[g]? = some (.cells (streamRow R blk 56) 148 (0, 0)) from G0)
          obtain ⟨w6, hw6⟩ : ∃ w6, w6 = w5.setRow g V := ⟨_, rfl⟩
          have K0 : Blk w6 g 148 V := by rw [hw6]; exact G0.put V
          have K1 : Blk w6 (g + 1) 125 Z := by rw [hw6]; exact G1.other_row (fun e => by omega) V
          have KB : Below w.heap.size w w6 := by rw [hw6]; exact below_row (below_go (below_go MB.out HB1.out) hb5) (by have := HG.out; omega) V
          obtain ⟨q, hq⟩ : ∃ q, q = w6.heap.size := ⟨_, rfl⟩
          have Bq := Blk.new w6 125 Z
          rw [← hq] at Bq
          have HQ := Lib.hid hq
          have HGQ := Lib.hid (show g + 1 < q by rw [hq]; exact K1.lt)
          have HV := Lib.hid hV
          have N0 := Lib.hid (show Blk (w6.alloc (.cells Z 125)) (g + 1) 125 Z from K1.below (below_new w6 _) K1.lt)
          have N1 := Lib.hid (show Blk (w6.alloc (.cells Z 125)) g 148 (streamRow F.1 F.2.1 F.2.2) by rw [← HV.out]; exact K0.below (below_new w6 _) K0.lt)
          have Nq := Lib.hid (show Blk (w6.alloc (.cells Z 125)) q 125 (rowB 32 (F.1.bytes.take 0)) by rw [List.take_zero, ← HZ.out]; exact Bq)
          have NB := Lib.hid (show Below w.heap.size w (w6.alloc (.cells Z 125)) from KB.alloc (by rw [← hq]; have := HG.out; have := HGQ.out; omega) _)
          have HF2 := Lib.hid hF2
          have hz := HHZ.out
          have HW6 := Lib.hid hw6
          clear hw6 hF hF2 hFl hV G0 G1 K0 K1 KB Bq hq hb5 HX HM HXi hb1 hcv HCV
          go_wp2_with (first
            | (refine wpList_store_row rfl 148 _ _ rfl g V rfl rfl 148 (streamRow R blk 56) HM0.out HI.out HZs.out HO.out ?_; rw [← HW6.out]))
          rw [← HQ.out]
          clear hz
          go_loopw [40] (fun x wq => ∃ j : Nat, j ≤ 32 ∧ x = .int .i64 j ∧ Hid (Blk wq (g + 1) 125 Z) ∧ Hid (Blk wq g 148 (streamRow F.1 F.2.1 F.2.2)) ∧ Hid (Blk wq q 125 (rowB 32 (F.1.bytes.take j))) ∧ Hid (Below w.heap.size w wq)) (fun x _ => 32 - (intOf x).toNat)
          case atStart => exact ⟨0, by omega, rfl, N0, N1, Nq, NB⟩
          case round =>
            clear N0 N1 Nq NB
            obtain ⟨j, hj, rfl, N0, N1, Nq, NB⟩ := hrel
            by_cases hlt : j < 32
            · have j0 : (0 : Int) ≤ (j : Int) := by omega
              have j1 : (j : Int) < 32 := by omega
              have j2 : (0 : Int) ≤ (j : Int) / 4 := by omega
              have j3 : (j : Int) / 4 < 8 := by omega
              obtain ⟨v, hv⟩ : ∃ v, v = F.1.words.getD (j / 4) 0 := ⟨_, rfl⟩
              obtain ⟨y, hy⟩ : ∃ y, y = byteW v (24 - 8 * (j % 4)) := ⟨_, rfl⟩
              have hy2 : (v.toNat : Int) / 2 ^ (24 - 8 * (j % 4)) % 256 = (y.toNat : Int) := by rw [hy]; exact byte_shift v.toNat _
              have HY2 := Lib.hid (show F.1.bytes.take (j + 1) = F.1.bytes.take j ++ [y] by rw [hy, hv]; exact bytes_step F.1 hlt)
              have x0 : wr.cell? ⟨g, j / 4, none⟩ = some (wordV v) := (N1.out.cell _).trans (by rw [hv]; exact stream_word F.1 F.2.1 F.2.2 (by omega))
              have x1 : wr.cell? ⟨q, j, none⟩ = some (.int .u8 0) := (Nq.out.cell _).trans (rowB_zero (by rw [List.length_take]; omega) hlt)
              have f1 := Nq.out.frozen j
              clear hv hy
              go_wp2_with fail
              have P0 := Lib.hid (N0.out.other (p := ⟨q, j, none⟩) (by have := HGQ.out; show q ≠ g + 1; omega) (.int .u8 (y.toNat : Int)))
              have P1 := Lib.hid (N1.out.other (p := ⟨q, j, none⟩) (by have := HGQ.out; show q ≠ g; omega) (.int .u8 (y.toNat : Int)))
              have Pq := Lib.hid (show Blk (wr.setCell ⟨q, j, none⟩ (.int .u8 (y.toNat : Int))) q 125 (rowB 32 (F.1.bytes.take (j + 1))) by
                have := Nq.out.set_ j (.int .u8 (y.toNat : Int))
                have hl : (F.1.bytes.take j).length = j := by rw [List.length_take, bytes_len]; omega
                have h2 := rowB_push (n := 32) (l := F.1.bytes.take j) (x := y) (by omega)
                rw [hl] at h2
                rw [HY2.out, ← h2]
                exact this)
              have PB := Lib.hid (NB.out.setCell (p := ⟨q, j, none⟩) (by have := HGQ.out; have := HG.out; show w.heap.size ≤ q; omega) (.int .u8 (y.toNat : Int)))
              go_roundw
              case rel => exact ⟨j + 1, by omega, by go_num, P0, P1, Pq, PB⟩
              case measure => simp [intOf]; omega
            · obtain rfl : j = 32 := by omega
              obtain ⟨R2, hR⟩ : ∃ R2, R2 = rowB 32 (addS 72 R blk 56 padB).1.bytes := ⟨_, rfl⟩
              have hM := Nq.out
              rw [List.take_of_length_le (by rw [bytes_len]; exact Nat.le_refl _), HF2.out, ← hR] at hM
              have hRs : R2.size = 32 := by rw [hR]; exact rowB_size (by rw [bytes_len]; exact Nat.le_refl _)
              have HI2 := Lib.hid (show (Tryz.prog.info? 125).map (·.size) = some R2.size by rw [hRs]; exact HSZ.out)
              have HZs2 := Lib.hid (show Z.size = R2.size by rw [hRs, HZ.out]; rfl)
              have HO2 := Lib.hid (show R2.all (·.oneCell') = true by rw [hR]; exact rowB_one _ _)
              have HM1 := Lib.hid (show wr.heap[q]? = some (.cells R2 125 (0, 0)) from hM)
              have HM2 := Lib.hid (show wr.heap[g + 1]? = some (.cells Z 125 (0, 0)) from N0.out)
              have HB := Lib.hid (below_row NB.out (g := g + 1) (by have := HG.out; omega) R2)
              rw [← hR]
              have HR := Lib.hid hR
              clear hM hRs hR
              go_wp2_with (first
                | (refine wpList_load_row rfl 125 _ rfl q rfl 125 R2 (0, 0) _ HM1.out Tryz.underlying125 rfl HI2.out ?_)
                | (refine wpList_store_row rfl 125 _ _ rfl (g + 1) R2 rfl rfl 125 Z HM2.out HI2.out HZs2.out HO2.out ?_))
              refine bodyPost_ret (v := .agg R2) ?_ rfl ⟨by rw [HR.out], HB.out⟩
              exact results_cell_row rfl _ _ (g + 1) _ _ _ _ rfl (N0.out.put R2) Tryz.underlying125 rfl HI2.out

set_option maxHeartbeats 2000000 in
set_option maxRecDepth 100000 in
theorem hash_any (A : Option Addr) (c : Nat) (b : Bs) (w : World) (h : Rd w w.heap.size 1 A 56 (byteCells b)) (hk : Consts w) :
    Calls Tryz.prog 75 #[.slice A 56 c] w (RetB (.agg (rowB 32 (sha56 b))) w) := by
  obtain ⟨hz, hsz⟩ := zero_of_info info32b
  have hbl : b.length = 56 := by have := h.1; rw [byteCells_len] at this; omega
  obtain ⟨Z, hZ⟩ : ∃ Z, Z = rowB 32 [] := ⟨_, rfl⟩
  rw [← hZ] at hz
  obtain ⟨s, hs⟩ : ∃ s : ByteArray, s = ⟨b.toArray⟩ := ⟨_, rfl⟩
  have hss : s.size = 56 := by rw [hs, mk_size, hbl]
  have hsd : s.data.toList = b := by rw [hs]
  obtain ⟨e1, e2⟩ := sum_add hbl
  have HE1 := Lib.hid e1
  have HE2 := Lib.hid e2
  have H := Lib.hid h
  have HK := Lib.hid hk
  have HS := Lib.hid (And.intro hss hsd)
  obtain ⟨V, hV⟩ : ∃ V, V = rowB 32 (sha56 b) := ⟨_, rfl⟩
  have hVs : V.size = 32 := by rw [hV]; exact rowB_size (by rw [sha_len]; exact Nat.le_refl _)
  have HI := Lib.hid (show (Tryz.prog.info? 125).map (·.size) = some V.size by rw [hVs]; exact hsz)
  have HZs := Lib.hid (show Z.size = V.size by rw [hVs, hZ]; rfl)
  have HO := Lib.hid (show V.all (·.oneCell') = true by rw [hV]; exact rowB_one _ _)
  have B0 := Lib.hid (Blk.new w 125 Z)
  have BB := Lib.hid (below_new w (.cells Z 125))
  have HV := Lib.hid hV
  have hcv : ∀ w', Below w.heap.size w w' → (convert 84 9 (.slice A 56 c)).run Tryz.prog w' = .ok (.string s) w' := fun w' hb => by rw [hs]; exact conv_rd (h.go hb) (by omega) c
  have HCV := Lib.hid hcv
  clear h hk hbl hZ hs hss hsd e1 e2 hsz hcv hV
  have hb64 : (b ++ List.replicate 8 (0 : UInt8)).length = 64 := by rw [List.length_append, ← HS.out.2, list_size, HS.out.1]; rfl
  have HB64 := Lib.hid hb64
  have hcv1 := HCV.out _ (BB.out.drew)
  have HV2 := Lib.hid (show (rowB 32 (addS 72 iv (b ++ List.replicate 8 0) 56 padB).1.bytes) = V by rw [HV.out]; exact congrArg (rowB 32) HE2.out)
  clear hb64
  go_enter Tryz.func75, Tryz.ntmps75
  go_wp2_with fail
  go_region_with (first
    | (go_at_call 92; refine (begin_any _).mono ?_; rintro e w5 ⟨rfl, hb5⟩; have BB5 := Lib.hid (below_go BB.out.drew hb5); have hcv5 := HCV.out w5 BB5.out; have C5 := Lib.hid ((B0.out.drewN 1).below hb5 (B0.out.drewN 1).lt); clear hb5)
    | (go_at_call 93; refine (add_any iv (List.replicate 64 0) 0 rfl (by omega) s (by rw [HS.out.1]; omega) _ (HK.out.below BB5.out)).mono ?_; rintro e w6 ⟨rfl, hb6⟩; rw [HS.out.1, HS.out.2, HE1.out]; have BB6 := Lib.hid (below_go BB5.out hb6); have C6 := Lib.hid (C5.out.below hb6 C5.out.lt); clear hb6)
    | (go_at_call 94; refine (streamSum_any iv (b ++ List.replicate 8 0) HB64.out _ (HK.out.below BB6.out)).mono ?_; rintro e w7 ⟨rfl, hb7⟩; rw [HV2.out]; have BB7 := Lib.hid (below_go BB6.out hb7); have C7 := Lib.hid (C6.out.below hb7 C6.out.lt); have hst := store_row_run C7.out HZs.out HO.out; clear hb7))
  all_goals
    have HBF := Lib.hid (below_row BB7.out (g := w.heap.size) (Nat.le_refl _) V)
    clear hst
    go_wp2_with fail
    rw [← HV.out]
    refine bodyPost_ret (v := .agg V) ?_ rfl ⟨rfl, HBF.out⟩
    exact results_cell_row rfl _ _ w.heap.size _ _ _ _ rfl (C7.out.put V) Tryz.underlying125 rfl HI.out
end Go.Proofs.YtddpjahoeldleaaGreatDoor

namespace Go.Proofs.YtddpjahoeldleaaGreatDoor
open Go.RowKit

theorem countI_neg {n : Int} (h : n < 0) : countI n = 0 := by unfold countI; rw [if_pos h]
theorem countI_big {n : Int} (h : 8000 < n) : countI n = 0 := by unfold countI countN; rw [if_neg (by omega), if_pos (by omega)]
theorem countI_zero : countI 0 = 1 := rfl
theorem countI_mid {n : Int} (h0 : 0 < n) (h : n ≤ 8000) : (countI n : Int) = (n + 47) / 48 := by
  unfold countI countN; rw [if_neg (by omega), if_neg (by omega), if_neg (by omega)]; omega
set_option maxHeartbeats 1000000 in
theorem rcount_any (n : Int) (w : World) : Calls Tryz.prog 57 #[.int .i64 n] w (Ret (.int .i64 (countI n : Int)) w) := by
  by_cases h0 : n < 0
  · have H := Lib.hid (countI_neg h0)
    go_enter Tryz.func57, Tryz.ntmps57
    go_wp2_with fail
    go_ret
    exact Ret.int (by rw [H.out]; rfl)
  · by_cases h1 : 8000 < n
    · have H := Lib.hid (countI_big h1)
      go_enter Tryz.func57, Tryz.ntmps57
      go_wp2_with fail
      go_ret
      exact Ret.int (by rw [H.out]; rfl)
    · by_cases h2 : n = 0
      · subst h2
        go_enter Tryz.func57, Tryz.ntmps57
        go_wp2_with fail
        go_ret
        exact Ret.int rfl
      · have H := Lib.hid (countI_mid (n := n) (by omega) (by omega))
        have j0 : 0 ≤ n := by omega
        have j1 : n ≤ 8000 := by omega
        go_enter Tryz.func57, Tryz.ntmps57
        go_wp2_with fail
        go_ret
        exact Ret.int (by rw [H.out])
set_option maxHeartbeats 1000000 in
theorem count_any (n : Int) (w : World) : Calls Tryz.prog 34 #[.int .i64 n] w (Ret (.int .i64 (countI n : Int)) w) := by
  by_cases h0 : n < 0
  · have H := Lib.hid (countI_neg h0)
    go_enter Tryz.func34, Tryz.ntmps34
    go_wp2_with fail
    go_ret
    exact Ret.int (by rw [H.out]; rfl)
  · by_cases h1 : 8000 < n
    · have H := Lib.hid (countI_big h1)
      go_enter Tryz.func34, Tryz.ntmps34
      go_wp2_with fail
      go_ret
      exact Ret.int (by rw [H.out]; rfl)
    · by_cases h2 : n = 0
      · subst h2
        go_enter Tryz.func34, Tryz.ntmps34
        go_wp2_with fail
        go_ret
        exact Ret.int rfl
      · have H := Lib.hid (countI_mid (n := n) (by omega) (by omega))
        have j0 : 0 ≤ n := by omega
        have j1 : n ≤ 8000 := by omega
        go_enter Tryz.func34, Tryz.ntmps34
        go_wp2_with fail
        go_ret
        exact Ret.int (by rw [H.out]; omega)

theorem le_snoc : ∀ (j n : Nat), leN n (j + 1) = leN n j ++ [UInt8.ofNat (n / 256 ^ j % 256)]
  | 0, n => by simp [leN]
  | j + 1, n => by
    rw [leN, le_snoc j (n / 256), leN, Nat.div_div_eq_div_mul, Nat.pow_succ, Nat.mul_comm 256]
    rfl
theorem byte_mod (n : Nat) : (n : Int) % 256 = ((UInt8.ofNat (n % 256)).toNat : Int) := by
  rw [UInt8.toNat_ofNat', Nat.mod_eq_of_lt (by omega), Int.natCast_emod]; rfl

set_option maxHeartbeats 1000000 in
theorem small_any (n many : Nat) (w : World) (hn : n ≤ 1000000000) (hm : many ≤ 8) :
    Calls Tryz.prog 84 #[.int .i64 (n : Int), .int .i64 (many : Int)] w (OwnPost w.heap.size 5 1 many (byteCells (leN n many)) w) := by
  go_enter Tryz.func84, Tryz.ntmps84
  go_wp2_with fail
  go_loopw [0, 5, 6] (fun x v k wr => ∃ j : Nat, j ≤ many ∧ k = .int .i64 j ∧ x = .int .i64 ((n / 256 ^ j : Nat) : Int) ∧ wr.ownsRow w.heap.size 5 1 v j (byteCells (leN n j)) ∧ Below w.heap.size w wr) (fun _ _ k _ => many - (intOf k).toNat)
  case atStart => exact ⟨0, by omega, rfl, by rw [Nat.pow_zero, Nat.div_one], World.ownsRow_nil _ _ _ _, Below.refl _ _⟩
  case round =>
    obtain ⟨j, hj, rfl, rfl, hown, hb⟩ := hrel
    obtain ⟨A, cc, rfl, hcc⟩ := own_slice hown
    by_cases hlt : j < many
    · have j0 : (0 : Int) ≤ (j : Int) := by omega
      have j1 : (j : Int) < (many : Int) := by omega
      have hjn : j ≤ 100000 := by omega
      obtain ⟨x, hx⟩ : ∃ x, x = n / 256 ^ j := ⟨_, rfl⟩
      have hx2 : x ≤ 1000000000 := by rw [hx]; exact Nat.le_trans (Nat.div_le_self _ _) hn
      have hx3 : n / 256 ^ (j + 1) = x / 256 := by rw [hx, Nat.pow_succ, Nat.div_div_eq_div_mul]
      have HL := Lib.hid (show leN n (j + 1) = leN n j ++ [UInt8.ofNat (x % 256)] by rw [hx]; exact le_snoc j n)
      have HX3 := Lib.hid hx3
      rw [← hx]
      obtain ⟨y, hy⟩ : ∃ y, y = UInt8.ofNat (x % 256) := ⟨_, rfl⟩
      have hy2 : (x : Int) % 256 = (y.toNat : Int) := by rw [hy]; exact byte_mod x
      rw [← hy] at HL
      have k0 : (0 : Int) ≤ (x : Int) := by omega
      clear hy hx hx3
      go_wp2_with (at_builtin; refine wpList_app_byte rfl _ _ rfl hb (.slice A j cc) j (leN n j) (by rfl) hown y (by rfl) hjn ?_; intro v3 w3 hown3 hb3)
      go_roundw
      case rel => exact ⟨j + 1, by omega, by go_num, by rw [HX3.out]; go_num, by rw [HL.out]; exact hown3, hb3⟩
      case measure => simp [intOf]; omega
    · obtain rfl : j = many := by omega
      go_wp2_with fail
      go_ret
      exact ⟨_, rfl, hown, hb⟩

theorem num_cons {l : Bs} {j : Nat} (h : j < l.length) : numB (l.drop j) = (l[j]).toNat + 256 * numB (l.drop (j + 1)) := by
  rw [List.drop_eq_getElem_cons h, numB]
theorem num_lt : ∀ l : Bs, numB l < 256 ^ l.length
  | [] => by decide
  | x :: r => by
    have := num_lt r
    have hx := x.toNat_lt
    rw [numB, List.length_cons, Nat.pow_succ]
    omega

set_option maxHeartbeats 1000000 in
theorem number_any (s : ByteArray) (w : World) (hs : s.size ≤ 4) :
    Calls Tryz.prog 82 #[.string s] w (Ret (.int .i64 (numB s.data.toList : Int)) w) := by
  have hl := list_size s
  have HN := Lib.hid (num_lt s.data.toList)
  go_enter Tryz.func82, Tryz.ntmps82
  go_wp2_with fail
  go_loopw [3, 4] (fun x k wr => ∃ j : Nat, j ≤ s.size ∧ k = .int .i64 ((j : Int) - 1) ∧ x = .int .i64 (numB (s.data.toList.drop j) : Int) ∧ w = wr) (fun _ k _ => (intOf k + 1).toNat)
  case atStart => exact ⟨s.size, Nat.le_refl _, by go_num, by rw [List.drop_of_length_le (by omega)]; rfl, rfl⟩
  case round =>
    obtain ⟨j, hj, rfl, rfl, rfl⟩ := hrel
    by_cases h0 : j = 0
    · subst h0
      go_wp2_with fail
      go_ret
      exact Ret.int (by rw [List.drop_zero])
    · obtain ⟨i, rfl⟩ : ∃ i, j = i + 1 := ⟨j - 1, by omega⟩
      have hi : i < s.size := by omega
      have e := num_cons (l := s.data.toList) (j := i) (by omega)
      obtain ⟨a, ha⟩ : ∃ a, a = numB (s.data.toList.drop (i + 1)) := ⟨_, rfl⟩
      obtain ⟨y, hy⟩ : ∃ y, y = (s.data.toList[i]'(by omega)).toNat := ⟨_, rfl⟩
      have hal : a < 16777216 := by
        have := num_lt (s.data.toList.drop (i + 1))
        rw [← ha] at this
        refine Nat.lt_of_lt_of_le this ?_
        have : (s.data.toList.drop (i + 1)).length ≤ 3 := by rw [List.length_drop]; omega
        exact Nat.pow_le_pow_right (by decide) this
      have hyl : y < 256 := by rw [hy]; exact UInt8.toNat_lt _
      rw [← ha, ← hy] at e
      have HE := Lib.hid e
      have j0 : ((i + 1 : Nat) : Int) - 1 = (i : Int) := by omega
      rw [j0, ← ha]
      have j1 : (0 : Int) ≤ (i : Int) := by omega
      have j2 : (i : Int) < (s.size : Int) := by omega
      have hx : (s[i]'hi).toNat = y := by rw [hy]; rfl
      have k0 : (0 : Int) ≤ (a : Int) := by omega
      have k1 : (a : Int) < 16777216 := by omega
      have k2 : (0 : Int) ≤ (y : Int) := by omega
      have k3 : (y : Int) < 256 := by omega
      clear e ha hy j0
      go_wp2_with fail
      refine ⟨⟨i, by omega, rfl, by rw [HE.out]; go_num, trivial⟩, by simp [intOf]⟩

theorem below_drewN' {B : Nat} {a w : World} (h : Below B a w) (n : Nat) : Below B a (w.drewN n) := ⟨h.os, h.tape, h.output, h.size, h.block⟩
/-- the first 8 bytes of a hash in memory -/
theorem rd_front {w : World} {q : Nat} {T : TypeId} {s : Bs} (h : Blk w q T (rowB 32 s)) (n : Nat) (hs : s.length = 32) : Rd (w.drewN n) (w.drewN n).heap.size 1 (some ⟨q, 0, none⟩) 8 (byteCells (s.take 8)) := by
  refine ⟨by rw [byteCells_len, List.length_take, hs]; rfl, fun _ => ⟨q, 0, rfl, h.lt, fun j u hu => ?_⟩⟩
  have hj : j < 8 := by have := (List.getElem?_eq_some_iff.1 hu).1; rw [byteCells_len, List.length_take] at this; omega
  rw [Nat.zero_add]
  refine ((h.drewN n).cell j).trans ?_
  rw [rowB_get (by omega)]
  rw [byteCells, List.getElem?_map, List.getElem?_take, if_pos hj, List.getElem?_eq_getElem (by omega)] at hu
  rw [byteN, List.getD_eq_getElem?_getD, List.getElem?_eq_getElem (by omega)]
  exact hu
theorem checked_len {b : Bs} (h : b.length = 56) : (checkedB b).length = 64 := by rw [checkedB, List.length_append, h, List.length_take, sha_len]; rfl
set_option maxHeartbeats 1000000 in
set_option maxRecDepth 100000 in
theorem checked_any (A : Option Addr) (c : Nat) (b : Bs) (w : World) (h : Rd w w.heap.size 1 A 56 (byteCells b)) (hk : RConsts w) :
    Calls Tryz.prog 83 #[.slice A 56 c] w (RetB (str (checkedB b)) w) := by
  obtain ⟨hz, hsz⟩ := zero_of_info info32b
  have hbl : b.length = 56 := by have := h.1; rw [byteCells_len] at this; omega
  obtain ⟨Z, hZ⟩ : ∃ Z, Z = rowB 32 [] := ⟨_, rfl⟩
  rw [← hZ] at hz
  obtain ⟨V, hV⟩ : ∃ V, V = rowB 32 (sha56 b) := ⟨_, rfl⟩
  have hVs : V.size = 32 := by rw [hV]; exact rowB_size (by rw [sha_len]; exact Nat.le_refl _)
  have HI := Lib.hid (show (Tryz.prog.info? 125).map (·.size) = some V.size by rw [hVs]; exact hsz)
  have HZs := Lib.hid (show Z.size = V.size by rw [hVs, hZ]; rfl)
  have HO := Lib.hid (show V.all (·.oneCell') = true by rw [hV]; exact rowB_one _ _)
  have H := Lib.hid h
  have HV := Lib.hid hV
  have HB := Lib.hid hbl
  go_enter Tryz.func83, Tryz.ntmps83
  go_wp2_with fail
  refine (rsum_any A c b w h hk).mono ?_
  rintro e w2 ⟨rfl, hb2⟩
  rw [← hV]
  clear h hk hsz hbl hZ hV hVs
  obtain ⟨q, hq⟩ : ∃ q, q = w2.heap.size := ⟨_, rfl⟩
  have Bq := Blk.new w2 125 Z
  rw [← hq] at Bq
  have HM := Lib.hid (show (w2.alloc (.cells Z 125)).heap[q]? = some (.cells Z 125 (0, 0)) from Bq)
  obtain ⟨w3, hw3⟩ : ∃ w3, w3 = (w2.alloc (.cells Z 125)).setRow q V := ⟨_, rfl⟩
  have M := Lib.hid (show Blk w3 q 125 (rowB 32 (sha56 b)) by rw [hw3, ← HV.out]; exact Bq.put V)
  have hb3 : Below w.heap.size w w3 := by rw [hw3]; exact below_row (hb2.alloc hb2.size _) (by rw [hq]; exact hb2.size) V
  have HB3 := Lib.hid hb3
  have HQ := Lib.hid hq
  obtain ⟨s1, hs1⟩ : ∃ s1 : ByteArray, s1 = ⟨b.toArray⟩ := ⟨_, rfl⟩
  obtain ⟨s2, hs2⟩ : ∃ s2 : ByteArray, s2 = ⟨((sha56 b).take 8).toArray⟩ := ⟨_, rfl⟩
  have hcv1 : ∀ n, (convert 84 9 (.slice A 56 c)).run Tryz.prog (w3.drewN n) = .ok (.string s1) (w3.drewN n) := fun n => by rw [hs1]; exact conv_rd (H.out.go (below_drewN' hb3 n)) (by omega) c
  have hcv2 : ∀ n, (convert 84 9 (.slice (some ⟨q, 0, none⟩) 8 32)).run Tryz.prog (w3.drewN n) = .ok (.string s2) (w3.drewN n) := fun n => by rw [hs2]; exact conv_rd (rd_front M.out n (sha_len b)) (by omega) 32
  have z1 : s1.size = 56 := by rw [hs1, mk_size, HB.out]
  have z2 : s2.size = 8 := by rw [hs2, mk_size, List.length_take, sha_len]; rfl
  have HS := Lib.hid (show (s1 ++ s2).data.toList = checkedB b by rw [ByteArray.data_append, Array.toList_append, hs1, hs2, checkedB])
  have HW3 := Lib.hid hw3
  clear hb2 Bq hb3 hq hw3 hs1 hs2
  go_wp2_with (first
    | (rw [← HQ.out]; refine wpList_store_row rfl 125 _ _ rfl q V rfl rfl 125 Z HM.out HI.out HZs.out HO.out ?_; rw [← HW3.out]))
  dsimp only [Act.put]
  go_quiet (fail)
  go_wp2_with fail
  go_ret
  exact ⟨congrArg Ending.returned (str_of HS.out), below_drewN' HB3.out _⟩
end Go.Proofs.YtddpjahoeldleaaGreatDoor
