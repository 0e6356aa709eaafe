/- The program's stream of bytes to hash. -/
import Derived.Test.YtddpjahoeldleaaGreatDoorCompress
import Derived.Laws.CopyRow
import Derived.Lib.SlBuf
import Derived.Lib.BufferWrite
import Derived.Lib.IndexBytes
import Derived.Deep.RegionWith
import Derived.Deep.MidRow
namespace Go.Proofs.YtddpjahoeldleaaGreatDoor
open Go.RowKit

/-- a stream as a row: the state, the block, the length -/
def streamL (R : Reg) (blk : Bs) (n : Nat) : List Value := (rowS R).toList ++ byteCells blk ++ [.int .u64 (n : Int)]
def streamRow (R : Reg) (blk : Bs) (n : Nat) : Array Value := (streamL R blk n).toArray
theorem streamRow_size {R : Reg} {blk : Bs} {n : Nat} (h : blk.length = 64) : (streamRow R blk n).size = 73 := by
  simp [streamRow, streamL, rowS, byteCells, h]
/-- more bytes -/
def addS : Nat → Reg → Bs → Nat → Bs → Reg × Bs × Nat
  | 0, R, blk, n, _ => (R, blk, n)
  | _ + 1, R, blk, n, [] => (R, blk, n)
  | f + 1, R, blk, n, t =>
    let at_ := n % 64
    let k := min t.length (64 - at_)
    let blk' := blk.take at_ ++ t.take k ++ blk.drop (at_ + k)
    addS f (if at_ + k = 64 then R.compress blk' else R) blk' (n + k) (t.drop k)
theorem addS_nil (f : Nat) (R : Reg) (blk : Bs) (n : Nat) : addS f R blk n [] = (R, blk, n) := by cases f <;> rfl
theorem addS_step (f : Nat) (R : Reg) (blk : Bs) (n : Nat) {t : Bs} (h : t ≠ []) :
    addS (f + 1) R blk n t = addS f (if n % 64 + min t.length (64 - n % 64) = 64 then R.compress (blk.take (n % 64) ++ t.take (min t.length (64 - n % 64)) ++ blk.drop (n % 64 + min t.length (64 - n % 64))) else R) (blk.take (n % 64) ++ t.take (min t.length (64 - n % 64)) ++ blk.drop (n % 64 + min t.length (64 - n % 64))) (n + min t.length (64 - n % 64)) (t.drop (min t.length (64 - n % 64))) := by
  cases t with
  | nil => exact absurd rfl h
  | cons x r => rfl
/-- fuel enough -/
theorem addS_fuel : ∀ (f g : Nat) (R : Reg) (blk : Bs) (n : Nat) (t : Bs), t.length ≤ f → t.length ≤ g → addS f R blk n t = addS g R blk n t
  | 0, g, R, blk, n, t, h, _ => by
    have : t = [] := List.eq_nil_of_length_eq_zero (by omega)
    subst this; rw [addS_nil, addS_nil]
  | f + 1, 0, R, blk, n, t, _, h => by
    have : t = [] := List.eq_nil_of_length_eq_zero (by omega)
    subst this; rw [addS_nil, addS_nil]
  | f + 1, g + 1, R, blk, n, t, h1, h2 => by
    by_cases ht : t = []
    · subst ht; rw [addS_nil, addS_nil]
    · rw [addS_step f R blk n ht, addS_step g R blk n ht]
      have hl : 0 < t.length := List.length_pos_iff.2 ht
      exact addS_fuel f g _ _ _ _ (by rw [List.length_drop]; omega) (by rw [List.length_drop]; omega)
/-- the stream behind 56 bytes, and behind their padding -/
theorem sum_add {b : Bs} (h : b.length = 56) :
    addS 56 iv (List.replicate 64 0) 0 b = (iv, b ++ List.replicate 8 0, 56) ∧ (addS 72 iv (b ++ List.replicate 8 0) 56 (([128] ++ List.replicate 63 0) ++ lenB 8)).1.bytes = sha56 b := by
  constructor
  · have hne : b ≠ [] := by intro e; rw [e] at h; simp at h
    have e1 : (List.replicate 64 0 : Bs).drop (0 + 56) = List.replicate 8 0 := rfl
    have e2 : b.drop 56 = [] := List.drop_of_length_le (by omega)
    have e3 : b.take 56 = b := List.take_of_length_le (by omega)
    rw [addS_step 55 _ _ _ hne, h, show (0 : Nat) % 64 = 0 from rfl, show min 56 (64 - 0) = 56 from rfl, if_neg (by omega), List.take_zero, List.nil_append, e1, e2, e3, addS_nil]
  · have hne : (([128] ++ List.replicate 63 0) ++ lenB 8 : Bs) ≠ [] := by simp
    rw [addS_step 71 _ _ _ hne]
    have e1 : (b ++ List.replicate 8 0).take 56 = b := List.take_left' h
    have e2 : (b ++ List.replicate 8 (0 : UInt8)).drop 64 = [] := List.drop_of_length_le (by simp [h])
    have e3 : (([128] ++ List.replicate 63 0) ++ lenB 8 : Bs).take 8 = [128, 0, 0, 0, 0, 0, 0, 0] := rfl
    have e4 : (([128] ++ List.replicate 63 0) ++ lenB 8 : Bs).drop 8 = block2 := rfl
    rw [show (([128] ++ List.replicate 63 0) ++ lenB 8 : Bs).length = 72 from rfl, show (56 : Nat) % 64 = 56 from rfl, show min 72 (64 - 56) = 8 from rfl, if_pos rfl, show (56 : Nat) + 8 = 64 from rfl, e1, e2, e3, e4, List.append_nil]
    have hb2 : block2 ≠ [] := by decide
    rw [addS_step 70 _ _ _ hb2, show block2.length = 64 from rfl, show (64 : Nat) % 64 = 0 from rfl, show min 64 (64 - 0) = 64 from rfl, if_pos rfl, List.take_zero, List.nil_append, show block2.take 64 = block2 from rfl]
    rw [show (0 : Nat) + 64 = 64 from rfl, List.drop_of_length_le (by simp [h]), List.append_nil, show block2.drop 64 = [] from rfl, addS_nil]
    rfl

/-- copy(dst, s) of as many bytes as fit -/
theorem run_copy_str {P : Program} (w : World) (dT sT ty elem : TypeId) (g o dLen dCap : Nat) (s : ByteArray) (m : Nat) (hm : Nat.min s.size dLen = m) (cur : Array Value) (t : TypeId)
    (hu : P.underlying dT = some (.slice elem)) (hs : (P.info? elem).map (·.size) = some 1) (hg : w.heap[g]? = some (.cells cur t (0, 0))) (hfit : o + m ≤ cur.size) :
    (Builtin.copy_ #[dT, sT] ty #[.slice (some ⟨g, o, none⟩) dLen dCap, .string s]).run P w =
      .ok (goInt m) (w.setRow g (cur.toList.take o ++ (byteCells s.data.toList).take m ++ cur.toList.drop (o + m)).toArray) := by
  have hms : m ≤ s.size := by rw [← hm]; exact Nat.min_le_left _ _
  have hlen : ((byteCells s.data.toList).take m).length = m := by rw [List.length_take, byteCells_len, list_size]; omega
  have hst := run_storeCells_at P g o t ((byteCells s.data.toList).take m) 0 cur w hg (by rw [hlen]; simpa using hfit) (fun v hv => by
    have := List.mem_of_mem_take hv
    rw [byteCells, List.mem_map] at this
    obtain ⟨x, _, rfl⟩ := this
    rfl)
  have htk : List.take m (List.map (fun b : UInt8 => Value.int IntKind.u8 (b.toNat : Int)) s.data.toList) = (byteCells s.data.toList).take m := rfl
  rw [hlen] at hst
  simp only [Nat.add_zero] at hst
  cases hq : P.info? elem with
  | none => simp [hq] at hs
  | some i =>
    simp [Builtin.copy_, run_underlying hu, Builtin.lenOf, Builtin.firstCells, sizeOf, typeInfo, hq, hm]
    rw [htk, hst]
    simp [Result.andThen]

theorem stream_n {R : Reg} {blk : Bs} {n : Nat} (h : blk.length = 64) : (streamRow R blk n)[72]? = some (.int .u64 (n : Int)) := by
  rw [streamRow, streamL, List.getElem?_toArray, List.getElem?_append_right (by simp [rowS, byteCells, h])]
  simp [rowS, byteCells, h]
theorem streamRow_one (R : Reg) (blk : Bs) (n : Nat) : (streamRow R blk n).all (·.oneCell') = true := by
  rw [Array.all_eq_true_iff_forall_mem]
  intro v hv
  rw [streamRow, streamL] at hv
  simp only [rowS, byteCells, List.mem_toArray, List.mem_append, List.mem_map, List.mem_cons, List.not_mem_nil, or_false] at hv
  rcases hv with ((rfl | rfl | rfl | rfl | rfl | rfl | rfl | rfl) | ⟨x, _, rfl⟩) | rfl <;> rfl
theorem str_nonempty {t : ByteArray} (h : 1 ≤ t.size) : t.toList.isEmpty = false := by
  have : t.toList = t.data.toList := Lib.toList_data t
  rw [this]
  cases hx : t.data.toList with
  | nil => have := list_size t; rw [hx] at this; simp at this; omega
  | cons _ _ => rfl
theorem stream_copy (R : Reg) (n : Nat) {blk : Bs} (h : blk.length = 64) {a m : Nat} (ha : a ≤ 64) {t : Bs} (ham : a + m ≤ 64) :
    ((streamRow R blk n).toList.take (8 + a) ++ (byteCells t).take m ++ (streamRow R blk n).toList.drop (8 + a + m)).toArray = streamRow R (blk.take a ++ t.take m ++ blk.drop (a + m)) n := by
  have hl : (byteCells blk).length = 64 := by rw [byteCells_len, h]
  have e1 : (streamRow R blk n).toList.take (8 + a) = (rowS R).toList ++ (byteCells blk).take a := by
    show (streamL R blk n).take (8 + a) = _
    rw [streamL, List.append_assoc, List.take_append, show (rowS R).toList.length = 8 from rfl, List.take_of_length_le (show (rowS R).toList.length ≤ 8 + a from by show 8 ≤ 8 + a; omega), show 8 + a - 8 = a by omega, List.take_append_of_le_length (by omega)]
  have e2 : (streamRow R blk n).toList.drop (8 + a + m) = (byteCells blk).drop (a + m) ++ [.int .u64 (n : Int)] := by
    show (streamL R blk n).drop (8 + a + m) = _
    rw [streamL, List.append_assoc, List.drop_append, show (rowS R).toList.length = 8 from rfl, List.drop_of_length_le (show (rowS R).toList.length ≤ 8 + a + m from by show 8 ≤ 8 + a + m; omega), List.nil_append, show 8 + a + m - 8 = a + m by omega, List.drop_append_of_le_length (by omega)]
  rw [e1, e2, streamRow, streamL]
  congr 1
  simp only [byteCells, List.map_append, List.map_take, List.map_drop, List.append_assoc]
theorem stream_setn {R : Reg} {blk : Bs} {n k : Nat} (h : blk.length = 64) : (streamRow R blk n).setIfInBounds 72 (.int .u64 (k : Int)) = streamRow R blk k := by
  have hl : (byteCells blk).length = 64 := by rw [byteCells_len, h]
  rw [streamRow, streamRow, streamL, streamL, List.setIfInBounds_toArray, List.set_append_right _ _ (by rw [List.length_append, hl]; exact Nat.le_refl _)]
  congr 2
  rw [List.length_append, hl]
  rfl
theorem stream_there {w : World} {g : Nat} {t : TypeId} {R : Reg} {blk : Bs} {n : Nat} (h : Blk w g t (streamRow R blk n)) (hb : blk.length = 64) : w.there g 0 8 := fun j hj => by
  rw [Nat.zero_add]
  refine ⟨?_, h.frozen j⟩
  rw [h.cell j, Array.getElem?_eq_getElem (by rw [streamRow_size hb]; omega)]
  rfl
theorem setCells_other8 {g g' : Nat} {T : TypeId} {cs : Array Value} : ∀ (w : World) (_ : Blk w g' T cs) (_ : g' ≠ g) (vs : List Value) (o : Nat), Blk (w.setCells g o vs) g' T cs
  | _, h, _, [], _ => h
  | w, h, hne, v :: vs, o => setCells_other8 (w.setCell ⟨g, o, none⟩ v) (h.other (p := ⟨g, o, none⟩) (fun e => hne e.symm) v) hne vs (o + 1)
theorem store8_run (w : World) (g : Nat) (V : Array Value) (hs : V.size = 8) (ht : w.there g 0 8) (h1 : V.all (·.oneCell') = true) : (storeCells ⟨g, 0, none⟩ V.toList).run Tryz.prog w = .ok () (w.setCells g 0 V.toList) := by
  have hl : V.toList.length = 8 := by rw [Array.length_toList, hs]
  have := run_storeCells_cells (P := Tryz.prog) g 0 V.toList 0 w (fun j hj => by rw [Nat.add_zero]; exact (ht j (by omega)).1) (fun j hj => by rw [Nat.add_zero]; exact (ht j (by omega)).2) (fun v hv => (Array.all_eq_true_iff_forall_mem.1 h1) v (Array.mem_toList_iff.1 hv))
  exact this
theorem stream_byte {R : Reg} {blk : Bs} {n j : Nat} {u : Value} (h : (byteCells blk)[j]? = some u) : (streamRow R blk n)[8 + j]? = some u := by
  have hj := (List.getElem?_eq_some_iff.1 h).1
  rw [streamRow, streamL, List.append_assoc, List.getElem?_toArray, List.getElem?_append_right (by show 8 ≤ 8 + j; omega), show 8 + j - (rowS R).toList.length = j from Nat.add_sub_cancel_left 8 j, List.getElem?_append_left hj]
  exact h
theorem stream_cells {w : World} {g : Nat} {t : TypeId} {R : Reg} {blk : Bs} {n : Nat} (h : Blk w g t (streamRow R blk n)) :
    w.cell? ⟨g, 0, none⟩ = some (wordV R.a) ∧ w.cell? ⟨g, 1, none⟩ = some (wordV R.b) ∧ w.cell? ⟨g, 2, none⟩ = some (wordV R.c) ∧ w.cell? ⟨g, 3, none⟩ = some (wordV R.d) ∧ w.cell? ⟨g, 4, none⟩ = some (wordV R.e) ∧ w.cell? ⟨g, 5, none⟩ = some (wordV R.f) ∧ w.cell? ⟨g, 6, none⟩ = some (wordV R.g) ∧ w.cell? ⟨g, 7, none⟩ = some (wordV R.h) :=
  ⟨h.cell 0, h.cell 1, h.cell 2, h.cell 3, h.cell 4, h.cell 5, h.cell 6, h.cell 7⟩
theorem Blk.store8 {w : World} {g : Nat} {t : TypeId} {R : Reg} {blk : Bs} {n : Nat} (h : Blk w g t (streamRow R blk n)) (R' : Reg) : Blk (w.setCells g 0 (rowS R').toList) g t (streamRow R' blk n) := by
  have h7 := (((((((h.set_ 0 (wordV R'.a)).set_ 1 (wordV R'.b)).set_ 2 (wordV R'.c)).set_ 3 (wordV R'.d)).set_ 4 (wordV R'.e)).set_ 5 (wordV R'.f)).set_ 6 (wordV R'.g)).set_ 7 (wordV R'.h)
  have e : streamRow R' blk n = ((((((((streamRow R blk n).setIfInBounds 0 (wordV R'.a)).setIfInBounds 1 (wordV R'.b)).setIfInBounds 2 (wordV R'.c)).setIfInBounds 3 (wordV R'.d)).setIfInBounds 4 (wordV R'.e)).setIfInBounds 5 (wordV R'.f)).setIfInBounds 6 (wordV R'.g)).setIfInBounds 7 (wordV R'.h) := by
    simp [streamRow, streamL, rowS]
  rw [e]
  exact h7
theorem infoSt : (Tryz.prog.info? 148).map (fun i => (i.zero, i.size)) = some (some (.agg (streamRow ⟨0, 0, 0, 0, 0, 0, 0, 0⟩ (List.replicate 64 0) 0)), 73) := by kernel_rfl

set_option maxHeartbeats 4000000 in
set_option maxRecDepth 100000 in
theorem add_any (R : Reg) (blk : Bs) (n : Nat) (hb : blk.length = 64) (hn : n ≤ 100000) (s : ByteArray) (hs : s.size ≤ 100000) (w : World) (hk : Consts w) :
    Calls Tryz.prog 93 #[.agg (streamRow R blk n), .string s] w (RetB (.agg (streamRow (addS s.size R blk n s.data.toList).1 (addS s.size R blk n s.data.toList).2.1 (addS s.size R blk n s.data.toList).2.2)) w) := by
  obtain ⟨hz, hsz⟩ := zero_of_info infoSt
  obtain ⟨Z, hZ⟩ : ∃ Z, Z = streamRow ⟨0, 0, 0, 0, 0, 0, 0, 0⟩ (List.replicate 64 0) 0 := ⟨_, rfl⟩
  obtain ⟨Y, hY⟩ : ∃ Y, Y = streamRow R blk n := ⟨_, rfl⟩
  rw [← hZ] at hz
  rw [← hY]
  have HZ := Lib.hid hZ
  have HY := Lib.hid hY
  have HK := Lib.hid hk
  have HSZ := Lib.hid hsz
  clear hk hZ hY hsz
  go_enter Tryz.func93, Tryz.ntmps93
  go_wp2_with fail
  obtain ⟨g, hg⟩ : ∃ g, g = w.heap.size := ⟨_, rfl⟩
  obtain ⟨w1, hw1⟩ : ∃ w1, w1 = (w.alloc (.cells Y 148)).alloc (.cells Z 148) := ⟨_, rfl⟩
  have A0 := (Blk.new w 148 Y)
  have A1 := Blk.new (w.alloc (.cells Y 148)) 148 Z
  rw [← hw1, show (w.alloc (.cells Y 148)).heap.size = g + 1 by rw [hg]; simp] at A1
  have A0 : Blk w1 g 148 Y := by rw [hw1, hg]; exact A0.below (below_new _ _) A0.lt
  have AB : Below w.heap.size w w1 := by rw [hw1]; exact (below_new w (.cells Y 148)).alloc (by simp) _
  rw [← hw1, ← hg]
  have HG := Lib.hid hg
  have M0 := Lib.hid (show Blk w1 g 148 (streamRow R blk n) by rw [← HY.out]; exact A0)
  have M1 := Lib.hid A1
  have MB := Lib.hid AB
  obtain ⟨F, hF⟩ : ∃ F, F = addS s.size R blk n s.data.toList := ⟨_, rfl⟩
  rw [← hF]
  have HF := Lib.hid hF
  have HF0 := Lib.hid hF
  clear hw1 hg A0 A1 AB hF hz
  go_loopw [1] (fun x wr => ∃ (R' : Reg) (b' : Bs) (n' : Nat) (t : ByteArray), x = .string t ∧ b'.length = 64 ∧ n' + t.size ≤ 200000 ∧ Hid (addS t.size R' b' n' t.data.toList = F) ∧ Hid (Blk wr g 148 (streamRow R' b' n')) ∧ Hid (Blk wr (g + 1) 148 Z) ∧ Hid (Below w.heap.size w wr)) (fun x _ => match x with | .string t => t.size | _ => 0)
  case atStart => exact ⟨R, blk, n, s, rfl, hb, by omega, Lib.hid HF.out.symm, M0, M1, MB⟩
  case round =>
    clear M0 M1 MB hb hn HF HY
    obtain ⟨R', b', n', t, rfl, hb, hn, HF, M0, M1, MB⟩ := hrel
    by_cases h0 : t.size = 0
    · obtain rfl : t = ⟨#[]⟩ := by cases t; rename_i d; simp [ByteArray.size] at h0; subst h0; rfl
      have hF : F = (R', b', n') := HF.out.symm
      clear h0 hn
      obtain ⟨V, hV⟩ : ∃ V, V = streamRow R' b' n' := ⟨_, rfl⟩
      have hM := M0.out
      rw [← hV] at hM
      have HI := Lib.hid (show (Tryz.prog.info? 148).map (·.size) = some V.size by rw [hV, streamRow_size hb]; exact HSZ.out)
      have HZs := Lib.hid (show Z.size = V.size by rw [hV, streamRow_size hb, HZ.out, streamRow_size (by simp)])
      have HO := Lib.hid (show V.all (·.oneCell') = true by rw [hV]; exact streamRow_one _ _ _)
      have HM1 := Lib.hid (show wr.heap[g]? = some (.cells V 148 (0, 0)) from hM)
      have HM0 := Lib.hid (show wr.heap[g + 1]? = some (.cells Z 148 (0, 0)) from M1.out)
      have HB := Lib.hid (below_row MB.out (g := g + 1) (by have := HG.out; omega) V)
      have HVF := Lib.hid (show V = streamRow F.1 F.2.1 F.2.2 by rw [hV, hF])
      clear hM hV hF
      go_wp2_with (first
        | (refine wpList_load_row rfl 148 _ rfl g rfl 148 V (0, 0) _ HM1.out Tryz.underlying148 rfl HI.out ?_)
        | (refine wpList_store_row rfl 148 _ _ rfl (g + 1) V rfl rfl 148 Z HM0.out HI.out HZs.out HO.out ?_))
      refine bodyPost_ret (v := .agg V) ?_ rfl ⟨by rw [HVF.out, HF0.out], HB.out⟩
      exact results_cell_row rfl _ _ (g + 1) _ _ _ _ rfl (M1.out.put V) Tryz.underlying148 rfl HI.out
    · have hne : t.toList.isEmpty = false := str_nonempty (by omega)
      have h1 : 1 ≤ t.size := by omega
      obtain ⟨at_, hat⟩ : ∃ a, a = n' % 64 := ⟨_, rfl⟩
      have hat2 : at_ < 64 := by omega
      have hat3 : (n' : Int) % 64 = (at_ : Int) := by omega
      have HAT := Lib.hid hat
      clear hat
      have c2 : wr.cell? ⟨g, 72, none⟩ = some (.int .u64 (n' : Int)) := (M0.out.cell 72).trans (stream_n hb)
      obtain ⟨m, hm⟩ : ∃ m, m = Nat.min t.size (64 - at_) := ⟨_, rfl⟩
      have hm1 : m ≤ t.size ∧ m ≤ 64 - at_ ∧ 1 ≤ m := by
        have h2 : Nat.min t.size (64 - at_) ≤ t.size := Nat.min_le_left _ _
        have h3 : Nat.min t.size (64 - at_) ≤ 64 - at_ := Nat.min_le_right _ _
        have h4 : 1 ≤ Nat.min t.size (64 - at_) := Nat.le_min.2 ⟨h1, by omega⟩
        rw [← hm] at h2 h3 h4
        exact ⟨h2, h3, h4⟩
      obtain ⟨hm2, hm3, hm4⟩ := hm1
      obtain ⟨b2, hb2⟩ : ∃ b2, b2 = b'.take at_ ++ t.data.toList.take m ++ b'.drop (at_ + m) := ⟨_, rfl⟩
      have hb2l : b2.length = 64 := by rw [hb2, List.length_append, List.length_append, List.length_take, List.length_take, List.length_drop, list_size, hb]; omega
      have hcp := run_copy_str (P := Tryz.prog) wr 84 9 3 5 g (8 + at_) (64 - at_) (64 - at_) t m hm.symm (streamRow R' b' n') 148 Tryz.underlying84 (by obtain ⟨i0, hi, _, hz1, _⟩ := info_parts info5b; rw [hi, Option.map_some, hz1]) M0.out (by rw [streamRow_size hb]; omega)
      rw [stream_copy R' n' hb (by omega) (by omega), ← hb2] at hcp
      obtain ⟨w2, hw2⟩ : ∃ w2, w2 = wr.setRow g (streamRow R' b2 n') := ⟨_, rfl⟩
      rw [← hw2] at hcp
      have N0 := Lib.hid (show Blk w2 g 148 (streamRow R' b2 n') by rw [hw2]; exact M0.out.put _)
      have N1 := Lib.hid (show Blk w2 (g + 1) 148 Z by rw [hw2]; exact M1.out.other_row (fun e => by omega) _)
      have NB := Lib.hid (show Below w.heap.size w w2 by rw [hw2]; exact below_row MB.out (by have := HG.out; omega) _)
      have c3 : w2.cell? ⟨g, 72, none⟩ = some (.int .u64 (n' : Int)) := (N0.out.cell 72).trans (stream_n hb2l)
      have f3 := N0.out.frozen 72
      obtain ⟨w3, hw3⟩ : ∃ w3, w3 = w2.setCell ⟨g, 72, none⟩ (.int .u64 ((n' + m : Nat) : Int)) := ⟨_, rfl⟩
      have P0 := Lib.hid (show Blk w3 g 148 (streamRow R' b2 (n' + m)) by rw [hw3, ← stream_setn (n := n') hb2l]; exact N0.out.set_ 72 _)
      have P1 := Lib.hid (show Blk w3 (g + 1) 148 Z by rw [hw3]; exact N1.out.other (p := ⟨g, 72, none⟩) (fun e => by have : g = g + 1 := e; omega) _)
      have PB := Lib.hid (show Below w.heap.size w w3 by rw [hw3]; exact NB.out.setCell (p := ⟨g, 72, none⟩) (by have := HG.out; show w.heap.size ≤ g; omega) _)
      have HB2 := Lib.hid hb2
      have HB2L := Lib.hid hb2l
      have HM := Lib.hid hm
      have HW3 := Lib.hid hw3
      have j0 : (0 : Int) ≤ (at_ : Int) := by omega
      have j1 : (at_ : Int) ≤ 64 := by omega
      have j2 : ¬ 64 = at_ := by omega
      have j3 : (0 : Int) ≤ (m : Int) := by omega
      have j4 : (m : Int) ≤ (t.size : Int) := by omega
      have j5 : IntKind.u64.wrap ((n' : Int) + (m : Int)) = (n' : Int) + (m : Int) := by rw [IntKind.wrap_u64]; omega
      obtain ⟨t2, ht2⟩ : ∃ t2, t2 = t.extract m t.size := ⟨_, rfl⟩
      have ht2d : t2.data.toList = t.data.toList.drop m := by rw [ht2]; exact Lib.extract_to_end t m
      have ht2s : t2.size = t.size - m := by rw [ht2, ByteArray.size_extract]; omega
      have HSTEP := Lib.hid (show addS t2.size (if at_ + m = 64 then R'.compress b2 else R') b2 (n' + m) t2.data.toList = F by
        have hF := HF.out
        have htne : t.data.toList ≠ [] := by intro e; have := list_size t; rw [e] at this; simp at this; omega
        have h5 : min t.data.toList.length (64 - n' % 64) = m := by rw [list_size, ← HAT.out, hm]
        have hstep := addS_step (t.size - 1) R' b' n' htne
        rw [show t.size - 1 + 1 = t.size by omega, hF, h5, ← HAT.out, ← hb2, ← ht2d] at hstep
        rw [hstep]
        exact addS_fuel _ _ _ _ _ _ (by rw [list_size]; exact Nat.le_refl _) (by rw [list_size, ht2s]; omega))
      have HT2 := Lib.hid ht2
      have HT2S := Lib.hid ht2s
      clear hb2 hb2l hm hw2 hw3 ht2 ht2d ht2s HF HAT
      by_cases h64 : at_ + m = 64
      · have j6 : (at_ : Int) + (m : Int) = 64 := by omega
        rw [if_pos h64] at HSTEP
        clear h64
        go_wp2_with fail
        rw [← HT2.out, ← Int.natCast_add, ← HW3.out]
        have hrd : Rd w3.drew w3.drew.heap.size 1 (some ⟨g, 8, none⟩) 64 (byteCells b2) := by
          refine ⟨by rw [byteCells_len, HB2L.out], fun _ => ⟨g, 8, rfl, P0.out.lt, fun j u hu => ?_⟩⟩
          exact (P0.out.cell (8 + j)).trans (stream_byte hu)
        have HRD := Lib.hid hrd
        have HKC := Lib.hid (show Consts w3.drew from HK.out.below PB.out.drew)
        obtain ⟨a0, b0, c0, d0, e0, f0, g0, h0⟩ := R'
        obtain ⟨z0, z1, z2, z3, z4, z5, z6, z7⟩ := stream_cells P0.out
        dsimp only at z0 z1 z2 z3 z4 z5 z6 z7
        clear hrd c2 c3 f3 hcp j0 j1 j2 j3 j4 j5 j6 hat3
        obtain ⟨S2, hS2⟩ : ∃ S2, S2 = (⟨a0, b0, c0, d0, e0, f0, g0, h0⟩ : Reg).compress b2 := ⟨_, rfl⟩
        rw [← hS2] at HSTEP
        have HS2 := Lib.hid hS2
        clear hS2
        obtain ⟨V, hV⟩ : ∃ V, V = rowS S2 := ⟨_, rfl⟩
        have HVi := Lib.hid (show (Tryz.prog.info? 146).map (·.size) = some V.size by rw [hV, rowS_size]; obtain ⟨_, h⟩ := zero_of_info info8w; exact h)
        have HVo := Lib.hid (show V.all (·.oneCell') = true by rw [hV]; exact rowS_one _)
        have HVs := Lib.hid (show V.size = 8 by rw [hV]; rfl)
        have HV := Lib.hid hV
        clear hV
        go_region_with ((go_at_call 102; refine (compress_any ⟨a0, b0, c0, d0, e0, f0, g0, h0⟩ (some ⟨g, 8, none⟩) 64 b2 _ HRD.out (by omega) (by omega) HKC.out).mono ?_; rintro e w5 ⟨rfl, hb5⟩; rw [← HS2.out, ← HV.out]; have P5 := Lib.hid (show Blk w5 g 148 (streamRow ⟨a0, b0, c0, d0, e0, f0, g0, h0⟩ b2 (n' + m)) from (P0.out.drewN 1).below hb5 (P0.out.drewN 1).lt); have hst := store8_run w5 g V HVs.out (stream_there P5.out HB2L.out) HVo.out; have HB5 := Lib.hid hb5; clear hb5))
        all_goals
          obtain ⟨w6, hw6⟩ : ∃ w6, w6 = w5.setCells g 0 V.toList := ⟨_, rfl⟩
          rw [← hw6]
          have R0 := Lib.hid (show Blk w6 g 148 (streamRow S2 b2 (n' + m)) by rw [hw6, HV.out]; exact P5.out.store8 S2)
          have P1' : Blk w5 (g + 1) 148 Z := (P1.out.drewN 1).below HB5.out (P1.out.drewN 1).lt
          have R1 := Lib.hid (show Blk w6 (g + 1) 148 Z by rw [hw6]; exact setCells_other8 w5 P1' (fun e => by omega) V.toList 0)
          have RB := Lib.hid (show Below w.heap.size w w6 by rw [hw6]; exact Lib.below_setCells g (by have := HG.out; omega) _ _ (below_go PB.out.drew HB5.out))
          clear hw6 P1' hst
          go_wp2_with fail
          refine ⟨⟨S2, b2, n' + m, t2, rfl, HB2L.out, by have := HT2S.out; omega, HSTEP, R0, R1, RB⟩, ?_⟩
          show t2.size < t.size
          have := HT2S.out
          omega
      · have j6 : ¬ (at_ : Int) + (m : Int) = 64 := by omega
        rw [if_neg h64] at HSTEP
        clear h64
        go_wp2_with fail
        rw [← HT2.out, ← Int.natCast_add, ← HW3.out]
        refine ⟨⟨R', b2, n' + m, t2, rfl, HB2L.out, by have := HT2S.out; omega, HSTEP, P0, P1, PB⟩, ?_⟩
        show t2.size < t.size
        have := HT2S.out
        omega
end Go.Proofs.YtddpjahoeldleaaGreatDoor
