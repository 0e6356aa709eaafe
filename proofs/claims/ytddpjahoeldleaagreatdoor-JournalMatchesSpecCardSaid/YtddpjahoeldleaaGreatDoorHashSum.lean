/- The program's hash of 56 bytes. -/
import Derived.Test.YtddpjahoeldleaaGreatDoorStream
namespace Go.Proofs.YtddpjahoeldleaaGreatDoor
open Go.RowKit

theorem conv_rd {w : World} {B : Nat} {A : Option Addr} {n : Nat} {b : Bs} (h : Rd w B 1 A n (byteCells b)) (hn : 0 < n) (C : Nat) :
    (convert 84 9 (.slice A n C)).run Tryz.prog w = .ok (.string ⟨b.toArray⟩) w := by
  obtain ⟨g, o, rfl, _, hc⟩ := h.2 hn
  have hl : b.length = n := by have := h.1; rw [byteCells_len] at this; omega
  have := Lib.run_convert_whole (P := Tryz.prog) w 84 5 9 Tryz.underlying84 Tryz.underlying5 Tryz.underlying9 g o ⟨b.toArray⟩ (fun i hi => by
    rw [mk_size] at hi
    refine (hc i (.int .u8 ((b[i]).toNat : Int)) (by rw [byteCells, List.getElem?_map, List.getElem?_eq_getElem hi]; rfl)).trans ?_
    rfl) C
  rw [mk_size, hl] at this
  exact this

set_option maxHeartbeats 1000000 in
set_option maxRecDepth 100000 in
theorem begin_any (w : World) : Calls Tryz.prog 92 #[] w (RetB (.agg (streamRow iv (List.replicate 64 0) 0)) w) := by
  obtain ⟨hz, hsz⟩ := zero_of_info infoSt
  obtain ⟨hy, hsy⟩ := zero_of_info info8w
  obtain ⟨Z, hZ⟩ : ∃ Z, Z = streamRow ⟨0, 0, 0, 0, 0, 0, 0, 0⟩ (List.replicate 64 0) 0 := ⟨_, rfl⟩
  obtain ⟨V, hV⟩ : ∃ V, V = streamRow iv (List.replicate 64 0) 0 := ⟨_, rfl⟩
  obtain ⟨U, hU⟩ : ∃ U, U = rowS iv := ⟨_, rfl⟩
  replace hy : ∀ w, (zeroValue 146).run Tryz.prog w = .ok (.agg #[Value.int .u32 0, Value.int .u32 0, Value.int .u32 0, Value.int .u32 0, Value.int .u32 0, Value.int .u32 0, Value.int .u32 0, Value.int .u32 0]) w := hy
  have hU2 : #[Value.int .u32 1779033703, Value.int .u32 3144134277, Value.int .u32 1013904242, Value.int .u32 2773480762, Value.int .u32 1359893119, Value.int .u32 2600822924, Value.int .u32 528734635, Value.int .u32 1541459225] = U := by rw [hU]; rfl
  have hfold : Array.foldl (fun (cs : Array Value) (x : Value × Nat) => cs.setIfInBounds x.snd x.fst) Z U.zipIdx 0 8 = V := by rw [hU, hV, hZ]; kernel_rfl
  have hUs : U.size = 8 := by rw [hU]; rfl
  have hZ73 : Z.size = 73 := by rw [hZ, streamRow_size (by simp)]
  rw [← hZ] at hz
  rw [← hV]
  have HI := Lib.hid (show (Tryz.prog.info? 148).map (·.size) = some V.size by rw [hV, streamRow_size (by simp)]; exact hsz)
  have HZs := Lib.hid (show Z.size = V.size by rw [hV, hZ, streamRow_size (by simp), streamRow_size (by simp)])
  have HO := Lib.hid (show V.all (·.oneCell') = true by rw [hV]; exact streamRow_one _ _ _)
  have B0 := Blk.new w 148 Z
  have HM := Lib.hid (show (w.alloc (.cells Z 148)).heap[w.heap.size]? = some (.cells Z 148 (0, 0)) from B0)
  have HB := Lib.hid (below_row (below_new w (.cells Z 148)) (Nat.le_refl _) V)
  clear hsz hsy hZ hV hU
  go_enter Tryz.func92, Tryz.ntmps92
  go_wp2_with (first
    | (refine wpList_store_row rfl 148 _ _ rfl w.heap.size V rfl rfl 148 Z HM.out HI.out HZs.out HO.out ?_))
  refine bodyPost_ret (v := .agg V) ?_ rfl ⟨rfl, HB.out⟩
  exact results_cell_row rfl _ _ w.heap.size _ _ _ _ rfl (B0.put V) Tryz.underlying148 rfl HI.out
theorem stream_word (R : Reg) (blk : Bs) (n : Nat) {k : Nat} (h : k < 8) : (streamRow R blk n)[k]? = some (wordV (R.words.getD k 0)) := by
  rw [← rowS_get R h, streamRow, streamL, List.append_assoc, List.getElem?_toArray, List.getElem?_append_left (by show k < 8; exact h)]
  exact Array.getElem?_toList
theorem addS_len : ∀ (f : Nat) (R : Reg) (blk : Bs) (n : Nat) (t : Bs), blk.length = 64 → (addS f R blk n t).2.1.length = 64
  | 0, _, _, _, _, h => h
  | f + 1, R, blk, n, t, h => by
    by_cases ht : t = []
    · subst ht; rw [addS_nil]; exact h
    · rw [addS_step f R blk n ht]
      exact addS_len f _ _ _ _ (by simp only [List.length_append, List.length_take, List.length_drop]; omega)
theorem store_row_run {w : World} {g : Nat} {T : TypeId} {Z V : Array Value} (h : Blk w g T Z) (hs : Z.size = V.size) (h1 : V.all (·.oneCell') = true) : (storeCells ⟨g, 0, none⟩ V.toList).run Tryz.prog w = .ok () (w.setRow g V) := by
  have := run_storeCells_at Tryz.prog g 0 T V.toList 0 Z w h (by rw [Array.length_toList, hs]; omega) (fun v hv => (Array.all_eq_true_iff_forall_mem.1 h1) v (Array.mem_toList_iff.1 hv))
  rw [this]
  congr 2
  apply Array.ext'
  simp
  exact Nat.le_of_eq hs
/-- the padding of 56 bytes -/
def padB : Bs := ([128] ++ List.replicate 63 0) ++ lenB 8

set_option maxHeartbeats 4000000 in
set_option maxRecDepth 100000 in
theorem streamSum_any (R : Reg) (blk : Bs) (hb : blk.length = 64) (w : World) (hk : Consts w) :
    Calls Tryz.prog 94 #[.agg (streamRow R blk 56)] w (RetB (.agg (rowB 32 (addS 72 R blk 56 padB).1.bytes)) w) := by
  obtain ⟨hz, hsz⟩ := zero_of_info info32b
  obtain ⟨Z, hZ⟩ : ∃ Z, Z = rowB 32 [] := ⟨_, rfl⟩
  obtain ⟨Y, hY⟩ : ∃ Y, Y = streamRow R blk 56 := ⟨_, rfl⟩
  rw [← hZ] at hz
  rw [← hY]
  have HZ := Lib.hid hZ
  have HY := Lib.hid hY
  have HK := Lib.hid hk
  have HSZ := Lib.hid hsz
  obtain ⟨g, hg⟩ : ∃ g, g = w.heap.size := ⟨_, rfl⟩
  obtain ⟨w1, hw1⟩ : ∃ w1, w1 = (w.alloc (.cells Y 148)).alloc (.cells Z 125) := ⟨_, rfl⟩
  have A0 := (Blk.new w 148 Y)
  have A1 := Blk.new (w.alloc (.cells Y 148)) 125 Z
  rw [← hw1, show (w.alloc (.cells Y 148)).heap.size = g + 1 by rw [hg]; simp] at A1
  have A0 : Blk w1 g 148 Y := by rw [hw1, hg]; exact A0.below (below_new _ _) A0.lt
  have AB : Below w.heap.size w w1 := by rw [hw1]; exact (below_new w (.cells Y 148)).alloc (by simp) _
  have hws : w1.heap.size = w.heap.size + 2 := by rw [hw1]; simp
  have HG := Lib.hid hg
  have c2 : w1.cell? ⟨g, 72, none⟩ = some (.int .u64 56) := (A0.cell 72).trans (by rw [hY]; exact stream_n hb)
  have c2' : ((w.alloc (.cells Y 148)).alloc (.cells Z 125)).cell? ⟨w.heap.size, 72, none⟩ = some (.int .u64 56) := by rw [← hw1, ← hg]; exact c2
  have HW1 := Lib.hid hw1
  have HWS := Lib.hid hws
  have M0 := Lib.hid A0
  have M1 := Lib.hid A1
  have MB := Lib.hid AB
  have HHZ := Lib.hid hz
  clear hk hZ hY hsz A0 A1 AB hws c2 hg hw1
  go_enter Tryz.func94, Tryz.ntmps94
  go_wp2_with fail
  rw [← HW1.out, ← HG.out]
  have HC2 := Lib.hid (show w1.cell? ⟨g, 72, none⟩ = some (.int .u64 56) by rw [HW1.out, HG.out]; exact c2')
  have hlt := M0.out.lt
  have hown0 : (w1.alloc (.cells #[.int .u8 128] 5)).ownsRow w1.heap.size 5 1 (.slice (some ⟨g + 1 + 1, 0, none⟩) (1 + 0) 1) (1 + 0) (byteCells (zerosB [] 0)) := by
    have := World.ownsRow_lit (base := w1.heap.size) (e := 5) (size := 1) w1 #[.int .u8 128] 1 (Nat.le_refl _) (by decide) rfl
    rw [show w1.heap.size = g + 1 + 1 by rw [HWS.out, HG.out]] at this ⊢
    exact this
  have hb0 : Below w1.heap.size w1 (w1.alloc (.cells #[.int .u8 128] 5)) := below_new w1 _
  clear c2'
  go_loopw [4] (fun x wr => ∃ j : Nat, j ≤ 63 ∧ wr.ownsRow w1.heap.size 5 1 x (1 + j) (byteCells (zerosB [] j)) ∧ Below w1.heap.size w1 wr) (fun x _ => 120 - (match x with | .slice _ n _ => n | _ => 0))
  case atStart => exact ⟨0, by omega, hown0, hb0⟩
  case round =>
    clear hown0 hb0
    obtain ⟨j, hj, hown, hb1⟩ := hrel
    obtain ⟨A, cc, rfl, hcc⟩ := own_slice hown
    have hn : 1 + j ≤ 100000 := by omega
    have c2 : wr.cell? ⟨g, 72, none⟩ = some (.int .u64 56) := (hb1.cell (p := ⟨g, 72, none⟩) hlt).trans HC2.out
    have e0 : IntKind.i64.wrap (56 + (1 + (j : Int))) = 57 + (j : Int) := by rw [IntWalk.i64_in _ (by omega)]; omega
    by_cases hlt2 : j < 63
    · have e1 : ¬ ((57 : Int) + (j : Int)) % 64 = 56 := by omega
      have e2 : ¬ ((56 : Int) + (1 + (j : Int))) % 64 = 56 := by omega
      go_wp2_with (at_builtin; refine wpList_app_byte rfl _ _ rfl hb1 (.slice A (1 + j) cc) (1 + j) (zerosB [] j) (by rfl) hown 0 (by rfl) hn ?_; intro v3 w3 hown3 hb3)
      go_roundw
      case rel => exact ⟨j + 1, by omega, by rw [zeros_step]; exact hown3, hb3⟩
      case measure =>
        obtain ⟨A3, c3, rfl, _⟩ := own_slice hown3
        show 120 - (1 + j + 1) < 120 - (1 + j)
        omega
    · obtain rfl : j = 63 := by omega
      have hown0 : wr.ownsRow w1.heap.size 5 1 (.slice A (64 + 0) cc) (64 + 0) (byteCells (zerosB [] 63 ++ lenB 0)) := by rw [show lenB 0 = [] from rfl, List.append_nil]; exact hown
      clear hown
      rw [show (1 : Nat) + 63 = 64 from rfl]
      go_wp2_with fail
      go_loopw [4, 23] (fun x y wr => ∃ i : Nat, i ≤ 8 ∧ y = .int .i64 i ∧ wr.ownsRow w1.heap.size 5 1 x (64 + i) (byteCells (zerosB [] 63 ++ lenB i)) ∧ Below w1.heap.size w1 wr) (fun _ y _ => 8 - (intOf y).toNat)
      case atStart => exact ⟨0, by omega, rfl, hown0, hb1⟩
      case round =>
        clear hown0 hb1 c2 e0
        obtain ⟨i, hi, rfl, hown, hb1⟩ := hrel
        obtain ⟨A, cc, rfl, hcc⟩ := own_slice hown
        have hn : 64 + i ≤ 100000 := by omega
        by_cases hlt3 : i < 8
        · have j0 : (0 : Int) ≤ (i : Int) := by omega
          have j1 : (i : Int) < 8 := by omega
          obtain ⟨y, hy⟩ : ∃ y, y = UInt8.ofNat (448 / 2 ^ (56 - 8 * i) % 256) := ⟨_, rfl⟩
          have hy2 : (448 : Int) / 2 ^ (56 - 8 * i) % 256 = (y.toNat : Int) := by rw [hy]; exact byte_shift 448 _
          have HY2 := Lib.hid (show lenB (i + 1) = lenB i ++ [y] by rw [hy]; exact len_step ⟨i, hlt3⟩)
          clear hy
          go_wp2_with (at_builtin; refine wpList_app_byte rfl _ _ rfl hb1 (.slice A (64 + i) cc) (64 + i) (zerosB [] 63 ++ lenB i) (by rfl) hown y (by rfl) hn ?_; intro v3 w3 hown3 hb3)
          go_roundw
          case rel => exact ⟨i + 1, by omega, by go_num, by rw [HY2.out, ← List.append_assoc]; exact hown3, hb3⟩
          case measure => simp [intOf]; omega
        · obtain rfl : i = 8 := by omega
          rw [show (64 : Nat) + 8 = 72 from rfl]
          have hcv := conv_rd (Rd.of_own hown) (by omega) cc
          have hsz : (⟨(zerosB [] 63 ++ lenB 8).toArray⟩ : ByteArray).size = 72 := by rfl
          obtain ⟨s, hs⟩ : ∃ s : ByteArray, s = ⟨(zerosB [] 63 ++ lenB 8).toArray⟩ := ⟨_, rfl⟩
          rw [← hs] at hcv hsz
          have hY2 : wr.heap[g]? = some (.cells (streamRow R blk 56) 148 (0, 0)) := by rw [← HY.out]; exact M0.out.below hb1 M0.out.lt
          have hYi : (Tryz.prog.info? 148).map (·.size) = some (streamRow R blk 56).size := by rw [streamRow_size hb]; obtain ⟨_, h⟩ := zero_of_info infoSt; exact h
          obtain ⟨X, hX⟩ : ∃ X, X = streamRow R blk 56 := ⟨_, rfl⟩
          rw [← hX] at hY2 hYi
          have HX := Lib.hid hX
          have HM := Lib.hid hY2
          have HXi := Lib.hid hYi
          have HS := Lib.hid hs
          have HSS := Lib.hid hsz
          have HB1 := Lib.hid hb1
          have HCV := Lib.hid hcv
          rw [show ((8 : Nat) : Int) = 8 by omega]
          clear hX hY2 hYi hs hsz hown
          go_wp2_with (first
            | (refine wpList_load_row rfl 148 _ rfl g rfl 148 X (0, 0) _ HM.out Tryz.underlying148 rfl HXi.out ?_))
          rw [HX.out]
          refine (add_any R blk 56 hb (by omega) s (by rw [HSS.out]; omega) wr (HK.out.below (MB.out.trans (HB1.out.mono MB.out.size)))).mono ?_
          rintro e w5 ⟨rfl, hb5⟩
          obtain ⟨F, hF⟩ : ∃ F, F = addS s.size R blk 56 s.data.toList := ⟨_, rfl⟩
          have hF2 : F = addS 72 R blk 56 padB := by rw [hF, HSS.out, HS.out]; rfl
          have hFl : F.2.1.length = 64 := by rw [hF]; exact addS_len _ _ _ _ _ hb
          rw [← hF]
          obtain ⟨V, hV⟩ : ∃ V, V = streamRow F.1 F.2.1 F.2.2 := ⟨_, rfl⟩
          rw [← hV]
          have HI := Lib.hid (show (Tryz.prog.info? 148).map (·.size) = some V.size by rw [hV, streamRow_size hFl]; obtain ⟨_, h⟩ := zero_of_info infoSt; exact h)
          have HZs := Lib.hid (show (streamRow R blk 56).size = V.size by rw [hV, streamRow_size hFl, streamRow_size hb])
          have HO := Lib.hid (show V.all (·.oneCell') = true by rw [hV]; exact streamRow_one _ _ _)
          have G0 : Blk wr g 148 (streamRow R blk 56) := by rw [← HY.out]; exact M0.out.below HB1.out M0.out.lt
          have G1 : Blk wr (g + 1) 125 Z := M1.out.below HB1.out M1.out.lt
          have G0 : Blk w5 g 148 (streamRow R blk 56) := G0.below hb5 G0.lt
          have G1 : Blk w5 (g + 1) 125 Z := G1.below hb5 G1.lt
          have HM0 := Lib.hid (show w5.heap[g]? = some (.cells (streamRow R blk 56) 148 (0, 0)) from G0)
          obtain ⟨w6, hw6⟩ : ∃ w6, w6 = w5.setRow g V := ⟨_, rfl⟩
          have K0 : Blk w6 g 148 V := by rw [hw6]; exact G0.put V
          have K1 : Blk w6 (g + 1) 125 Z := by rw [hw6]; exact G1.other_row (fun e => by omega) V
          have KB : Below w.heap.size w w6 := by rw [hw6]; exact below_row (below_go (below_go MB.out HB1.out) hb5) (by have := HG.out; omega) V
          obtain ⟨q, hq⟩ : ∃ q, q = w6.heap.size := ⟨_, rfl⟩
          have Bq := Blk.new w6 125 Z
          rw [← hq] at Bq
          have HQ := Lib.hid hq
          have HGQ := Lib.hid (show g + 1 < q by rw [hq]; exact K1.lt)
          have HV := Lib.hid hV
          have N0 := Lib.hid (show Blk (w6.alloc (.cells Z 125)) (g + 1) 125 Z from K1.below (below_new w6 _) K1.lt)
          have N1 := Lib.hid (show Blk (w6.alloc (.cells Z 125)) g 148 (streamRow F.1 F.2.1 F.2.2) by rw [← HV.out]; exact K0.below (below_new w6 _) K0.lt)
          have Nq := Lib.hid (show Blk (w6.alloc (.cells Z 125)) q 125 (rowB 32 (F.1.bytes.take 0)) by rw [List.take_zero, ← HZ.out]; exact Bq)
          have NB := Lib.hid (show Below w.heap.size w (w6.alloc (.cells Z 125)) from KB.alloc (by rw [← hq]; have := HG.out; have := HGQ.out; omega) _)
          have HF2 := Lib.hid hF2
          have hz := HHZ.out
          have HW6 := Lib.hid hw6
          clear hw6 hF hF2 hFl hV G0 G1 K0 K1 KB Bq hq hb5 HX HM HXi hb1 hcv HCV
          go_wp2_with (first
            | (refine wpList_store_row rfl 148 _ _ rfl g V rfl rfl 148 (streamRow R blk 56) HM0.out HI.out HZs.out HO.out ?_; rw [← HW6.out]))
          rw [← HQ.out]
          clear hz
          go_loopw [40] (fun x wq => ∃ j : Nat, j ≤ 32 ∧ x = .int .i64 j ∧ Hid (Blk wq (g + 1) 125 Z) ∧ Hid (Blk wq g 148 (streamRow F.1 F.2.1 F.2.2)) ∧ Hid (Blk wq q 125 (rowB 32 (F.1.bytes.take j))) ∧ Hid (Below w.heap.size w wq)) (fun x _ => 32 - (intOf x).toNat)
          case atStart => exact ⟨0, by omega, rfl, N0, N1, Nq, NB⟩
          case round =>
            clear N0 N1 Nq NB
            obtain ⟨j, hj, rfl, N0, N1, Nq, NB⟩ := hrel
            by_cases hlt : j < 32
            · have j0 : (0 : Int) ≤ (j : Int) := by omega
              have j1 : (j : Int) < 32 := by omega
              have j2 : (0 : Int) ≤ (j : Int) / 4 := by omega
              have j3 : (j : Int) / 4 < 8 := by omega
              obtain ⟨v, hv⟩ : ∃ v, v = F.1.words.getD (j / 4) 0 := ⟨_, rfl⟩
              obtain ⟨y, hy⟩ : ∃ y, y = byteW v (24 - 8 * (j % 4)) := ⟨_, rfl⟩
              have hy2 : (v.toNat : Int) / 2 ^ (24 - 8 * (j % 4)) % 256 = (y.toNat : Int) := by rw [hy]; exact byte_shift v.toNat _
              have HY2 := Lib.hid (show F.1.bytes.take (j + 1) = F.1.bytes.take j ++ [y] by rw [hy, hv]; exact bytes_step F.1 hlt)
              have x0 : wr.cell? ⟨g, j / 4, none⟩ = some (wordV v) := (N1.out.cell _).trans (by rw [hv]; exact stream_word F.1 F.2.1 F.2.2 (by omega))
              have x1 : wr.cell? ⟨q, j, none⟩ = some (.int .u8 0) := (Nq.out.cell _).trans (rowB_zero (by rw [List.length_take]; omega) hlt)
              have f1 := Nq.out.frozen j
              clear hv hy
              go_wp2_with fail
              have P0 := Lib.hid (N0.out.other (p := ⟨q, j, none⟩) (by have := HGQ.out; show q ≠ g + 1; omega) (.int .u8 (y.toNat : Int)))
              have P1 := Lib.hid (N1.out.other (p := ⟨q, j, none⟩) (by have := HGQ.out; show q ≠ g; omega) (.int .u8 (y.toNat : Int)))
              have Pq := Lib.hid (show Blk (wr.setCell ⟨q, j, none⟩ (.int .u8 (y.toNat : Int))) q 125 (rowB 32 (F.1.bytes.take (j + 1))) by
                have := Nq.out.set_ j (.int .u8 (y.toNat : Int))
                have hl : (F.1.bytes.take j).length = j := by rw [List.length_take, bytes_len]; omega
                have h2 := rowB_push (n := 32) (l := F.1.bytes.take j) (x := y) (by omega)
                rw [hl] at h2
                rw [HY2.out, ← h2]
                exact this)
              have PB := Lib.hid (NB.out.setCell (p := ⟨q, j, none⟩) (by have := HGQ.out; have := HG.out; show w.heap.size ≤ q; omega) (.int .u8 (y.toNat : Int)))
              go_roundw
              case rel => exact ⟨j + 1, by omega, by go_num, P0, P1, Pq, PB⟩
              case measure => simp [intOf]; omega
            · obtain rfl : j = 32 := by omega
              obtain ⟨R2, hR⟩ : ∃ R2, R2 = rowB 32 (addS 72 R blk 56 padB).1.bytes := ⟨_, rfl⟩
              have hM := Nq.out
              rw [List.take_of_length_le (by rw [bytes_len]; exact Nat.le_refl _), HF2.out, ← hR] at hM
              have hRs : R2.size = 32 := by rw [hR]; exact rowB_size (by rw [bytes_len]; exact Nat.le_refl _)
              have HI2 := Lib.hid (show (Tryz.prog.info? 125).map (·.size) = some R2.size by rw [hRs]; exact HSZ.out)
              have HZs2 := Lib.hid (show Z.size = R2.size by rw [hRs, HZ.out]; rfl)
              have HO2 := Lib.hid (show R2.all (·.oneCell') = true by rw [hR]; exact rowB_one _ _)
              have HM1 := Lib.hid (show wr.heap[q]? = some (.cells R2 125 (0, 0)) from hM)
              have HM2 := Lib.hid (show wr.heap[g + 1]? = some (.cells Z 125 (0, 0)) from N0.out)
              have HB := Lib.hid (below_row NB.out (g := g + 1) (by have := HG.out; omega) R2)
              rw [← hR]
              have HR := Lib.hid hR
              clear hM hRs hR
              go_wp2_with (first
                | (refine wpList_load_row rfl 125 _ rfl q rfl 125 R2 (0, 0) _ HM1.out Tryz.underlying125 rfl HI2.out ?_)
                | (refine wpList_store_row rfl 125 _ _ rfl (g + 1) R2 rfl rfl 125 Z HM2.out HI2.out HZs2.out HO2.out ?_))
              refine bodyPost_ret (v := .agg R2) ?_ rfl ⟨by rw [HR.out], HB.out⟩
              exact results_cell_row rfl _ _ (g + 1) _ _ _ _ rfl (N0.out.put R2) Tryz.underlying125 rfl HI2.out

set_option maxHeartbeats 2000000 in
set_option maxRecDepth 100000 in
theorem hash_any (A : Option Addr) (c : Nat) (b : Bs) (w : World) (h : Rd w w.heap.size 1 A 56 (byteCells b)) (hk : Consts w) :
    Calls Tryz.prog 75 #[.slice A 56 c] w (RetB (.agg (rowB 32 (sha56 b))) w) := by
  obtain ⟨hz, hsz⟩ := zero_of_info info32b
  have hbl : b.length = 56 := by have := h.1; rw [byteCells_len] at this; omega
  obtain ⟨Z, hZ⟩ : ∃ Z, Z = rowB 32 [] := ⟨_, rfl⟩
  rw [← hZ] at hz
  obtain ⟨s, hs⟩ : ∃ s : ByteArray, s = ⟨b.toArray⟩ := ⟨_, rfl⟩
  have hss : s.size = 56 := by rw [hs, mk_size, hbl]
  have hsd : s.data.toList = b := by rw [hs]
  obtain ⟨e1, e2⟩ := sum_add hbl
  have HE1 := Lib.hid e1
  have HE2 := Lib.hid e2
  have H := Lib.hid h
  have HK := Lib.hid hk
  have HS := Lib.hid (And.intro hss hsd)
  obtain ⟨V, hV⟩ : ∃ V, V = rowB 32 (sha56 b) := ⟨_, rfl⟩
  have hVs : V.size = 32 := by rw [hV]; exact rowB_size (by rw [sha_len]; exact Nat.le_refl _)
  have HI := Lib.hid (show (Tryz.prog.info? 125).map (·.size) = some V.size by rw [hVs]; exact hsz)
  have HZs := Lib.hid (show Z.size = V.size by rw [hVs, hZ]; rfl)
  have HO := Lib.hid (show V.all (·.oneCell') = true by rw [hV]; exact rowB_one _ _)
  have B0 := Lib.hid (Blk.new w 125 Z)
  have BB := Lib.hid (below_new w (.cells Z 125))
  have HV := Lib.hid hV
  have hcv : ∀ w', Below w.heap.size w w' → (convert 84 9 (.slice A 56 c)).run Tryz.prog w' = .ok (.string s) w' := fun w' hb => by rw [hs]; exact conv_rd (h.go hb) (by omega) c
  have HCV := Lib.hid hcv
  clear h hk hbl hZ hs hss hsd e1 e2 hsz hcv hV
  have hb64 : (b ++ List.replicate 8 (0 : UInt8)).length = 64 := by rw [List.length_append, ← HS.out.2, list_size, HS.out.1]; rfl
  have HB64 := Lib.hid hb64
  have hcv1 := HCV.out _ (BB.out.drew)
  have HV2 := Lib.hid (show (rowB 32 (addS 72 iv (b ++ List.replicate 8 0) 56 padB).1.bytes) = V by rw [HV.out]; exact congrArg (rowB 32) HE2.out)
  clear hb64
  go_enter Tryz.func75, Tryz.ntmps75
  go_wp2_with fail
  go_region_with (first
    | (go_at_call 92; refine (begin_any _).mono ?_; rintro e w5 ⟨rfl, hb5⟩; have BB5 := Lib.hid (below_go BB.out.drew hb5); have hcv5 := HCV.out w5 BB5.out; have C5 := Lib.hid ((B0.out.drewN 1).below hb5 (B0.out.drewN 1).lt); clear hb5)
    | (go_at_call 93; refine (add_any iv (List.replicate 64 0) 0 rfl (by omega) s (by rw [HS.out.1]; omega) _ (HK.out.below BB5.out)).mono ?_; rintro e w6 ⟨rfl, hb6⟩; rw [HS.out.1, HS.out.2, HE1.out]; have BB6 := Lib.hid (below_go BB5.out hb6); have C6 := Lib.hid (C5.out.below hb6 C5.out.lt); clear hb6)
    | (go_at_call 94; refine (streamSum_any iv (b ++ List.replicate 8 0) HB64.out _ (HK.out.below BB6.out)).mono ?_; rintro e w7 ⟨rfl, hb7⟩; rw [HV2.out]; have BB7 := Lib.hid (below_go BB6.out hb7); have C7 := Lib.hid (C6.out.below hb7 C6.out.lt); have hst := store_row_run C7.out HZs.out HO.out; clear hb7))
  all_goals
    have HBF := Lib.hid (below_row BB7.out (g := w.heap.size) (Nat.le_refl _) V)
    clear hst
    go_wp2_with fail
    rw [← HV.out]
    refine bodyPost_ret (v := .agg V) ?_ rfl ⟨rfl, HBF.out⟩
    exact results_cell_row rfl _ _ w.heap.size _ _ _ _ rfl (C7.out.put V) Tryz.underlying125 rfl HI.out
end Go.Proofs.YtddpjahoeldleaaGreatDoor
