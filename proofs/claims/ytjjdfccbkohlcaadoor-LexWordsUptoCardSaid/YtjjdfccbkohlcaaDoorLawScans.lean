/- The walk of LexScans. -/
import Derived.Test.YtjjdfccbkohlcaaDoorLives
import Derived.Test.YtjjdfccbkohlcaaDoorSample
import Derived.Test.YtjjdfccbkohlcaaDoorBytes
import Derived.StillTailTactics
namespace Go.Proofs.YtjjdfccbkohlcaaDoor
open Go.RowKit

/-- what a Scan gives, opened -/
theorem ScanPost.open_ {ty : TypeId} {s : ByteArray} {w : World} {x : Ending} {w' : World} (h : ScanPost ty s w x w') {ts : List Lx.Tok} {e : Lx.Bs} {n : Int} (hT : Lx.scanT s.data.toList = (ts, e, n)) :
    ∃ A c, x = .returned (.tuple #[.slice A ts.length c, str e, .int .i64 n]) ∧ Rd w' w'.heap.size 2 A ts.length (tokCells ts) ∧ ts.length ≤ c ∧ Below w.heap.size w w' := by
  obtain ⟨v, hx, hown, hb⟩ := h
  rw [hT] at hx hown
  obtain ⟨A, c, rfl, hc⟩ := own_slice hown
  exact ⟨A, c, hx, Rd.of_own hown, hc, hb⟩
theorem scan_count : ∀ (f : Nat) (l : Lx.Bs) (ts : List Lx.Tok) (e : Lx.Bs), Lx.scanF f l = .ok (ts, e) → ts.length ≤ l.length
  | 0, l, ts, e, h => by simp [Lx.scanF] at h
  | f + 1, l, ts, e, h => by
    rw [Lx.scanF] at h
    split at h
    · simp only [Except.ok.injEq, Prod.mk.injEq] at h
      rw [← h.1]; simp
    · split at h
      · cases h
      · rename_i h0
        generalize hr : Lx.scanF f (l.drop (Lx.skipN false l + Lx.tokN (l.drop (Lx.skipN false l)))) = r at h
        cases r with
        | error m => simp [Lx.after] at h
        | ok p =>
          obtain ⟨ts', e'⟩ := p
          simp only [Lx.after, Except.ok.injEq, Prod.mk.injEq] at h
          have ih := scan_count f _ ts' e' hr
          rw [List.length_drop] at ih
          rw [← h.1, List.length_append]
          have hl := Lx.tokN_le (l.drop (Lx.skipN false l))
          rw [List.length_drop] at hl
          simp
          omega
theorem scanT_count {l : Lx.Bs} {ts : List Lx.Tok} {e : Lx.Bs} {n : Int} (h : Lx.scanT l = (ts, e, n)) : ts.length ≤ 8192 := by
  unfold Lx.scanT at h
  split at h
  · simp only [Prod.mk.injEq] at h; rw [← h.1]; simp
  · rename_i hl
    generalize hr : Lx.scan l = r at h
    cases r with
    | error m => simp only [Prod.mk.injEq] at h; rw [← h.1]; simp
    | ok p =>
      obtain ⟨ts', e'⟩ := p
      simp only [Prod.mk.injEq] at h
      have := scan_count _ _ _ _ hr
      rw [← h.1]; omega

set_option maxHeartbeats 1000000 in
set_option maxRecDepth 100000 in
theorem lexScans_walk (A : Option Addr) (n c : Nat) (zs : List Int) (raw : ByteArray) (at_ cc : Int) (w : World) (h1 : Rd w w.heap.size 1 A n (intCells zs)) (hf : Fits zs)
    (hr : raw.size ≤ 140737488355328) (a1 : -9223372036854775808 ≤ at_) (a2 : at_ ≤ 9223372036854775807) (c1 : 0 ≤ cc) (c2 : cc ≤ 255) (ht : Tabs w) (hk : Kw w) :
    Calls Tryd.prog 3 #[.slice A n c, .string raw, .int .i64 at_, .int .u8 cc] w (RetB (.bool true) w) := by
  go_enter Tryd.func3, Tryd.ntmps3
  go_wp2_with fail
  refine (sample_any _ _ _ _ _ h1 hf).mono ?_
  rintro e w1 ⟨s, rfl, hs, b1⟩
  have x1 : ¬ 9223372036854775807 < s.size + 1 := by omega
  have x2 : ¬ 9223372036854775807 < s.size + raw.size := by omega
  have hS : (s ++ ⟨#[32]⟩ : ByteArray).size = s.size + 1 := by rw [ByteArray.size_append]; rfl
  obtain ⟨w2, C, hconv, hC, b2, hlt2, hcell, hfrz⟩ := to_bytes (s ++ ⟨#[32]⟩) w1
  obtain ⟨r, hr, hr1⟩ := around_nat at_ (s.size + 1) (by omega)
  obtain ⟨r2, hr2, hr3⟩ := around_nat at_ (s.size + 1) (by omega)
  rw [hS] at hconv hC
  obtain ⟨t, htz, hback⟩ := back _ w2 w1.heap.size r cc C (by rw [hS]; exact hr1) c1 c2 hcell _ hS.symm
  have hcr := hcell r (by rw [hS]; exact hr1)
  have hfr := hfrz r (by rw [hS]; exact hr1)
  have hr' : (r : Int) = aroundI at_ ((s.size : Int) + 1) := by rw [hr]; congr 1
  have R := Lib.hid hr'
  clear hr hr' hr2 hr3
  have b3 : Below w.heap.size w (w2.setCell ⟨w1.heap.size, r, none⟩ (.int .u8 cc)) := (below_go b1 b2).setCell b1.size _
  clear b2 hcell hfrz
  go_wp2_with fail
  refine (around_any _ _ _ a1 a2 (by omega) (by omega) r R).mono ?_
  rintro e w' ⟨rfl, rfl⟩
  go_wp2_with fail
  have hlt3 : w1.heap.size < (w2.setCell ⟨w1.heap.size, r, none⟩ (.int .u8 cc)).heap.size := by rw [World.size_setCell]; exact hlt2
  generalize hW3 : w2.setCell ⟨w1.heap.size, r, none⟩ (.int .u8 cc) = w3 at *
  have HB := Lib.hid hback
  have hb3 := hback w3 (fun _ _ => rfl)
  clear hback hconv hcr hfr hW3 hlt2
  have v1 : IntKind.i64.wrap ((s.size : Int) + 1) = (s.size : Int) + 1 := IntWalk.i64_in _ (by omega)
  have v2 : (0 : Int) ≤ (r : Int) := by omega
  have v3 : (r : Int) ≤ (s.size : Int) := by omega
  go_region_held3 (fun W => (convert 24 9 (.slice (some ⟨w1.heap.size, 0, none⟩) (s.size + 1) C)).run Tryd.prog W = .ok (.string t) W)
    (first | exact HB.out _ (fun _ _ => rfl) | exact HB.out _ (fun j _ => World.cell?_alloc_lt w3 _ ⟨w1.heap.size, j, none⟩ hlt3))
    (first | (go_at_call 10; refine (around_any _ _ _ a1 a2 (by omega) (by omega) r R).mono ?_; rintro e w' ⟨rfl, rfl⟩))
  go_wp2_with fail
  have q0 := Rd.lit w3 9 [.string s, .string t, .string raw, .string (s ++ raw), .string (s.extract 0 r), .string ⟨#[]⟩]
  have b4 : Below w.heap.size w (w3.alloc (.cells #[.string s, .string t, .string raw, .string (s ++ raw), .string (s.extract 0 r), .string ⟨#[]⟩] 9)).drew := (below_go b3 (below_new w3 _)).drew
  have hL : ∀ p ∈ [s, t, raw, s ++ raw, s.extract 0 r, ⟨#[]⟩], p.size ≤ 9223372036854775000 := by
    intro p hp
    simp only [List.mem_cons, List.not_mem_nil, or_false] at hp
    rcases hp with rfl | rfl | rfl | rfl | rfl | rfl
    · omega
    · omega
    · omega
    · rw [ByteArray.size_append]; omega
    · rw [ByteArray.size_extract]; omega
    · decide
  have q1 : Rd (w3.alloc (.cells #[.string s, .string t, .string raw, .string (s ++ raw), .string (s.extract 0 r), .string ⟨#[]⟩] 9)).drew (w3.heap.size + 1) 1 (some ⟨w3.heap.size, 0, none⟩) 6 ([s, t, raw, s ++ raw, s.extract 0 r, ⟨#[]⟩].map Value.string) := by
    have := q0
    rw [World.size_alloc] at this
    exact this
  have Q1 := Lib.hid q1
  have HL := Lib.hid hL
  have hg : w.heap.size ≤ w3.heap.size := b3.size
  have hs4 : w3.heap.size + 1 ≤ (w3.alloc (.cells #[.string s, .string t, .string raw, .string (s ++ raw), .string (s.extract 0 r), .string ⟨#[]⟩] 9)).drew.heap.size := by simp
  clear q0 q1 hL hb3 HB
  generalize (w3.alloc (.cells #[.string s, .string t, .string raw, .string (s ++ raw), .string (s.extract 0 r), .string ⟨#[]⟩] 9)).drew = w4 at *
  obtain ⟨L, hLd⟩ : ∃ L : List ByteArray, L = [s, t, raw, s ++ raw, s.extract 0 r, ⟨#[]⟩] := ⟨_, rfl⟩
  rw [← hLd] at Q1 HL
  have hLl : L.length = 6 := by rw [hLd]; rfl
  have HLl := Lib.hid hLl
  clear hLd hLl x1 x2 hS hC htz
  have hg4 := b4.size
  go_loopw [12] (fun x wr => ∃ k : Nat, k ≤ 6 ∧ x = .int .i64 k ∧ Rd wr (w3.heap.size + 1) 1 (some ⟨w3.heap.size, 0, none⟩) 6 (L.map Value.string) ∧ Below w.heap.size w wr ∧ w3.heap.size + 1 ≤ wr.heap.size) (fun x _ => 6 - (intOf x).toNat)
  case atStart => exact ⟨0, by omega, rfl, Q1.out, b4, hs4⟩
  case round =>
    obtain ⟨k, hk6, rfl, hrd, hb, hsz⟩ := hrel
    by_cases hlt : k < 6
    · have hkl : k < L.length := by rw [HLl.out]; exact hlt
      obtain ⟨g, o, u, e, _, hu, x1⟩ := hrd.at1 hlt
      injection e with e
      injection e with e1 e2
      subst e1 e2
      rw [List.getElem?_map, List.getElem?_eq_getElem hkl] at hu
      obtain rfl := Option.some.inj hu
      have hp := HL.out _ (List.getElem_mem hkl)
      generalize L[k] = p at *
      rw [Nat.zero_add] at x1
      obtain ⟨ts, E, N, hT⟩ : ∃ ts E N, Lx.scanT p.data.toList = (ts, E, N) := ⟨_, _, _, rfl⟩
      have HT := Lib.hid hT
      have hcnt := scanT_count hT
      clear hT
      go_wp2_with fail
      refine (scan_any p _ hp (tabs_go ht hb)).mono ?_
      rintro e w5 h5
      obtain ⟨A5, c5, rfl, r5, -, b5⟩ := h5.open_ HT.out
      clear h5
      have x2 := (b5.cell (p := ⟨w3.heap.size, k, none⟩) (by show w3.heap.size < _; omega)).trans x1
      have hrd2 := hrd.below (b5.mono hsz)
      have hsz2 : w3.heap.size + 1 ≤ w5.heap.size := Nat.le_trans hsz b5.size
      have hb := below_go hb b5
      clear x1 b5 hrd hsz
      go_wp2_with fail
      refine (rscan_any p _ hp).mono ?_
      rintro e w6 h6
      obtain ⟨A6, c6, rfl, r6, -, b6⟩ := h6.open_ HT.out
      clear h6
      have hrd3 := hrd2.below (b6.mono hsz2)
      have hsz3 : w3.heap.size + 1 ≤ w6.heap.size := Nat.le_trans hsz2 b6.size
      have hb := below_go hb b6
      have r5 := r5.go b6
      clear b6 hrd2 hsz2 x2
      go_wp2_with fail
      refine (plain_any A5 ts.length c5 ts _ r5 rfl (by omega)).mono ?_
      rintro e w7 h7
      obtain ⟨A7, c7, rfl, r7, -, b7⟩ := h7.open_
      clear h7
      have hrd4 := hrd3.below (b7.mono hsz3)
      have hsz4 : w3.heap.size + 1 ≤ w7.heap.size := Nat.le_trans hsz3 b7.size
      have hb := below_go hb b7
      have r6 := r6.go b7
      clear b7 hrd3 hsz3 r5
      go_wp2_with fail
      refine (same_any A7 A6 _ _ c7 c6 ts ts _ r7 r6 rfl rfl (by omega) true (Lib.hid (by simp))).mono ?_
      rintro e w8 ⟨rfl, b8⟩
      have hrd5 := hrd4.below (b8.mono hsz4)
      have hsz5 : w3.heap.size + 1 ≤ w8.heap.size := Nat.le_trans hsz4 b8.size
      have hb := below_go hb b8
      clear b8 hrd4 hsz4 r6 r7
      go_wp2_with fail
      go_roundw
      case rel => exact ⟨k + 1, by omega, by go_num, hrd5, hb, hsz5⟩
      case measure => simp [intOf]; omega
    · go_wp2_with fail
      refine (lives_any _ (tabs_go ht hb) (kw_go hk hb)).mono ?_
      rintro e w5 ⟨rfl, b5⟩
      go_wp2_with fail
      go_ret
      exact ⟨rfl, below_go hb b5⟩
end Go.Proofs.YtjjdfccbkohlcaaDoor
