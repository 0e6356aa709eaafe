/- The walk of LexWords, where what it reads is small. -/
import Derived.Test.YtjjdfccbkohlcaaDoorRefs2
import Derived.Test.YtjjdfccbkohlcaaDoorLawLayouts
namespace Go.Proofs.YtjjdfccbkohlcaaDoor
open Go.RowKit

theorem keywords_exact (w : World) : Calls Tryd.prog 22 #[] w (fun e w' => e = .returned (.slice (some ⟨w.heap.size, 0, none⟩) 27 27) ∧ w' = w.alloc (.cells (strCells keywordsL).toArray 9)) := by
  go_enter Tryd.func22, Tryd.ntmps22
  go_wp2_with fail
  go_ret
  exact ⟨rfl, rfl⟩
theorem cells_many (w : World) (e : TypeId) (cs : List Value) : ∀ (j : Nat) (u : Value), cs[j]? = some u → (w.alloc (.cells cs.toArray e)).cell? ((⟨w.heap.size, 0, none⟩ : Addr).add j) = some u := by
  intro j u hj
  rw [show (⟨w.heap.size, 0, none⟩ : Addr).add j = ⟨w.heap.size, 0 + j, none⟩ from by unfold Addr.add; split <;> simp_all, Nat.zero_add, World.cell?_alloc_at _ _ _ _ rfl]
  simpa using hj
theorem strCells_append (a b : List Lx.Bs) : strCells (a ++ b) = strCells a ++ strCells b := by simp [strCells]
theorem strCells_length (a : List Lx.Bs) : (strCells a).length = a.length := by simp [strCells]

theorem str_self (s : ByteArray) : (.string s : Value) = str s.data.toList := rfl

def wordTok (lst : List Lx.Bs) (i : Nat) : Lx.Tok := ⟨lst.getD i [], gapB (aroundI (((lst.getD i []).length : Int) + (i : Int)) 1000000).toNat 0⟩
theorem flat_bound (f : Nat → Lx.Tok) (M : Nat) : ∀ n, (∀ j, j < n → (f j).text.length ≤ M ∧ (f j).before.length ≤ 16) → (flat (layTo f n)).length ≤ n * (M + 16)
  | 0, _ => by simp [layTo, flat]
  | n + 1, h => by
    have ih := flat_bound f M n (fun j hj => h j (by omega))
    have := h n (by omega)
    rw [layTo_succ, flat_snoc, List.length_append, List.length_append, Nat.add_mul]
    omega
theorem blank_gap (k : Nat) (sm : Int) : blankB (gapB k sm) = true := by
  have h1 := gapB_len k sm
  simp only [blankB, decide_eq_true_eq]
  exact ⟨by omega, (closes_gap k sm).full⟩

set_option maxHeartbeats 16000000 in
set_option maxRecDepth 100000 in
theorem lexWords_walk (A A' : Option Addr) (n c n' c' : Nat) (zs : List Int) (ss : List Lx.Bs) (s : ByteArray) (w : World) (h1 : Rd w w.heap.size 1 A n (intCells zs)) (hf : Fits zs)
    (h1' : Rd w w.heap.size 1 A' n' (strCells ss)) (hn' : n' ≤ 9223372036854775807) (hss : ∀ x ∈ ss, x.length ≤ 1048576) (hs : s.size ≤ 1048576) (ht : Tabs w) (hkw : Kw w) :
    Calls Tryd.prog 7 #[.slice A n c, .slice A' n' c', .string s] w (RetB (.bool true) w) := by
  obtain ⟨i0, hi, hz0, hz1, hz2⟩ := info_parts info9
  obtain ⟨i1, hi', hz0', hz1', hz2'⟩ := info_parts info38
  have hl : ss.length = n' := by have := h1'.1; simpa [strCells] using this
  have Hl := Lib.hid hl
  have HSS := Lib.hid hss
  clear hl hss
  go_enter Tryd.func7, Tryd.ntmps7
  go_wp2_with fail
  refine (pieces_any _ _ _ _ _ h1 hf).mono ?_
  rintro e w1 he1
  obtain ⟨v1, rfl, hown, b1⟩ := he1
  have hp30 := pieces_le zs
  have hpt : ∀ x ∈ pieces zs, x.length ≤ 1048576 := by
    intro x hx
    obtain ⟨j, hj, rfl⟩ := List.getElem_of_mem hx
    have := (pieces_tok zs j hj).2.2.2
    rw [List.getD_eq_getElem?_getD, List.getElem?_eq_getElem hj, Option.getD_some] at this
    omega
  have HPT := Lib.hid hpt
  clear hpt
  generalize pieces zs = ps at *
  obtain ⟨np, hnp⟩ : ∃ np, np = ps.length := ⟨_, rfl⟩
  rw [← hnp] at hown hp30
  have Hnp := Lib.hid hnp
  clear hnp
  have hsz1 := b1.size
  have K2 : ∀ u ∈ [(Value.string s)], u.oneCell' = true := by intro u hu; simp at hu; subst hu; rfl
  have K22 := Lib.hid K2
  have K3 : np + 1 ≤ maxLen := by unfold maxLen; omega
  have K4 : (np + 1) * 16 ≤ 140737488355328 := by omega
  clear K2
  go_wp2_with (at_builtin; refine wpList_append_own _ rfl _ _ 26 rfl w.heap.size 9 i0 _ 1 16 Tryd.underlying26 hi hz0 hz1 hz2 rfl (by decide) _ _ _ rfl (hown.alloc _) ⟨w1.heap.size, 0, none⟩ 1 1 [.string s] rfl rfl (cells_one _ _ _) K22.out K3 K4 (by simp; omega) ?_)
  intro v2 w2 hown2 hgrow _
  have b2 : Below w.heap.size w w2 := (b1.alloc hsz1 _).grown hgrow (by simp; omega) (fun g hg => (hown.lt g hg).1)
  clear hgrow hown b1 hsz1 K3 K4 K22
  rw [str_self s, ← strCells_snoc] at hown2
  go_wp2_with fail
  go_loopw [7, 8] (fun v x wr => ∃ k : Nat, k ≤ n' ∧ k ≤ 20 ∧ x = .int .i64 k ∧ wr.ownsRow w.heap.size 9 1 v (np + 1 + k) (strCells (ps ++ s.data.toList :: ss.take k)) ∧ Below w.heap.size w wr) (fun _ x _ => 21 - (intOf x).toNat)
  case atStart => exact ⟨0, by omega, by omega, rfl, by simpa using hown2, b2⟩
  case round =>
    obtain ⟨k, hk, hk2, rfl, hown, hb⟩ := hrel
    have hsz := hb.size
    clear hown2 b2
    by_cases hlt : k < n' ∧ k < 20
    · obtain ⟨hl1, hl2⟩ := hlt
      obtain ⟨b, o, rfl, hbb, x1⟩ := (h1'.below hb).str Hl.out hl1
      have Hts := Lib.hid (take_snoc (xs := ss) (k := k) (by have := Hl.out; omega))
      obtain ⟨p, hp⟩ : ∃ p : ByteArray, p = ⟨(ss[k]'(by have := Hl.out; omega)).toArray⟩ := ⟨_, rfl⟩
      rw [← hp] at x1
      have ep : (.string p : Value) = str (ss[k]'(by have := Hl.out; omega)) := by rw [hp]
      have EP := Lib.hid ep
      have K2 : ∀ u ∈ [(Value.string p)], u.oneCell' = true := by intro u hu; simp at hu; subst hu; rfl
      have K22 := Lib.hid K2
      have K3 : np + 1 + k + 1 ≤ maxLen := by unfold maxLen; omega
      have K4 : (np + 1 + k + 1) * 16 ≤ 140737488355328 := by omega
      clear K2 ep hp
      go_wp2_with (at_builtin; refine wpList_append_own _ rfl _ _ 26 rfl w.heap.size 9 i0 _ 1 16 Tryd.underlying26 hi hz0 hz1 hz2 rfl (by decide) _ _ _ rfl (hown.alloc _) ⟨wr.heap.size, 0, none⟩ 1 1 [.string p] rfl rfl (cells_one _ _ _) K22.out K3 K4 (by simp; omega) ?_)
      intro v' w3 hown1 hgrow _
      have hb3 : Below w.heap.size w w3 := (hb.alloc hsz _).grown hgrow (by simp; omega) (fun g hg => (hown.lt g hg).1)
      clear hgrow hown
      go_wp2_with fail
      go_roundw
      case rel =>
        refine ⟨k + 1, by omega, by omega, by go_num, ?_, hb3⟩
        rw [Hts.out, ← List.cons_append, ← List.append_assoc, strCells_snoc, ← EP.out]
        exact hown1
      case measure => simp [intOf]; omega
    · have hkk : (ss.take k) = ss.take 20 ∧ k + np ≤ 50 := by
        refine ⟨?_, by omega⟩
        by_cases h20 : k = 20
        · rw [h20]
        · rw [List.take_of_length_le (by have := Hl.out; omega), List.take_of_length_le (by have := Hl.out; omega)]
      obtain ⟨hkt, hk50⟩ := hkk
      rw [hkt] at hown
      have hcc : (k = 20 ∧ 20 < n') ∨ ¬ k < n' := by omega
      clear hkt hk hk2 hlt
      obtain ⟨fs, hfs⟩ : ∃ fs, fs = ps ++ s.data.toList :: ss.take 20 := ⟨_, rfl⟩
      have hfl : ∀ x ∈ fs, x.length ≤ 1048576 := by
        intro x hx
        rw [hfs, List.mem_append, List.mem_cons] at hx
        rcases hx with hx | rfl | hx
        · exact HPT.out x hx
        · simpa using hs
        · exact HSS.out x (List.mem_of_mem_take hx)
      rw [← hfs] at hown
      have HFL := Lib.hid hfl
      obtain ⟨m, hm⟩ : ∃ m, m = np + 1 + k := ⟨_, rfl⟩
      rw [← hm] at hown
      have hm50 : m ≤ 51 := by omega
      have K2 : ∀ u ∈ strCells keywordsL, u.oneCell' = true := by intro u hu; simp only [strCells, List.mem_map] at hu; obtain ⟨x, _, rfl⟩ := hu; rfl
      have K22 := Lib.hid K2
      have K3 : m + 27 ≤ maxLen := by unfold maxLen; omega
      have K4 : (m + 27) * 16 ≤ 140737488355328 := by omega
      clear K2 hfl hfs hm hk50 HPT HSS Hl Hnp hp30 h1'
      rcases hcc with ⟨rfl, y1⟩ | y1
      · go_wp2_with fail
        refine (keywords_exact _).mono ?_
        rintro e w3 ⟨rfl, rfl⟩
        go_wp2_with (at_builtin; refine wpList_append_own _ rfl _ _ 26 rfl w.heap.size 9 i0 _ 1 16 Tryd.underlying26 hi hz0 hz1 hz2 rfl (by decide) _ _ _ rfl (hown.alloc _) ⟨wr.heap.size, 0, none⟩ 27 27 (strCells keywordsL) rfl rfl (cells_many _ _ _) K22.out K3 K4 (by simp; omega) ?_)
        intro v3 w4 hown3 hgrow _
        have hb4 : Below w.heap.size w w4 := (hb.alloc hsz _).grown hgrow (by simp; omega) (fun g hg => (hown.lt g hg).1)
        rw [← strCells_append] at hown3
        clear hgrow hown hsz hb K22 K3 K4 y1
        obtain ⟨lst, hlst⟩ : ∃ lst, lst = fs ++ keywordsL := ⟨_, rfl⟩
        have hkl : ∀ x ∈ keywordsL, x.length ≤ 1048576 := by decide
        have hll : ∀ x ∈ lst, x.length ≤ 1048576 := by
          intro x hx
          rw [hlst, List.mem_append] at hx
          rcases hx with hx | hx
          · exact HFL.out x hx
          · exact hkl x hx
        rw [← hlst] at hown3
        obtain ⟨N, hN⟩ : ∃ N, N = m + 27 := ⟨_, rfl⟩
        rw [← hN] at hown3
        have hlN : lst.length = N := by have := hown3.1; rw [strCells_length] at this; omega
        have hN80 : N ≤ 80 := by omega
        have HLL := Lib.hid hll
        have HLN := Lib.hid hlN
        clear hlst hkl hll hlN hN HFL hm50
        have hsz4 := hb4.size
        obtain ⟨A7, c7, rfl, hc7⟩ := own_slice hown3
        have r7 := Rd.of_own hown3
        clear hown3
        go_wp2_with fail
        have T0 := World.ownsRow_lit (base := w4.heap.size) (e := 38) (size := 2) w4 #[.string s, .string ⟨#[35]⟩] 1 (Nat.le_refl _) (by decide) (by rfl)
        have T0 := Lib.hid T0
        go_loopw [9, 10] (fun v x wr => ∃ k : Nat, k ≤ N ∧ x = .int .i64 k ∧ wr.ownsRow w4.heap.size 38 2 v (k + 1) (tokCells (⟨s.data.toList, [35]⟩ :: layTo (wordTok lst) k)) ∧ Below w4.heap.size w4 wr) (fun _ x _ => N - (intOf x).toNat)
        case atStart => exact ⟨0, by omega, rfl, T0.out, below_new w4 _⟩
        case round =>
          obtain ⟨k, hk, rfl, hown, hb⟩ := hrel
          have hsz := hb.size
          clear T0
          by_cases hlt : k < N
          · obtain ⟨b, o, u, rfl, hbb, hu, x1⟩ := (r7.below hb).at1 hlt
            rw [strCells_get lst (by have := HLN.out; omega)] at hu
            injection hu with hu
            subst hu
            have hxl : (lst.getD k []).length ≤ 1048576 := by
              have hkl : k < lst.length := by have := HLN.out; omega
              rw [List.getD_eq_getElem?_getD, List.getElem?_eq_getElem hkl, Option.getD_some]
              exact HLL.out _ (List.getElem_mem hkl)
            obtain ⟨x, hx⟩ : ∃ x : ByteArray, x = ⟨(lst.getD k []).toArray⟩ := ⟨_, rfl⟩
            have hxs : x.size = (lst.getD k []).length := by rw [hx, mk_size]
            obtain ⟨k1, hk1, hk1'⟩ := around_nat ((x.size : Int) + (k : Int)) 1000000 (by omega)
            have K1 := Lib.hid hk1
            obtain ⟨G, hG⟩ : ∃ G, G = gapB k1 0 := ⟨_, rfl⟩
            obtain ⟨gx, hgx⟩ : ∃ gx : ByteArray, gx = ⟨G.toArray⟩ := ⟨_, rfl⟩
            have hTk : wordTok lst k = ⟨x.data.toList, gx.data.toList⟩ := by
              have e2 : aroundI ((x.size : Int) + (k : Int)) 1000000 = (k1 : Int) := hk1.symm
              rw [wordTok, ← hxs, e2, Int.toNat_natCast, ← hG, hgx, hx]
            have TK := Lib.hid ((layTo_succ (wordTok lst) k).trans (by rw [hTk]))
            have GP : ∀ W : World, Calls Tryd.prog 19 #[.int .i64 ((x.size : Int) + (k : Int)), .int .i64 0] W (RetB (.string gx) W) := fun W => by rw [hgx, hG]; exact gap_any _ _ _ (by omega) (by omega) k1 K1 hk1'
            have hgs : gx.size ≤ 16 := by rw [hgx, mk_size, hG]; exact gapB_len _ _
            have hgb : blankB gx.data.toList = true := by rw [hgx, hG]; exact blank_gap _ _
            rw [← hxs] at hxl
            unfold str at x1
            rw [← hx] at x1
            have j1 : (0 : Int) ≤ (k : Int) := by omega
            have j2 : (k : Int) < (N : Int) := by omega
            clear hx hxs hk1 hG hgx hTk
            go_wp2_with fail
            refine (GP _).mono ?_
            rintro e w5 ⟨rfl, b5⟩
            have x2 := (b5.cell (p := ⟨b, o + k, none⟩) (by show b < wr.heap.size; omega)).trans x1
            have hown5 := own_below hown b5
            have hb5 : Below w4.heap.size w4 w5 := hb.trans (b5.mono hsz)
            have hsz5 := hb5.size
            clear b5 hb hown x1 GP hsz
            have a1 : ¬ 9223372036854775807 < gx.size + 2 := by omega
            have a2 : ¬ 9223372036854775807 < gx.size + 2 + s.size := by omega
            have hbig : (gx ++ ⟨#[32, 35]⟩ ++ s).size ≤ 2000000 := by rw [ByteArray.size_append, ByteArray.size_append]; show gx.size + 2 + s.size ≤ _; omega
            have htd : Tabs w5.drew := tabs_go ht (below_go hb4 hb5).drew
            have hkd : Kw w5.drew := kw_go hkw (below_go hb4 hb5).drew
            go_wp2_with fail
            go_region_held3 (fun W => W.cell? ⟨b, o + k, none⟩ = some (.string x)) (first | exact z2 | exact z1 | exact x2 | go_keep) (first | (have _ := z1; go_at_call 24; refine (rword_any x _ (by omega) _ (Lib.hid rfl)).mono ?_; rintro e w7 ⟨rfl, b7⟩; have z2 := (b7.cell (p := ⟨b, o + k, none⟩) (Nat.lt_of_lt_of_le (show b < w5.heap.size by omega) b6.size)).trans z1) | (go_at_call 23; refine (word_any x _ (by omega) htd hkd _ (Lib.hid rfl)).mono ?_; rintro e w6 ⟨rfl, b6⟩; have z1 := (b6.cell (p := ⟨b, o + k, none⟩) (by show b < w5.heap.size; omega)).trans x2) | (go_at_call 16; refine (blank_any _ _ (by omega) _ (Lib.hid rfl)).mono ?_; rintro e w' ⟨rfl, rfl⟩) | (go_at_call 25; refine (rblank_any _ _ (by omega) _ (Lib.hid rfl)).mono ?_; rintro e w' ⟨rfl, rfl⟩))
            have hown7 := own_below (own_below (w := w5.drew) hown5 b6) b7
            have hsz6 : w4.heap.size ≤ w6.heap.size := Nat.le_trans hsz5 b6.size
            have hb7 : Below w4.heap.size w4 w7 := (hb5.drew.trans (b6.mono hsz5)).trans (b7.mono hsz6)
            have hsz7 := hb7.size
            have K2 : ∀ u ∈ [(Value.string x), (Value.string gx)], u.oneCell' = true := by
              intro u hu
              simp only [List.mem_cons, List.not_mem_nil, or_false] at hu
              rcases hu with rfl | rfl
              · rfl
              · rfl
            have K22 := Lib.hid K2
            have K3 : k + 1 + 1 ≤ maxLen := by unfold maxLen; omega
            have K4 : (k + 1 + 1) * 32 ≤ 140737488355328 := by omega
            clear b6 b7 hb5 hsz5 hsz6 hown5 z1 x2 htd hkd K2 hgb hbig
            go_wp2_with (at_builtin; refine wpList_append_own _ rfl _ _ 27 rfl w4.heap.size 38 i1 _ 2 32 Tryd.underlying27 hi' hz0' hz1' hz2' rfl (by decide) _ _ _ rfl (hown7.alloc _) ⟨w7.heap.size, 0, none⟩ 1 1 [.string x, .string gx] rfl rfl (cells_two _ _ _ _) K22.out K3 K4 (by simp; omega) ?_)
            intro v' w8 hown8 hgrow _
            have hb8 : Below w4.heap.size w4 w8 := (hb7.alloc hsz7 _).grown hgrow (by simp; omega) (fun g hg => (hown7.lt g hg).1)
            clear hgrow hown7 hb7
            go_wp2_with fail
            go_roundw
            case rel =>
              refine ⟨k + 1, by omega, by go_num, ?_, hb8⟩
              rw [TK.out, ← List.cons_append, tokCells_snoc]
              exact hown8
            case measure => simp [intOf]; omega
          · obtain rfl : N = k := by omega
            obtain ⟨A9, c9, rfl, hc9⟩ := own_slice hown
            have r9 := Rd.of_own hown
            have r7 := r7.go hb
            have hb := below_go hb4 hb
            have hfb := flat_bound (wordTok lst) 1048576 N (fun j hj => by
              have hkl : j < lst.length := by have := HLN.out; omega
              refine ⟨?_, gapB_len _ _⟩
              show (lst.getD j []).length ≤ _
              rw [List.getD_eq_getElem?_getD, List.getElem?_eq_getElem hkl, Option.getD_some]
              exact HLL.out _ (List.getElem_mem hkl))
            obtain ⟨T, hT⟩ : ∃ T, T = (⟨s.data.toList, [35]⟩ : Lx.Tok) :: layTo (wordTok lst) N := ⟨_, rfl⟩
            have hTl : T.length = N + 1 := by rw [hT, List.length_cons, layTo_length]
            have hTf : (flat T).length ≤ 100000000 := by
              rw [hT, flat_cons, List.length_append, List.length_append, list_size]
              show 1 + s.size + _ ≤ _
              omega
            rw [← hT] at r9
            have HTl := Lib.hid hTl
            have TXT : ∃ tx : ByteArray, str (flat T ++ s.data.toList) = .string tx := ⟨_, rfl⟩
            obtain ⟨tx, htx⟩ := TXT
            have RTX : ∀ (A : Option Addr) (c : Nat) (W : World), Rd W W.heap.size 2 A (N + 1) (tokCells T) → Calls Tryd.prog 26 #[.slice A (N + 1) c, .string s] W (RetB (.string tx) W) := fun A c W hW => by
              have := rtext_any A (N + 1) c T s W hW hTl (by omega) (by omega)
              rwa [htx] at this
            have TX : ∀ (A : Option Addr) (c : Nat) (W : World), Rd W W.heap.size 2 A (N + 1) (tokCells T) → Calls Tryd.prog 21 #[.slice A (N + 1) c, .string s] W (RetB (.string tx) W) := fun A c W hW => by
              have := text_any A (N + 1) c T s W hW hTl (by omega) (by omega)
              rwa [htx] at this
            have UL := Lib.hid (usual_len lst)
            clear hT hTl hTf hfb htx hown T0 hb4 hsz4
            go_wp2_with fail
            refine (plain_any _ _ c9 T _ r9 HTl.out (by omega)).mono ?_
            rintro e w5 h5
            obtain ⟨A5, c5, rfl, r5, -, b5⟩ := h5.open_
            have hb5 := below_go hb b5
            have r7 := r7.go b5
            have r9 := r9.go b5
            clear b5 h5 hb
            go_wp2_with fail
            refine (RTX _ _ _ r5).mono ?_
            rintro e w6 ⟨rfl, b6⟩
            have hb6 := below_go hb5 b6
            have r7 := r7.go b6
            have r9 := r9.go b6
            clear b6 hb5 r5 RTX
            go_wp2_with fail
            refine (usual_any _ _ _ _ _ r7 (by omega)).mono ?_
            rintro e w7 h7
            obtain ⟨B7, e7, rfl, t7, -, b7⟩ := h7.open_
            have hb7 := below_go hb6 b7
            have r7 := r7.go b7
            have r9 := r9.go b7
            clear b7 h7 hb6
            go_wp2_with fail
            refine (rusual_any _ _ _ _ _ r7 (by omega)).mono ?_
            rintro e w8 h8
            obtain ⟨B8, e8, rfl, t8, -, b8⟩ := h8.open_
            have hb8 := below_go hb7 b8
            have r9 := r9.go b8
            have t7 := t7.go b8
            clear b8 h8 hb7
            go_wp2_with fail
            refine (sameTexts_any _ _ _ _ e7 e8 (usualL lst) (usualL lst) _ t7 t8 (by rw [UL.out, HLN.out]) (by rw [UL.out, HLN.out]) (by omega) true (Lib.hid (by simp))).mono ?_
            rintro e w9 ⟨rfl, b9⟩
            have hb9 := below_go hb8 b9
            have r9 := r9.go b9
            clear b9 hb8 t7 t8
            go_wp2_with fail
            refine (usual_any none 0 0 [] _ Rd.nil (by omega)).mono ?_
            rintro e w10 h10
            obtain ⟨B10, e10, rfl, -, -, b10⟩ := h10.open_
            have hb10 := below_go hb9 b10
            have r9 := r9.go b10
            clear b10 h10 hb9
            go_wp2_with fail
            refine (TX _ _ _ r9).mono ?_
            rintro e w11 ⟨rfl, b11⟩
            have hb11 := below_go hb10 b11
            go_wp2_with fail
            refine (lives_any _ (tabs_go ht hb11) (kw_go hkw hb11)).mono ?_
            rintro e w12 ⟨rfl, b12⟩
            go_wp2_with fail
            go_ret
            exact ⟨rfl, below_go hb11 b12⟩
      · go_wp2_with fail
        refine (keywords_exact _).mono ?_
        rintro e w3 ⟨rfl, rfl⟩
        go_wp2_with (at_builtin; refine wpList_append_own _ rfl _ _ 26 rfl w.heap.size 9 i0 _ 1 16 Tryd.underlying26 hi hz0 hz1 hz2 rfl (by decide) _ _ _ rfl (hown.alloc _) ⟨wr.heap.size, 0, none⟩ 27 27 (strCells keywordsL) rfl rfl (cells_many _ _ _) K22.out K3 K4 (by simp; omega) ?_)
        intro v3 w4 hown3 hgrow _
        have hb4 : Below w.heap.size w w4 := (hb.alloc hsz _).grown hgrow (by simp; omega) (fun g hg => (hown.lt g hg).1)
        rw [← strCells_append] at hown3
        clear hgrow hown hsz hb K22 K3 K4 y1
        obtain ⟨lst, hlst⟩ : ∃ lst, lst = fs ++ keywordsL := ⟨_, rfl⟩
        have hkl : ∀ x ∈ keywordsL, x.length ≤ 1048576 := by decide
        have hll : ∀ x ∈ lst, x.length ≤ 1048576 := by
          intro x hx
          rw [hlst, List.mem_append] at hx
          rcases hx with hx | hx
          · exact HFL.out x hx
          · exact hkl x hx
        rw [← hlst] at hown3
        obtain ⟨N, hN⟩ : ∃ N, N = m + 27 := ⟨_, rfl⟩
        rw [← hN] at hown3
        have hlN : lst.length = N := by have := hown3.1; rw [strCells_length] at this; omega
        have hN80 : N ≤ 80 := by omega
        have HLL := Lib.hid hll
        have HLN := Lib.hid hlN
        clear hlst hkl hll hlN hN HFL hm50
        have hsz4 := hb4.size
        obtain ⟨A7, c7, rfl, hc7⟩ := own_slice hown3
        have r7 := Rd.of_own hown3
        clear hown3
        go_wp2_with fail
        have T0 := World.ownsRow_lit (base := w4.heap.size) (e := 38) (size := 2) w4 #[.string s, .string ⟨#[35]⟩] 1 (Nat.le_refl _) (by decide) (by rfl)
        have T0 := Lib.hid T0
        go_loopw [9, 10] (fun v x wr => ∃ k : Nat, k ≤ N ∧ x = .int .i64 k ∧ wr.ownsRow w4.heap.size 38 2 v (k + 1) (tokCells (⟨s.data.toList, [35]⟩ :: layTo (wordTok lst) k)) ∧ Below w4.heap.size w4 wr) (fun _ x _ => N - (intOf x).toNat)
        case atStart => exact ⟨0, by omega, rfl, T0.out, below_new w4 _⟩
        case round =>
          obtain ⟨k, hk, rfl, hown, hb⟩ := hrel
          have hsz := hb.size
          clear T0
          by_cases hlt : k < N
          · obtain ⟨b, o, u, rfl, hbb, hu, x1⟩ := (r7.below hb).at1 hlt
            rw [strCells_get lst (by have := HLN.out; omega)] at hu
            injection hu with hu
            subst hu
            have hxl : (lst.getD k []).length ≤ 1048576 := by
              have hkl : k < lst.length := by have := HLN.out; omega
              rw [List.getD_eq_getElem?_getD, List.getElem?_eq_getElem hkl, Option.getD_some]
              exact HLL.out _ (List.getElem_mem hkl)
            obtain ⟨x, hx⟩ : ∃ x : ByteArray, x = ⟨(lst.getD k []).toArray⟩ := ⟨_, rfl⟩
            have hxs : x.size = (lst.getD k []).length := by rw [hx, mk_size]
            obtain ⟨k1, hk1, hk1'⟩ := around_nat ((x.size : Int) + (k : Int)) 1000000 (by omega)
            have K1 := Lib.hid hk1
            obtain ⟨G, hG⟩ : ∃ G, G = gapB k1 0 := ⟨_, rfl⟩
            obtain ⟨gx, hgx⟩ : ∃ gx : ByteArray, gx = ⟨G.toArray⟩ := ⟨_, rfl⟩
            have hTk : wordTok lst k = ⟨x.data.toList, gx.data.toList⟩ := by
              have e2 : aroundI ((x.size : Int) + (k : Int)) 1000000 = (k1 : Int) := hk1.symm
              rw [wordTok, ← hxs, e2, Int.toNat_natCast, ← hG, hgx, hx]
            have TK := Lib.hid ((layTo_succ (wordTok lst) k).trans (by rw [hTk]))
            have GP : ∀ W : World, Calls Tryd.prog 19 #[.int .i64 ((x.size : Int) + (k : Int)), .int .i64 0] W (RetB (.string gx) W) := fun W => by rw [hgx, hG]; exact gap_any _ _ _ (by omega) (by omega) k1 K1 hk1'
            have hgs : gx.size ≤ 16 := by rw [hgx, mk_size, hG]; exact gapB_len _ _
            have hgb : blankB gx.data.toList = true := by rw [hgx, hG]; exact blank_gap _ _
            rw [← hxs] at hxl
            unfold str at x1
            rw [← hx] at x1
            have j1 : (0 : Int) ≤ (k : Int) := by omega
            have j2 : (k : Int) < (N : Int) := by omega
            clear hx hxs hk1 hG hgx hTk
            go_wp2_with fail
            refine (GP _).mono ?_
            rintro e w5 ⟨rfl, b5⟩
            have x2 := (b5.cell (p := ⟨b, o + k, none⟩) (by show b < wr.heap.size; omega)).trans x1
            have hown5 := own_below hown b5
            have hb5 : Below w4.heap.size w4 w5 := hb.trans (b5.mono hsz)
            have hsz5 := hb5.size
            clear b5 hb hown x1 GP hsz
            have a1 : ¬ 9223372036854775807 < gx.size + 2 := by omega
            have a2 : ¬ 9223372036854775807 < gx.size + 2 + s.size := by omega
            have hbig : (gx ++ ⟨#[32, 35]⟩ ++ s).size ≤ 2000000 := by rw [ByteArray.size_append, ByteArray.size_append]; show gx.size + 2 + s.size ≤ _; omega
            have htd : Tabs w5.drew := tabs_go ht (below_go hb4 hb5).drew
            have hkd : Kw w5.drew := kw_go hkw (below_go hb4 hb5).drew
            go_wp2_with fail
            go_region_held3 (fun W => W.cell? ⟨b, o + k, none⟩ = some (.string x)) (first | exact z2 | exact z1 | exact x2 | go_keep) (first | (have _ := z1; go_at_call 24; refine (rword_any x _ (by omega) _ (Lib.hid rfl)).mono ?_; rintro e w7 ⟨rfl, b7⟩; have z2 := (b7.cell (p := ⟨b, o + k, none⟩) (Nat.lt_of_lt_of_le (show b < w5.heap.size by omega) b6.size)).trans z1) | (go_at_call 23; refine (word_any x _ (by omega) htd hkd _ (Lib.hid rfl)).mono ?_; rintro e w6 ⟨rfl, b6⟩; have z1 := (b6.cell (p := ⟨b, o + k, none⟩) (by show b < w5.heap.size; omega)).trans x2) | (go_at_call 16; refine (blank_any _ _ (by omega) _ (Lib.hid rfl)).mono ?_; rintro e w' ⟨rfl, rfl⟩) | (go_at_call 25; refine (rblank_any _ _ (by omega) _ (Lib.hid rfl)).mono ?_; rintro e w' ⟨rfl, rfl⟩))
            have hown7 := own_below (own_below (w := w5.drew) hown5 b6) b7
            have hsz6 : w4.heap.size ≤ w6.heap.size := Nat.le_trans hsz5 b6.size
            have hb7 : Below w4.heap.size w4 w7 := (hb5.drew.trans (b6.mono hsz5)).trans (b7.mono hsz6)
            have hsz7 := hb7.size
            have K2 : ∀ u ∈ [(Value.string x), (Value.string gx)], u.oneCell' = true := by
              intro u hu
              simp only [List.mem_cons, List.not_mem_nil, or_false] at hu
              rcases hu with rfl | rfl
              · rfl
              · rfl
            have K22 := Lib.hid K2
            have K3 : k + 1 + 1 ≤ maxLen := by unfold maxLen; omega
            have K4 : (k + 1 + 1) * 32 ≤ 140737488355328 := by omega
            clear b6 b7 hb5 hsz5 hsz6 hown5 z1 x2 htd hkd K2 hgb hbig
            go_wp2_with (at_builtin; refine wpList_append_own _ rfl _ _ 27 rfl w4.heap.size 38 i1 _ 2 32 Tryd.underlying27 hi' hz0' hz1' hz2' rfl (by decide) _ _ _ rfl (hown7.alloc _) ⟨w7.heap.size, 0, none⟩ 1 1 [.string x, .string gx] rfl rfl (cells_two _ _ _ _) K22.out K3 K4 (by simp; omega) ?_)
            intro v' w8 hown8 hgrow _
            have hb8 : Below w4.heap.size w4 w8 := (hb7.alloc hsz7 _).grown hgrow (by simp; omega) (fun g hg => (hown7.lt g hg).1)
            clear hgrow hown7 hb7
            go_wp2_with fail
            go_roundw
            case rel =>
              refine ⟨k + 1, by omega, by go_num, ?_, hb8⟩
              rw [TK.out, ← List.cons_append, tokCells_snoc]
              exact hown8
            case measure => simp [intOf]; omega
          · obtain rfl : N = k := by omega
            obtain ⟨A9, c9, rfl, hc9⟩ := own_slice hown
            have r9 := Rd.of_own hown
            have r7 := r7.go hb
            have hb := below_go hb4 hb
            have hfb := flat_bound (wordTok lst) 1048576 N (fun j hj => by
              have hkl : j < lst.length := by have := HLN.out; omega
              refine ⟨?_, gapB_len _ _⟩
              show (lst.getD j []).length ≤ _
              rw [List.getD_eq_getElem?_getD, List.getElem?_eq_getElem hkl, Option.getD_some]
              exact HLL.out _ (List.getElem_mem hkl))
            obtain ⟨T, hT⟩ : ∃ T, T = (⟨s.data.toList, [35]⟩ : Lx.Tok) :: layTo (wordTok lst) N := ⟨_, rfl⟩
            have hTl : T.length = N + 1 := by rw [hT, List.length_cons, layTo_length]
            have hTf : (flat T).length ≤ 100000000 := by
              rw [hT, flat_cons, List.length_append, List.length_append, list_size]
              show 1 + s.size + _ ≤ _
              omega
            rw [← hT] at r9
            have HTl := Lib.hid hTl
            have TXT : ∃ tx : ByteArray, str (flat T ++ s.data.toList) = .string tx := ⟨_, rfl⟩
            obtain ⟨tx, htx⟩ := TXT
            have RTX : ∀ (A : Option Addr) (c : Nat) (W : World), Rd W W.heap.size 2 A (N + 1) (tokCells T) → Calls Tryd.prog 26 #[.slice A (N + 1) c, .string s] W (RetB (.string tx) W) := fun A c W hW => by
              have := rtext_any A (N + 1) c T s W hW hTl (by omega) (by omega)
              rwa [htx] at this
            have TX : ∀ (A : Option Addr) (c : Nat) (W : World), Rd W W.heap.size 2 A (N + 1) (tokCells T) → Calls Tryd.prog 21 #[.slice A (N + 1) c, .string s] W (RetB (.string tx) W) := fun A c W hW => by
              have := text_any A (N + 1) c T s W hW hTl (by omega) (by omega)
              rwa [htx] at this
            have UL := Lib.hid (usual_len lst)
            clear hT hTl hTf hfb htx hown T0 hb4 hsz4
            go_wp2_with fail
            refine (plain_any _ _ c9 T _ r9 HTl.out (by omega)).mono ?_
            rintro e w5 h5
            obtain ⟨A5, c5, rfl, r5, -, b5⟩ := h5.open_
            have hb5 := below_go hb b5
            have r7 := r7.go b5
            have r9 := r9.go b5
            clear b5 h5 hb
            go_wp2_with fail
            refine (RTX _ _ _ r5).mono ?_
            rintro e w6 ⟨rfl, b6⟩
            have hb6 := below_go hb5 b6
            have r7 := r7.go b6
            have r9 := r9.go b6
            clear b6 hb5 r5 RTX
            go_wp2_with fail
            refine (usual_any _ _ _ _ _ r7 (by omega)).mono ?_
            rintro e w7 h7
            obtain ⟨B7, e7, rfl, t7, -, b7⟩ := h7.open_
            have hb7 := below_go hb6 b7
            have r7 := r7.go b7
            have r9 := r9.go b7
            clear b7 h7 hb6
            go_wp2_with fail
            refine (rusual_any _ _ _ _ _ r7 (by omega)).mono ?_
            rintro e w8 h8
            obtain ⟨B8, e8, rfl, t8, -, b8⟩ := h8.open_
            have hb8 := below_go hb7 b8
            have r9 := r9.go b8
            have t7 := t7.go b8
            clear b8 h8 hb7
            go_wp2_with fail
            refine (sameTexts_any _ _ _ _ e7 e8 (usualL lst) (usualL lst) _ t7 t8 (by rw [UL.out, HLN.out]) (by rw [UL.out, HLN.out]) (by omega) true (Lib.hid (by simp))).mono ?_
            rintro e w9 ⟨rfl, b9⟩
            have hb9 := below_go hb8 b9
            have r9 := r9.go b9
            clear b9 hb8 t7 t8
            go_wp2_with fail
            refine (usual_any none 0 0 [] _ Rd.nil (by omega)).mono ?_
            rintro e w10 h10
            obtain ⟨B10, e10, rfl, -, -, b10⟩ := h10.open_
            have hb10 := below_go hb9 b10
            have r9 := r9.go b10
            clear b10 h10 hb9
            go_wp2_with fail
            refine (TX _ _ _ r9).mono ?_
            rintro e w11 ⟨rfl, b11⟩
            have hb11 := below_go hb10 b11
            go_wp2_with fail
            refine (lives_any _ (tabs_go ht hb11) (kw_go hkw hb11)).mono ?_
            rintro e w12 ⟨rfl, b12⟩
            go_wp2_with fail
            go_ret
            exact ⟨rfl, below_go hb11 b12⟩
end Go.Proofs.YtjjdfccbkohlcaaDoor
