/- without, slices.Concat of two. -/
import Derived.Test.YtflfachkoffiiaaRefGreat
import Derived.Lib.AppendZeros
namespace Go.Proofs.Ytflfachkoffiiaa
open Go.RowKit Go.Lib

theorem rd_front {w : World} {B n c k : Nat} {A : Option Addr} {zs : List Int} (h : Rd w B 1 A n (intCells zs)) (hk : k ≤ n) (hc : n ≤ c) (hk0 : 0 < c) : Rd w B 1 A k (intCells (zs.take k)) := by
  have := h.cut (k := 0) (m := k) (cap := c) (Nat.zero_le _) hk hc
  rw [if_neg (by omega)] at this
  simp only [List.drop_zero, Nat.sub_zero, Nat.mul_one] at this
  have e : A.map (fun x => x.add 0) = A := by cases A with
    | none => rfl
    | some a => obtain ⟨b, o, s⟩ := a; cases s <;> simp [Addr.add]
  rw [e] at this
  rwa [intCells, List.map_take]
theorem rd_back {w : World} {B n c k : Nat} {A : Option Addr} {zs : List Int} (h : Rd w B 1 A n (intCells zs)) (hk : k ≤ n) (hc : n ≤ c) : Rd w B 1 (if c = k then A else A.map (·.add k)) (n - k) (intCells (zs.drop k)) := by
  have := h.cut (k := k) (m := n) (cap := c) hk (Nat.le_refl _) hc
  simp only [Nat.mul_one] at this
  rw [List.take_of_length_le (by have := h.1; rw [List.length_drop]; omega)] at this
  rwa [intCells, List.map_drop]
theorem erase_eq (zs : List Int) (k : Nat) : zs.take k ++ zs.drop (k + 1) = zs.eraseIdx k := (List.eraseIdx_eq_take_drop_succ zs k).symm

set_option maxRecDepth 100000 in
theorem without_any (b o n c k : Nat) (zs : List Int) (w : World) (h : Rd w w.heap.size 1 (some ⟨b, o, none⟩) n (intCells zs)) (hn : n ≤ 1000) (hc : n ≤ c) (hk : k < n) :
    Calls Try.prog 44 #[.slice (some ⟨b, o, none⟩) n c, .int .i64 k] w (IPost (zs.eraseIdx k) w) := by
  have hl := int_len h
  have H1 := Lib.hid (src_rdI (c := c) (rd_front h (Nat.le_of_lt hk) hc (by omega)))
  have HB := Lib.hid (rd_back h hk hc)
  have HE := Lib.hid (erase_eq zs k)
  have hl1 : (intCells (zs.take k)).length = k := by rw [intCells, List.length_map, List.length_take]; omega
  have j1 : ((k : Int) + 1) ≤ (n : Int) := by omega
  clear h
  by_cases hck : c = k + 1
  · have hn1 : n = k + 1 := by omega
    rw [if_pos hck] at HB
    subst hn1
    subst hck
    go_enter Try.func44, Try.ntmps44
    go_wp2_with (at_builtin; refine wpList_append_i _ rfl _ _ rfl rfl w.heap.size _ [] rfl (IAt.nil _ _) (Nat.le_refl _) _ k (intCells (zs.take k)) rfl H1.out (by simp; omega) ?_)
    intro v2 w2 hq hgr hloc
    have hb2 : Below w.heap.size w w2 := (Below.refl _ _).grown hgr (Nat.le_refl _) (fun g hg => by cases hg)
    have HQ := Lib.hid (show IAt w2 w.heap.size v2 (intCells (zs.take k)) from hq)
    have HB2 := Lib.hid hb2
    clear hq hgr hloc hb2
    go_wp2_with (at_builtin; refine wpList_append_i _ rfl _ _ rfl rfl w.heap.size _ _ rfl HQ.out HB2.out.size _ 0 (intCells []) rfl (src_rdI (Rd.nil (B := 0))) (by rw [hl1]; omega) ?_)
    intro v3 w3 hq hgr hloc
    have hb3 : Below w.heap.size w w3 := HB2.out.grown hgr HB2.out.size (fun g hg => (HQ.out.lt hg).1)
    clear hgr hloc
    go_wp2_with fail
    go_ret
    refine ⟨_, rfl, ?_, hb3⟩
    rw [← HE.out, List.drop_of_length_le (by omega), List.append_nil]
    simpa [intCells] using hq
  · rw [if_neg hck] at HB
    go_enter Try.func44, Try.ntmps44
    go_wp2_with (at_builtin; refine wpList_append_i _ rfl _ _ rfl rfl w.heap.size _ [] rfl (IAt.nil _ _) (Nat.le_refl _) _ k (intCells (zs.take k)) rfl H1.out (by simp; omega) ?_)
    intro v2 w2 hq hgr hloc
    have hb2 : Below w.heap.size w w2 := (Below.refl _ _).grown hgr (Nat.le_refl _) (fun g hg => by cases hg)
    have HQ := Lib.hid (show IAt w2 w.heap.size v2 (intCells (zs.take k)) from hq)
    have HB2 := Lib.hid hb2
    clear hq hgr hloc hb2
    have HS2 := Lib.hid (src_rdI (c := c - (k + 1)) (show Rd w2 w2.heap.size 1 (some ⟨b, o + (k + 1), none⟩) (n - (k + 1)) (intCells (zs.drop (k + 1))) by have := HB.out.go HB2.out; rwa [show (some (⟨b, o, none⟩ : Addr)).map (fun x => x.add (k + 1)) = some ⟨b, o + (k + 1), none⟩ by simp [Addr.add]] at this))
    have hck2 : ¬ c - (k + 1) = 0 := by omega
    go_wp2_with (at_builtin; refine wpList_append_i _ rfl _ _ rfl rfl w.heap.size _ _ rfl HQ.out HB2.out.size _ (n - (k + 1)) (intCells (zs.drop (k + 1))) rfl HS2.out (by rw [hl1]; omega) ?_)
    intro v3 w3 hq hgr hloc
    have hb3 : Below w.heap.size w w3 := HB2.out.grown hgr HB2.out.size (fun g hg => (HQ.out.lt hg).1)
    clear hgr hloc
    go_wp2_with fail
    go_ret
    refine ⟨_, rfl, ?_, hb3⟩
    rw [← HE.out, intCells, List.map_append]
    exact hq

theorem grow_any (k : Nat) (w : World) (hk : 0 < k) (hk9 : k ≤ 1000) : Calls Try.prog 60 #[.slice none 0 0, .int .i64 k] w (IPost [] w) := by
  obtain ⟨i0, hi, hz0, hz1, hz2⟩ := info_parts info3
  have hrun := Lib.run_append_nil_zeros (P := Try.prog) w 22 3 22 3 i0 _ .i64 .i64 Try.underlying22 Try.underlying3 hi hz0 k hk (by omega) (by omega) (by rw [hz2]; omega)
  have hge := grownCap_ge w k 0 3
  have hcm := grownCap_le_maxLen w k 0 3 (by unfold maxLen; omega)
  obtain ⟨cs, hcs⟩ : ∃ cs, cs = Builtin.zeroCells (Value.int .i64 0).cells k ++ Builtin.zeroCells (Value.int .i64 0).cells (grownCap w k 0 3 - k) := ⟨_, rfl⟩
  have hsz : cs.size = grownCap w k 0 3 := by
    rw [hcs, Array.size_append, size_zeroCells, size_zeroCells]
    show k * 1 + (grownCap w k 0 3 - k) * 1 = _
    omega
  rw [← hcs] at hrun
  have HI : IAt (w.drew.alloc (.cells cs 3)) w.heap.size (.slice (some ⟨w.heap.size, 0, none⟩) 0 (grownCap w k 0 3)) [] := by
    refine .inr ⟨w.heap.size, 0, _, rfl, Nat.le_refl _, by simp, Nat.zero_le _, hcm, fun j hj => ⟨?_, World.frozen?_alloc_new w.drew _ _ _⟩, fun j u hu => by simp at hu⟩
    have e1 : (w.drew.alloc (.cells cs 3)).cell? ⟨w.heap.size, 0 + j, none⟩ = _ := World.cell?_alloc_new w.drew _ _ _
    rw [e1, Array.getElem?_eq_getElem (by rw [hsz]; omega)]; rfl
  have HH := Lib.hid HI
  have HB := Lib.hid (show Below w.heap.size w (w.drew.alloc (.cells cs 3)) from (Below.refl _ _).drew.alloc (Nat.le_refl _) _)
  generalize grownCap w k 0 3 = cap at *
  have j1 : (0 : Int) < (k : Int) := by omega
  have j0 : ¬ (k : Int) < 0 := by omega
  clear hcs hsz HI hi hz0 hz1 hz2
  go_enter Try.func60, Try.ntmps60
  go_wp2_with (at_builtin; refine Lib.wpList_append_run _ rfl _ _ 22 3 rfl (.slice none 0 0) (.int .i64 k) rfl rfl _ _ hrun ?_)
  go_ret
  exact ⟨_, rfl, HH.out, HB.out⟩

theorem grow0_any (k : Nat) (w : World) (hk9 : k ≤ 1000) : Calls Try.prog 60 #[.slice none 0 0, .int .i64 k] w (IPost [] w) := by
  rcases Nat.eq_zero_or_pos k with rfl | hk
  · go_enter Try.func60, Try.ntmps60
    go_wp2_with fail
    go_ret
    exact ⟨_, rfl, IAt.nil _ _, Below.refl _ _⟩
  · exact grow_any k w hk hk9

set_option maxHeartbeats 4000000 in
theorem concat_any (g n1 c1 n2 c2 : Nat) (A1 A2 : Option Addr) (xs ys : List Int) (w : World) (x1 : w.cell? ⟨g, 0, none⟩ = some (.slice A1 n1 c1)) (x2 : w.cell? ⟨g, 1, none⟩ = some (.slice A2 n2 c2)) (hg : g < w.heap.size)
    (h1 : Rd w w.heap.size 1 A1 n1 (intCells xs)) (h2 : Rd w w.heap.size 1 A2 n2 (intCells ys)) (hn : n1 + n2 ≤ 1000) : Calls Try.prog 43 #[.slice (some ⟨g, 0, none⟩) 2 2] w (IPost (xs ++ ys) w) := by
  have H1 := Lib.hid h1
  have H2 := Lib.hid h2
  have E1 := Lib.hid (int_len h1)
  have E2 := Lib.hid (int_len h2)
  have X := Lib.hid (And.intro x1 x2)
  clear h1 h2
  go_enter Try.func43, Try.ntmps43
  go_wp2_with fail
  go_loopw [3, 11] (fun s x wr => wr = w ∧ ((s = .int .i64 0 ∧ x = .int .i64 0) ∨ (s = .int .i64 n1 ∧ x = .int .i64 1) ∨ (s = .int .i64 ((n1 + n2 : Nat) : Int) ∧ x = .int .i64 2))) (fun _ x _ => 2 - (intOf x).toNat)
  case atStart => exact ⟨rfl, .inl ⟨rfl, rfl⟩⟩
  case round =>
    obtain ⟨rfl, ⟨rfl, rfl⟩ | ⟨rfl, rfl⟩ | ⟨rfl, rfl⟩⟩ := hrel
    · have j0 : ¬ (n1 : Int) < 0 := by omega
      go_wp2_with fail
      go_roundw
      case rel => exact ⟨trivial, .inr (.inl ⟨by go_num, by go_num⟩)⟩
      case measure => simp [intOf]
    · have j0 : ¬ (n1 : Int) + n2 < 0 := by omega
      go_wp2_with fail
      go_roundw
      case rel => exact ⟨trivial, .inr (.inr ⟨by go_num, by go_num⟩)⟩
      case measure => simp [intOf]
    · have hl1 : (intCells xs).length = n1 := by rw [intCells, List.length_map, E1.out]
      go_wp2_with fail
      refine (grow0_any (n1 + n2) wr hn).mono ?_
      rintro e w1 ⟨v, rfl, hq, hb⟩
      have HQ := Lib.hid hq
      have HB := Lib.hid hb
      clear hq hb
      obtain ⟨wo, rfl⟩ : ∃ wo, wo = wr := ⟨_, rfl⟩
      go_wp2_with fail
      go_loopw [6, 27] (fun v x wq => Below wo.heap.size wo wq ∧ ((IAt wq wo.heap.size v [] ∧ x = .int .i64 0) ∨ (IAt wq wo.heap.size v (intCells xs) ∧ x = .int .i64 1) ∨ (IAt wq wo.heap.size v (intCells xs ++ intCells ys) ∧ x = .int .i64 2))) (fun _ x _ => 2 - (intOf x).toNat)
      case atStart => exact ⟨HB.out, .inl ⟨HQ.out, rfl⟩⟩
      case round =>
        clear HQ HB
        obtain ⟨hb2, ⟨hq2, rfl⟩ | ⟨hq2, rfl⟩ | ⟨hq2, rfl⟩⟩ := hrel
        · have y1 := (hb2.cell (p := ⟨g, 0, none⟩) hg).trans x1
          have y2 := (hb2.cell (p := ⟨g, 1, none⟩) hg).trans x2
          have hsrc := Lib.hid (src_rdI (c := c1) (H1.out.below hb2))
          have HB2 := Lib.hid hb2
          have HQ2 := Lib.hid hq2
          clear hb2 hq2
          go_wp2_with (at_builtin; refine wpList_append_i _ rfl _ _ rfl rfl wo.heap.size _ _ rfl HQ2.out HB2.out.size _ n1 (intCells xs) rfl hsrc.out (by simp; omega) ?_)
          intro v3 w3 hq3 hgr hloc
          have HB3 := Lib.hid (HB2.out.grown hgr HB2.out.size (fun g hg => (HQ2.out.lt hg).1))
          clear hgr hloc
          go_wp2_with fail
          go_roundw
          case rel => exact ⟨HB3.out, .inr (.inl ⟨by simpa using hq3, by go_num⟩)⟩
          case measure => simp [intOf]
        · have y1 := (hb2.cell (p := ⟨g, 0, none⟩) hg).trans x1
          have y2 := (hb2.cell (p := ⟨g, 1, none⟩) hg).trans x2
          have hsrc := Lib.hid (src_rdI (c := c2) (H2.out.below hb2))
          have HB2 := Lib.hid hb2
          have HQ2 := Lib.hid hq2
          clear hb2 hq2
          go_wp2_with (at_builtin; refine wpList_append_i _ rfl _ _ rfl rfl wo.heap.size _ _ rfl HQ2.out HB2.out.size _ n2 (intCells ys) rfl hsrc.out (by rw [hl1]; omega) ?_)
          intro v3 w3 hq3 hgr hloc
          have HB3 := Lib.hid (HB2.out.grown hgr HB2.out.size (fun g hg => (HQ2.out.lt hg).1))
          clear hgr hloc
          go_wp2_with fail
          go_roundw
          case rel => exact ⟨HB3.out, .inr (.inr ⟨hq3, by go_num⟩)⟩
          case measure => simp [intOf]
        · go_wp2_with fail
          go_ret
          exact ⟨_, rfl, by rw [intCells, List.map_append]; exact hq2, hb2⟩
end Go.Proofs.Ytflfachkoffiiaa
