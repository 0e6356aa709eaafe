/- A journal in memory; its small methods. -/
import Derived.Test.YtddpjahoeldleaaGreatDoorDFlush
import Derived.Test.YtddpjahoeldleaaGreatDoorDRot
import Derived.Test.YtddpjahoeldleaaGreatDoorRecs
import Derived.Test.YtddpjahoeldleaaGreatDoorSame
import Derived.Test.YtddpjahoeldleaaGreatDoorRefPack
namespace Go.Proofs.YtddpjahoeldleaaGreatDoor
open Go.RowKit Go.Maps

theorem add_at (b off j : Nat) : (⟨b, off, none⟩ : Addr).add j = ⟨b, off + j, none⟩ := by unfold Addr.add; split <;> simp_all

theorem cloneI_any (A : Option Addr) (n c : Nat) (zs : List Int) (w : World) (h : Rd w w.heap.size 1 A n (intCells zs)) (hn : n ≤ 100000) : Calls Tryz.prog 67 #[.slice A n c] w (OwnPost w.heap.size 3 1 n (intCells zs) w) := by
  cases A with
  | none =>
    have h0 : n = 0 := by
      rcases Nat.eq_zero_or_pos n with h0 | h0
      · exact h0
      · obtain ⟨_, _, e, _⟩ := h.2 h0; cases e
    subst h0
    have e0 : intCells zs = [] := List.eq_nil_of_length_eq_zero (by have := h.1; omega)
    have hnl := Lib.run_eql_slice_nil (P := Tryz.prog) w 23 3 none 0 c 0 0 Tryz.underlying23
    rw [e0]
    clear h e0
    go_enter Tryz.func67, Tryz.ntmps67
    go_wp2_with fail
    go_ret
    exact ⟨_, rfl, World.ownsRow_nil _ _ _ _, Below.refl _ _⟩
  | some a =>
    obtain ⟨i0, hi, hz0, hz1, hz2⟩ := info_parts info3
    have hnl := Lib.run_eql_slice_nil (P := Tryz.prog) w 23 3 (some a) n c 0 0 Tryz.underlying23
    have hown : (w.alloc (.cells #[] 3)).ownsRow w.heap.size 3 1 (.slice (some ⟨w.heap.size, 0, none⟩) 0 0) 0 [] := World.ownsRow_lit (base := w.heap.size) (e := 3) (size := 1) w #[] 0 (Nat.le_refl _) (by decide) rfl
    have hsrc : ∀ j u, (intCells zs)[j]? = some u → (w.alloc (.cells #[] 3)).cell? (a.add j) = some u := fun j u hu => by
      have hj : j < n := by have := (List.getElem?_eq_some_iff.1 hu).1; have := h.1; omega
      obtain ⟨b, off, e, hb, hc⟩ := h.2 (by omega)
      obtain rfl := Option.some.inj e
      rw [add_at]
      exact ((below_new w _).cell (p := ⟨b, off + j, none⟩) hb).trans (hc j u hu)
    have hl : (intCells zs).length = n * 1 := h.1
    have HS := Lib.hid hsrc
    have HL := Lib.hid hl
    clear h hsrc hl
    go_enter Tryz.func67, Tryz.ntmps67
    go_wp2_with (at_builtin; refine wpList_append_own _ rfl _ _ 23 rfl w.heap.size 3 i0 _ 1 8 Tryz.underlying23 hi hz0 hz1 hz2 rfl (by decide) _ 0 [] rfl hown a n c (intCells zs) rfl HL.out HS.out (fun u hu => by simp [intCells] at hu; obtain ⟨z, _, rfl⟩ := hu; rfl) (by unfold maxLen; omega) (by omega) (by simp) ?_)
    intro v2 w2 hown2 hgrow hnil
    have hb : Below w.heap.size w w2 := (below_new w (.cells #[] 3)).grown hgrow (by simp) (fun g hg => (hown.lt g hg).1)
    obtain ⟨A', c', rfl, -⟩ := own_slice hown2
    have HO := Lib.hid hown2
    clear hown2 hgrow hnil hown
    go_wp2_with fail
    go_ret
    exact ⟨_, rfl, HO.out, hb⟩

theorem cloneS_any (A : Option Addr) (n c : Nat) (zs : List Bs) (w : World) (h : Rd w w.heap.size 1 A n (strCells zs)) (hn : n ≤ 100000) : Calls Tryz.prog 48 #[.slice A n c] w (OwnPost w.heap.size 9 1 n (strCells zs) w) := by
  cases A with
  | none =>
    have h0 : n = 0 := by
      rcases Nat.eq_zero_or_pos n with h0 | h0
      · exact h0
      · obtain ⟨_, _, e, _⟩ := h.2 h0; cases e
    subst h0
    have e0 : strCells zs = [] := List.eq_nil_of_length_eq_zero (by have := h.1; omega)
    have hnl := Lib.run_eql_slice_nil (P := Tryz.prog) w 28 9 none 0 c 0 0 Tryz.underlying28
    rw [e0]
    clear h e0
    go_enter Tryz.func48, Tryz.ntmps48
    go_wp2_with fail
    go_ret
    exact ⟨_, rfl, World.ownsRow_nil _ _ _ _, Below.refl _ _⟩
  | some a =>
    obtain ⟨i0, hi, hz0, hz1, hz2⟩ := info_parts info9
    have hnl := Lib.run_eql_slice_nil (P := Tryz.prog) w 28 9 (some a) n c 0 0 Tryz.underlying28
    have hown : (w.alloc (.cells #[] 9)).ownsRow w.heap.size 9 1 (.slice (some ⟨w.heap.size, 0, none⟩) 0 0) 0 [] := World.ownsRow_lit (base := w.heap.size) (e := 9) (size := 1) w #[] 0 (Nat.le_refl _) (by decide) rfl
    have hsrc : ∀ j u, (strCells zs)[j]? = some u → (w.alloc (.cells #[] 9)).cell? (a.add j) = some u := fun j u hu => by
      have hj : j < n := by have := (List.getElem?_eq_some_iff.1 hu).1; have := h.1; omega
      obtain ⟨b, off, e, hb, hc⟩ := h.2 (by omega)
      obtain rfl := Option.some.inj e
      rw [add_at]
      exact ((below_new w _).cell (p := ⟨b, off + j, none⟩) hb).trans (hc j u hu)
    have hl : (strCells zs).length = n * 1 := h.1
    have HS := Lib.hid hsrc
    have HL := Lib.hid hl
    clear h hsrc hl
    go_enter Tryz.func48, Tryz.ntmps48
    go_wp2_with (at_builtin; refine wpList_append_own _ rfl _ _ 28 rfl w.heap.size 9 i0 _ 1 16 Tryz.underlying28 hi hz0 hz1 hz2 rfl (by decide) _ 0 [] rfl hown a n c (strCells zs) rfl HL.out HS.out (fun u hu => by simp [strCells] at hu; obtain ⟨z, _, rfl⟩ := hu; rfl) (by unfold maxLen; omega) (by omega) (by simp) ?_)
    intro v2 w2 hown2 hgrow hnil
    have hb : Below w.heap.size w w2 := (below_new w (.cells #[] 9)).grown hgrow (by simp) (fun g hg => (hown.lt g hg).1)
    obtain ⟨A', c', rfl, -⟩ := own_slice hown2
    have HO := Lib.hid hown2
    clear hown2 hgrow hnil hown
    go_wp2_with fail
    go_ret
    exact ⟨_, rfl, HO.out, hb⟩

/-- a journal's value -/
structure JV where
  nums : List Int
  bad : List Int
  texts : List Bs
  next : Int
  fin : Int
  closed : Bool
/-- the journal J lies at block j: its disk's struct at g, its lists at vn, vb, vt -/
structure JAt (w : World) (j g : Nat) (vn vb vt : Value) (J : JV) : Prop where
  head : Blk w j 75 #[.pointer (some ⟨g, 0, none⟩), vn, vb, vt, .int .i64 J.next, .int .i64 J.fin, .bool J.closed]
  nums : w.ownsRow 0 3 1 vn J.nums.length (intCells J.nums)
  bad : w.ownsRow 0 3 1 vb J.bad.length (intCells J.bad)
  texts : w.ownsRow 0 9 1 vt J.texts.length (strCells J.texts)
  apart : ∀ k, vn.ownBlock = some k → vb.ownBlock ≠ some k
theorem own_block {w : World} {base : Nat} {e : TypeId} {s : Nat} {v : Value} {n : Nat} {xs : List Value} (h : w.ownsRow base e s v n xs) {k : Nat} (hk : v.ownBlock = some k) : ∃ cs fr, w.heap[k]? = some (.cells cs e fr) := by
  rcases h.2 with ⟨rfl, _⟩ | ⟨g, cap, cur, rfl, _, hg, _⟩
  · simp [Value.ownBlock] at hk
  · have : g = k := by simpa [Value.ownBlock] using hk
    subst this
    exact ⟨cur, (0, 0), hg⟩
theorem own_keepF {w w' : World} {F : List Nat} {base : Nat} {e : TypeId} {s : Nat} {v : Value} {n : Nat} {xs : List Value} (h : w.ownsRow base e s v n xs) (hk : Keep F w w') (hF : ∀ k, v.ownBlock = some k → k ∉ F) : w'.ownsRow base e s v n xs := by
  refine ⟨h.1, ?_⟩
  rcases h.2 with hn | ⟨g, cap, cur, rfl, hb, hg, rest⟩
  · exact .inl hn
  · exact .inr ⟨g, cap, cur, rfl, hb, (hk.block g (Array.getElem?_eq_some_iff.1 hg).1 (hF g (by simp [Value.ownBlock]))).trans hg, rest⟩
section
variable {w w' : World} {j g : Nat} {vn vb vt : Value} {J : JV} {F : List Nat}
theorem JAt.keep (h : JAt w j g vn vb vt J) (hk : Keep F w w') (h0 : j ∉ F) (h1 : ∀ k, vn.ownBlock = some k → k ∉ F) (h2 : ∀ k, vb.ownBlock = some k → k ∉ F) (h3 : ∀ k, vt.ownBlock = some k → k ∉ F) : JAt w' j g vn vb vt J :=
  ⟨(hk.block j h.head.lt h0).trans h.head, own_keepF h.nums hk h1, own_keepF h.bad hk h2, own_keepF h.texts hk h3, h.apart⟩
theorem JAt.below (h : JAt w j g vn vb vt J) (hb : Below w.heap.size w w') : JAt w' j g vn vb vt J :=
  h.keep (Keep.of_below hb []) (by simp) (by simp) (by simp) (by simp)
/-- what a disk's change leaves -/
theorem JAt.disk (h : JAt w j g vn vb vt J) {gb gp gw K : Nat} {S : Dk.St} (hd : Dk.DiskAt w g gb gp gw K S) (hk : Keep [g, gb, gp, gw] w w') : JAt w' j g vn vb vt J := by
  have key : ∀ (k : Nat) (e : TypeId) (cs : Array Value) (fr : Nat × Nat), w.heap[k]? = some (.cells cs e fr) → e ≠ 92 → e ≠ 99 → k ∉ [g, gb, gp, gw] := fun k e cs fr hb h1 h2 hm => by
    obtain ⟨e1, c1, m1⟩ := Dk.ownsMap_obj hd.pend
    obtain ⟨e2, c2, m2⟩ := Dk.ownsMap_obj hd.worn
    simp only [List.mem_cons, List.not_mem_nil, or_false] at hm
    rcases hm with rfl | rfl | rfl | rfl
    · have := hd.head; rw [hb] at this; injection this with this; injection this with _ this; exact h1 this
    · have := hd.rows; rw [hb] at this; injection this with this; injection this with _ this; exact h2 this
    · rw [hb] at m1; cases m1
    · rw [hb] at m2; cases m2
  refine h.keep hk (key j _ _ _ h.head (by decide) (by decide)) (fun k hq => ?_) (fun k hq => ?_) (fun k hq => ?_)
  · obtain ⟨cs, fr, hb⟩ := own_block h.nums hq; exact key k _ _ _ hb (by decide) (by decide)
  · obtain ⟨cs, fr, hb⟩ := own_block h.bad hq; exact key k _ _ _ hb (by decide) (by decide)
  · obtain ⟨cs, fr, hb⟩ := own_block h.texts hq; exact key k _ _ _ hb (by decide) (by decide)
theorem JAt.cells (h : JAt w j g vn vb vt J) : w.cell? ⟨j, 0, none⟩ = some (.pointer (some ⟨g, 0, none⟩)) ∧ w.cell? ⟨j, 1, none⟩ = some vn ∧ w.cell? ⟨j, 2, none⟩ = some vb ∧ w.cell? ⟨j, 3, none⟩ = some vt ∧ w.cell? ⟨j, 4, none⟩ = some (.int .i64 J.next) ∧ w.cell? ⟨j, 5, none⟩ = some (.int .i64 J.fin) ∧ w.cell? ⟨j, 6, none⟩ = some (.bool J.closed) :=
  ⟨h.head.cell 0, h.head.cell 1, h.head.cell 2, h.head.cell 3, h.head.cell 4, h.head.cell 5, h.head.cell 6⟩
end
section
variable (w : World) (j g : Nat) (vn vb vt : Value) (J : JV)
theorem next_any (h : JAt w j g vn vb vt J) : Calls Tryz.prog 37 #[.pointer (some ⟨j, 0, none⟩)] w (Ret (.int .i64 J.next) w) := by
  obtain ⟨_, _, _, _, c4, _, _⟩ := h.cells
  clear h
  go_enter Tryz.func37, Tryz.ntmps37
  go_wp2_with fail
  go_ret
  exact Ret.mk
theorem numbers_any (h : JAt w j g vn vb vt J) (hn : J.nums.length ≤ 100000) : Calls Tryz.prog 42 #[.pointer (some ⟨j, 0, none⟩)] w (OwnPost w.heap.size 3 1 J.nums.length (intCells J.nums) w) := by
  obtain ⟨_, c1, _, _, _, _, _⟩ := h.cells
  obtain ⟨A, c, rfl, _⟩ := own_slice h.nums
  have HC := Lib.hid (cloneI_any A J.nums.length c J.nums w (Rd.of_own h.nums) hn)
  clear h
  go_enter Tryz.func42, Tryz.ntmps42
  go_wp2_with fail
  refine HC.out.mono ?_
  rintro e w' ⟨v, rfl, ho, hb⟩
  obtain ⟨A', c', rfl, _⟩ := own_slice ho
  go_wp2_with fail
  go_ret
  exact ⟨_, rfl, ho, hb⟩
theorem bad_any (h : JAt w j g vn vb vt J) (hn : J.bad.length ≤ 100000) : Calls Tryz.prog 35 #[.pointer (some ⟨j, 0, none⟩)] w (OwnPost w.heap.size 3 1 J.bad.length (intCells J.bad) w) := by
  obtain ⟨_, _, c2, _, _, _, _⟩ := h.cells
  obtain ⟨A, c, rfl, _⟩ := own_slice h.bad
  have HC := Lib.hid (cloneI_any A J.bad.length c J.bad w (Rd.of_own h.bad) hn)
  clear h
  go_enter Tryz.func35, Tryz.ntmps35
  go_wp2_with fail
  refine HC.out.mono ?_
  rintro e w' ⟨v, rfl, ho, hb⟩
  obtain ⟨A', c', rfl, _⟩ := own_slice ho
  go_wp2_with fail
  go_ret
  exact ⟨_, rfl, ho, hb⟩
theorem jtexts_any (h : JAt w j g vn vb vt J) (hn : J.texts.length ≤ 100000) : Calls Tryz.prog 11 #[.pointer (some ⟨j, 0, none⟩)] w (OwnPost w.heap.size 9 1 J.texts.length (strCells J.texts) w) := by
  obtain ⟨_, _, _, c3, _, _, _⟩ := h.cells
  obtain ⟨A, c, rfl, _⟩ := own_slice h.texts
  have HC := Lib.hid (cloneS_any A J.texts.length c J.texts w (Rd.of_own h.texts) hn)
  clear h
  go_enter Tryz.func11, Tryz.ntmps11
  go_wp2_with fail
  refine HC.out.mono ?_
  rintro e w' ⟨v, rfl, ho, hb⟩
  obtain ⟨A', c', rfl, _⟩ := own_slice ho
  go_wp2_with fail
  go_ret
  exact ⟨_, rfl, ho, hb⟩
/-- Room draws its order: the world is as it was but for the draw -/
theorem room_any (h : JAt w j g vn vb vt J) {gb gp gw K : Nat} {S : Dk.St} (hd : Dk.DiskAt w g gb gp gw K S) (h0 : 0 ≤ J.fin) (h1 : J.fin ≤ 4096) : Calls Tryz.prog 38 #[.pointer (some ⟨j, 0, none⟩)] w (RetB (.int .i64 ((S.bl.length : Int) - J.fin)) w) := by
  obtain ⟨c0, _, _, _, _, c5, _⟩ := h.cells
  have HL : Hid (∀ n, Calls Tryz.prog 43 #[.pointer (some ⟨g, 0, none⟩)] (w.drewN n) (fun e w' => e = .returned (.int .i64 (S.bl.length : Int)) ∧ w' = w.drewN n)) := Lib.hid (fun n => (Dk.len_any (w.drewN n) g gb gp gw K S (hd.same rfl rfl rfl rfl)).mono (fun _ _ hq => ⟨hq.1, hq.2.symm⟩))
  have n2 : (S.bl.length : Int) ≤ 4096 := by have := hd.n2; omega
  have n1 : (0 : Int) ≤ (S.bl.length : Int) := by omega
  clear h hd
  go_enter Tryz.func38, Tryz.ntmps38
  go_wp2_with fail
  go_quiet ((go_at_call 43; with_reducible exact Calls.quiet_of_same (HL.out _)))
  go_wp2_with fail
  go_ret
  exact ⟨rfl, below_drewN' (Below.refl _ _) _⟩
end
end Go.Proofs.YtddpjahoeldleaaGreatDoor
