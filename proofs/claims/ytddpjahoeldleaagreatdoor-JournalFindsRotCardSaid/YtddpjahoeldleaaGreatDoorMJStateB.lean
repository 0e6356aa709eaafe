/- A disk with a journal, made behind a world. -/
import Derived.Test.YtddpjahoeldleaaGreatDoorMJAppend
import Derived.Test.YtddpjahoeldleaaGreatDoorMJOpen
import Derived.Test.YtddpjahoeldleaaGreatDoorMPSane

/-! Append: every case. -/
namespace Go.Proofs.YtddpjahoeldleaaGreatDoor
open Go.RowKit Go.Maps
theorem app_any (w : World) (j g : Nat) (vn vb vt : Value) (J : JV) (gb gp gw K : Nat) (S : Dk.St) (hJ : JAt w j g vn vb vt J) (hd : Dk.DiskAt w g gb gp gw K S) (hP : Dk.PendOK S) (hk : Consts w) (hK : K + 200 ≤ 100000) (s : ByteArray) (hx1 : 1 ≤ J.next) (f0 : 0 ≤ J.fin) (f1 : J.fin ≤ 4096) (hn : J.nums.length ≤ 90000) (ht : J.texts.length ≤ 90000) :
    Calls Tryz.prog 14 #[.pointer (some ⟨j, 0, none⟩), .string s] w (ApPost (appR J S s.data.toList) w j g gb gp gw (K + 200) vn vb vt) := by
  cases hc : J.closed with
  | true => exact app_closed w j g vn vb vt J gb gp gw K S hJ hd s hc
  | false =>
    by_cases hl : 8000 < s.size ∨ 4096 < J.next
    · exact app_limit w j g vn vb vt J gb gp gw K S hJ hd s hc hl
    · by_cases hf : (S.bl.length : Int) - J.fin < (countN s.size : Int)
      · exact app_full w j g vn vb vt J gb gp gw K S hJ hd s hc (by omega) (by omega) f0 f1 hf
      · exact app_main w j g vn vb vt J gb gp gw K S hJ hd hP hk hK s hc (by omega) hx1 (by omega) f0 f1 hf hn ht
end Go.Proofs.YtddpjahoeldleaaGreatDoor

/-! A disk, and a journal, that a call has made for itself. -/
namespace Go.Proofs.YtddpjahoeldleaaGreatDoor
open Go.RowKit Go.Maps

/-- a disk that was made behind world w0 -/
structure DD (w0 W : World) (g gb gp gw K : Nat) (S : Dk.St) : Prop where
  disk : Dk.DiskAt W g gb gp gw K S
  below : Below w0.heap.size w0 W
  g0 : w0.heap.size ≤ g
  gb0 : w0.heap.size ≤ gb
  gp0 : w0.heap.size ≤ gp
  gw0 : w0.heap.size ≤ gw
  pend : Dk.PendOK S
/-- .. with a journal on it -/
structure JD (w0 W : World) (j g gb gp gw K : Nat) (vn vb vt : Value) (J : JV) (S : Dk.St) : Prop where
  dd : DD w0 W g gb gp gw K S
  jat : JAt W j g vn vb vt J
  j0 : w0.heap.size ≤ j
  fn : fresh w0 vn
  fb : fresh w0 vb
  ft : fresh w0 vt
section
variable {w0 W W' : World} {j g gb gp gw K : Nat} {vn vb vt : Value} {J : JV} {S : Dk.St}
theorem fresh_older {w w' : World} {v : Value} (h : fresh w' v) (hs : w.heap.size ≤ w'.heap.size) : fresh w v := fun k hk => Nat.le_trans hs (h k hk)
theorem DD.go (h : DD w0 W g gb gp gw K S) (hb : Below W.heap.size W W') : DD w0 W' g gb gp gw K S := ⟨h.disk.below hb, below_go h.below hb, h.g0, h.gb0, h.gp0, h.gw0, h.pend⟩
theorem DD.mono (h : DD w0 W g gb gp gw K S) {K' : Nat} (hK : K ≤ K') : DD w0 W g gb gp gw K' S := ⟨h.disk.mono hK, h.below, h.g0, h.gb0, h.gp0, h.gw0, h.pend⟩
theorem DD.keep (h : DD w0 W g gb gp gw K S) {F : List Nat} {K' : Nat} {S' : Dk.St} (hd : Dk.DiskAt W' g gb gp gw K' S') (hk : Keep F W W') (hF : ∀ k, k ∈ F → w0.heap.size ≤ k) (ht : Dk.Tame S S') : DD w0 W' g gb gp gw K' S' :=
  ⟨hd, h.below.trans (hk.below h.below.size hF), h.g0, h.gb0, h.gp0, h.gw0, ht.ok h.pend⟩
theorem DD.four (h : DD w0 W g gb gp gw K S) : ∀ k, k ∈ [g, gb, gp, gw] → w0.heap.size ≤ k := fun k hk => by
  have := h.g0; have := h.gb0; have := h.gp0; have := h.gw0
  simp only [List.mem_cons, List.not_mem_nil, or_false] at hk
  omega
theorem DD.post (h : DD w0 W g gb gp gw K S) {v : Value} {K' : Nat} {S' : Dk.St} {e : Ending} (hp : Dk.DPost v g gb gp gw K' S' W e W') (ht : Dk.Tame S S') : e = .returned v ∧ DD w0 W' g gb gp gw K' S' :=
  ⟨hp.1, h.keep hp.2.1 hp.2.2 h.four ht⟩
theorem dd_new {n : Nat} {e : Ending} (h : Dk.NewPost n W e W') : ∃ g gb gp gw, e = .returned (.tuple #[.pointer (some ⟨g, 0, none⟩), .int .i64 0]) ∧ DD W W' g gb gp gw 0 (Dk.newS n) := by
  obtain ⟨g, gb, gp, gw, rfl, hd, hb, h1, h2, h3, h4⟩ := h
  exact ⟨g, gb, gp, gw, rfl, hd, hb, h1, h2, h3, h4, Dk.pendOK_new n⟩
theorem JD.go (h : JD w0 W j g gb gp gw K vn vb vt J S) (hb : Below W.heap.size W W') : JD w0 W' j g gb gp gw K vn vb vt J S := ⟨h.dd.go hb, h.jat.below hb, h.j0, h.fn, h.fb, h.ft⟩
theorem JD.mono (h : JD w0 W j g gb gp gw K vn vb vt J S) {K' : Nat} (hK : K ≤ K') : JD w0 W j g gb gp gw K' vn vb vt J S := ⟨h.dd.mono hK, h.jat, h.j0, h.fn, h.fb, h.ft⟩
theorem DD.open_ (h : DD w0 W g gb gp gw K S) {e : Ending} (hp : OpenPost W g S e W') (hc : Dk.checkE S 0 = 0) : ∃ j vn vb vt, e = .returned (.tuple #[.pointer (some ⟨j, 0, none⟩), .int .i64 0]) ∧ JD w0 W' j g gb gp gw K vn vb vt (openJ S) S := by
  obtain ⟨hb, hp⟩ := hp
  rcases hp with ⟨hn, _⟩ | ⟨_, j, vn, vb, vt, rfl, hj, hj0, f1, f2, f3⟩
  · exact absurd hc hn
  · have hs := h.below.size
    exact ⟨j, vn, vb, vt, rfl, h.go hb, hj, Nat.le_trans hs hj0, fresh_older f1 hs, fresh_older f2 hs, fresh_older f3 hs⟩
theorem tame_appR (J : JV) (S : Dk.St) (t : Bs) : Dk.Tame S (appR J S t).S := by
  have h : Dk.Tame S (apR J S t).S := tame_writeR _ _ _
  unfold appR
  split
  · exact Dk.Tame.refl S
  · split
    · exact Dk.Tame.refl S
    · split
      · exact Dk.Tame.refl S
      · split
        · exact h
        · split
          · exact h
          · exact h
theorem aged_new {w0 W : World} {v v' : Value} (h : fresh w0 v) (ha : Aged W v v') (hs : w0.heap.size ≤ W.heap.size) : fresh w0 v' := aged_fresh h ha hs
theorem JD.app (h : JD w0 W j g gb gp gw K vn vb vt J S) {t : Bs} {K' : Nat} {e : Ending} (hp : ApPost (appR J S t) W j g gb gp gw K' vn vb vt e W') :
    ∃ vn' vt', e = .returned (.tuple #[.int .i64 (appR J S t).n, .int .i64 (appR J S t).err]) ∧ JD w0 W' j g gb gp gw K' vn' vb vt' (appR J S t).J (appR J S t).S := by
  obtain ⟨vn', vt', rfl, hj, hd, hk, h1, h2⟩ := hp
  have hs := h.dd.below.size
  refine ⟨vn', vt', rfl, h.dd.keep hd hk (fun k hk => ?_) (tame_appR J S t), hj, h.j0, aged_new h.fn h1 hs, h.fb, aged_new h.ft h2 hs⟩
  rcases List.mem_cons.1 hk with rfl | hk
  · exact h.j0
  · rcases List.mem_append.1 hk with hk | hk
    · rcases List.mem_append.1 hk with hk | hk
      · exact h.fn k (mem_ob.1 hk)
      · exact h.ft k (mem_ob.1 hk)
    · exact h.dd.four k hk
end
end Go.Proofs.YtddpjahoeldleaaGreatDoor

/-! A law's own lists beside a journal. -/
namespace Go.Proofs.YtddpjahoeldleaaGreatDoor
open Go.RowKit Go.Maps

section
variable {w0 W W' : World} {j g gb gp gw K : Nat} {vn vb vt : Value} {J : JV} {S : Dk.St}
theorem JD.app2 (h : JD w0 W j g gb gp gw K vn vb vt J S) {t : Bs} {K' : Nat} {e : Ending} (hp : ApPost (appR J S t) W j g gb gp gw K' vn vb vt e W') :
    ∃ vn' vt', e = .returned (.tuple #[.int .i64 (appR J S t).n, .int .i64 (appR J S t).err]) ∧ JD w0 W' j g gb gp gw K' vn' vb vt' (appR J S t).J (appR J S t).S ∧ Keep (j :: (ob vn ++ ob vt ++ [g, gb, gp, gw])) W W' ∧ Aged W vn vn' ∧ Aged W vt vt' := by
  obtain ⟨vn', vt', he, hj, hd, hk, h1, h2⟩ := hp
  have hs := h.dd.below.size
  refine ⟨vn', vt', he, ⟨h.dd.keep hd hk (fun k hk => ?_) (tame_appR J S t), hj, h.j0, aged_new h.fn h1 hs, h.fb, aged_new h.ft h2 hs⟩, hk, h1, h2⟩
  rcases List.mem_cons.1 hk with rfl | hk
  · exact h.j0
  · rcases List.mem_append.1 hk with hk | hk
    · rcases List.mem_append.1 hk with hk | hk
      · exact h.fn k (mem_ob.1 hk)
      · exact h.ft k (mem_ob.1 hk)
    · exact h.dd.four k hk
/-- a row of another type lies apart from the disk -/
theorem row_disk {base e size n : Nat} {v : Value} {xs : List Value} (h : W.ownsRow base e size v n xs) (hd : Dk.DiskAt W g gb gp gw K S) (h1 : e ≠ 92) (h2 : e ≠ 99) : ∀ k, v.ownBlock = some k → k ∉ [g, gb, gp, gw] := fun k hk hm => by
  obtain ⟨cs, fr, hb⟩ := own_block h hk
  obtain ⟨e1, c1, m1⟩ := Dk.ownsMap_obj hd.pend
  obtain ⟨e2, c2, m2⟩ := Dk.ownsMap_obj hd.worn
  simp only [List.mem_cons, List.not_mem_nil, or_false] at hm
  rcases hm with rfl | rfl | rfl | rfl
  · have := hd.head; rw [hb] at this; injection this with this; injection this with _ this; exact h1 this
  · have := hd.rows; rw [hb] at this; injection this with this; injection this with _ this; exact h2 this
  · rw [hb] at m1; cases m1
  · rw [hb] at m2; cases m2
/-- what lies behind all the journal has stays where the journal alone changes -/
theorem JD.far (h : JD w0 W j g gb gp gw K vn vb vt J S) : ∀ k, k ∈ j :: (ob vn ++ ob vt ++ [g, gb, gp, gw]) → k < W.heap.size := fun k hk => by
  rcases List.mem_cons.1 hk with rfl | hk
  · exact h.jat.head.lt
  · rcases List.mem_append.1 hk with hk | hk
    · rcases List.mem_append.1 hk with hk | hk
      · exact (h.jat.nums.lt k (mem_ob.1 hk)).2
      · exact (h.jat.texts.lt k (mem_ob.1 hk)).2
    · obtain ⟨l1, l2, l3, l4⟩ := h.dd.disk.lt
      simp only [List.mem_cons, List.not_mem_nil, or_false] at hk
      omega
/-- two lists of the law's own: numbers, texts -/
structure Own2 (w0 W : World) (vN vT : Value) (R : List (Nat × Bs)) (vn vb vt : Value) : Prop where
  nums : W.ownsRow w0.heap.size 3 1 vN R.length (intCells (R.map fun x => (x.1 : Int)))
  texts : W.ownsRow w0.heap.size 9 1 vT R.length (strCells (R.map Prod.snd))
  a1 : ∀ k, vN.ownBlock = some k → vn.ownBlock ≠ some k
  a2 : ∀ k, vN.ownBlock = some k → vb.ownBlock ≠ some k
  a3 : ∀ k, vT.ownBlock = some k → vt.ownBlock ≠ some k
variable {vN vT vn' vt' : Value} {R : List (Nat × Bs)}
theorem Own2.below (h : Own2 w0 W vN vT R vn vb vt) (hb : Below W.heap.size W W') : Own2 w0 W' vN vT R vn vb vt := ⟨own_below h.nums hb, own_below h.texts hb, h.a1, h.a2, h.a3⟩
theorem Own2.app (h : Own2 w0 W vN vT R vn vb vt) (hj : JD w0 W j g gb gp gw K vn vb vt J S) (hk : Keep (j :: (ob vn ++ ob vt ++ [g, gb, gp, gw])) W W') (h1 : Aged W vn vn') (h2 : Aged W vt vt') : Own2 w0 W' vN vT R vn' vb vt' := by
  have key : ∀ (e : TypeId) (v : Value) (xs : List Value), W.ownsRow w0.heap.size e 1 v R.length xs → e ≠ 75 → e ≠ 92 → e ≠ 99 → (∀ k, v.ownBlock = some k → k ∉ ob vn) → (∀ k, v.ownBlock = some k → k ∉ ob vt) → ∀ k, v.ownBlock = some k → k ∉ j :: (ob vn ++ ob vt ++ [g, gb, gp, gw]) := fun e v xs ho t1 t2 t3 n1 n2 k hq hm => by
    rcases List.mem_cons.1 hm with rfl | hm
    · exact row_neb hj.jat.head ho t1 _ hq (List.mem_cons_self ..)
    · rcases List.mem_append.1 hm with hm | hm
      · rcases List.mem_append.1 hm with hm | hm
        · exact n1 k hq hm
        · exact n2 k hq hm
      · exact row_disk ho hj.dd.disk t2 t3 k hq hm
  refine ⟨own_keepF h.nums hk (key _ _ _ h.nums (by decide) (by decide) (by decide) (fun k hk hm => h.a1 k hk (mem_ob.1 hm)) (types_ne h.nums hj.jat.texts (by decide))), own_keepF h.texts hk (key _ _ _ h.texts (by decide) (by decide) (by decide) (types_ne h.texts hj.jat.nums (by decide)) (fun k hk hm => h.a3 k hk (mem_ob.1 hm))), fun k hk e => ?_, h.a2, fun k hk e => ?_⟩
  · rcases h1 k e with e1 | e1
    · exact h.a1 k hk e1
    · have := (h.nums.lt k hk).2; omega
  · rcases h2 k e with e1 | e1
    · exact h.a3 k hk e1
    · have := (h.texts.lt k hk).2; omega
/-- the law's lists change, the journal does not -/
theorem JD.lists (h : JD w0 W j g gb gp gw K vn vb vt J S) (ho : Own2 w0 W vN vT R vn vb vt) (hk : Keep (ob vN ++ ob vT) W W') : JD w0 W' j g gb gp gw K vn vb vt J S := by
  have hN : ∀ k, k ∈ ob vN → k ≠ j ∧ k ∉ ob vt ∧ k ∉ [g, gb, gp, gw] := fun k hk => by
    rw [mem_ob] at hk
    exact ⟨fun e => row_neb h.jat.head ho.nums (by decide) k hk (by rw [e]; exact List.mem_cons_self ..), types_ne ho.nums h.jat.texts (by decide) k hk, row_disk ho.nums h.dd.disk (by decide) (by decide) k hk⟩
  have hT : ∀ k, k ∈ ob vT → k ≠ j ∧ k ∉ ob vn ∧ k ∉ ob vb ∧ k ∉ [g, gb, gp, gw] := fun k hk => by
    rw [mem_ob] at hk
    exact ⟨fun e => row_neb h.jat.head ho.texts (by decide) k hk (by rw [e]; exact List.mem_cons_self ..), types_ne ho.texts h.jat.nums (by decide) k hk, types_ne ho.texts h.jat.bad (by decide) k hk, row_disk ho.texts h.dd.disk (by decide) (by decide) k hk⟩
  have hf : ∀ k, k ∈ ob vN ++ ob vT → w0.heap.size ≤ k := fun k hk => by
    rcases List.mem_append.1 hk with hk | hk
    · exact (ho.nums.lt k (mem_ob.1 hk)).1
    · exact (ho.texts.lt k (mem_ob.1 hk)).1
  refine ⟨⟨h.dd.disk.keep hk (fun k hk => ?_), h.dd.below.trans (hk.below h.dd.below.size hf), h.dd.g0, h.dd.gb0, h.dd.gp0, h.dd.gw0, h.dd.pend⟩, h.jat.keep hk (fun hm => ?_) (fun k hk hm => ?_) (fun k hk hm => ?_) (fun k hk hm => ?_), h.j0, h.fn, h.fb, h.ft⟩
  · have h4 : k ∉ [g, gb, gp, gw] := by
      rcases List.mem_append.1 hk with hk | hk
      · exact (hN k hk).2.2
      · exact (hT k hk).2.2.2
    simp only [List.mem_cons, List.not_mem_nil, or_false, not_or] at h4
    exact h4
  · rcases List.mem_append.1 hm with hm | hm
    · exact (hN _ hm).1 rfl
    · exact (hT _ hm).1 rfl
  · rcases List.mem_append.1 hm with hm | hm
    · exact ho.a1 k (mem_ob.1 hm) hk
    · exact (hT _ hm).2.1 (mem_ob.2 hk)
  · rcases List.mem_append.1 hm with hm | hm
    · exact ho.a2 k (mem_ob.1 hm) hk
    · exact (hT _ hm).2.2.1 (mem_ob.2 hk)
  · rcases List.mem_append.1 hm with hm | hm
    · exact (hN _ hm).2.1 (mem_ob.2 hk)
    · exact ho.a3 k (mem_ob.1 hm) hk
/-- both lists have grown -/
theorem Own2.grow {w8 w8' w9 : World} {v8 v9 : Value} (h : Own2 w0 W vN vT R vn vb vt) (hj : JD w0 W j g gb gp gw K vn vb vt J S) {x : Nat} {t : Bs} (G8 : Grew W vN w8 v8) (o8 : w8.ownsRow w0.heap.size 3 1 v8 (R.length + 1) (intCells ((R.map fun x => (x.1 : Int)) ++ [(x : Int)])))
    (hb : Below w8.heap.size w8 w8') (G9 : Grew w8' vT w9 v9) (o9 : w9.ownsRow w0.heap.size 9 1 v9 (R.length + 1) (strCells (R.map Prod.snd ++ [t]))) :
    Keep (ob vN ++ ob vT) W w9 ∧ Own2 w0 w9 v8 v9 (R ++ [(x, t)]) vn vb vt := by
  have k8 : Keep (ob vN ++ ob vT) W w8' := (G8.keep.trans (Keep.of_below hb _)).more (fun _ hk => List.mem_append_left _ hk)
  have T8 : w8.ownsRow w0.heap.size 9 1 vT R.length (strCells (R.map Prod.snd)) := own_keepF h.texts G8.keep (types_ne h.texts h.nums (by decide))
  have T8' := own_below T8 hb
  refine ⟨k8.trans (G9.keep.more (fun _ hk => List.mem_append_right _ hk)), ⟨?_, ?_, fun k hk e => ?_, fun k hk e => ?_, fun k hk e => ?_⟩⟩
  · rw [List.length_append, List.length_singleton, List.map_append]
    exact own_keepF (own_below o8 hb) G9.keep (types_ne (own_below o8 hb) T8' (by decide))
  · rw [List.length_append, List.length_singleton, List.map_append]
    exact o9
  · rcases G8.aged k hk with e1 | e1
    · exact h.a1 k e1 e
    · have := (hj.jat.nums.lt k e).2; omega
  · rcases G8.aged k hk with e1 | e1
    · exact h.a2 k e1 e
    · have := (hj.jat.bad.lt k e).2; omega
  · rcases G9.aged k hk with e1 | e1
    · exact h.a3 k e1 e
    · have := (hj.jat.texts.lt k e).2
      have := k8.size
      omega
end
end Go.Proofs.YtddpjahoeldleaaGreatDoor
