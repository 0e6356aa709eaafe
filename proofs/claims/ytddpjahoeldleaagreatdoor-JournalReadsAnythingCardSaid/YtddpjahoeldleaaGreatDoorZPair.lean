import Derived.Test.YtddpjahoeldleaaGreatDoorRJ
import Derived.Test.YtddpjahoeldleaaGreatDoorJStateB
import Derived.Test.YtddpjahoeldleaaGreatDoorJMore
import Derived.Test.YtddpjahoeldleaaGreatDoorJStepsB
import Derived.Deep.RegionHeld3
import Derived.Test.YtddpjahoeldleaaGreatDoorSame
import Derived.Test.YtddpjahoeldleaaGreatDoorZFill
/-! The program's disk and the reference's in one memory, each with its journal; few; same. -/
namespace Go.Proofs.YtddpjahoeldleaaGreatDoor
open Go.RowKit Go.Maps
open Dk (RSt RefAt Sim RPost)

/-- the bounds that a journal keeps -/
structure Fair (J : JV) (c : Nat) : Prop where
  n : J.nums.length ≤ c
  b : J.bad.length ≤ 5000
  t : J.texts.length ≤ c
  z : ∀ z ∈ J.nums, 0 ≤ z ∧ z ≤ 4096
  x1 : 1 ≤ J.next
  x2 : J.next ≤ 4097
  f0 : 0 ≤ J.fin
  f1 : J.fin ≤ 4096
theorem recs_short : ∀ (f : Nat) (l : List PartV), (recs f l).length ≤ l.length
  | 0, _ => by simp [recs]
  | _ + 1, [] => by simp [recs]
  | f + 1, p :: r => by
    rw [recs]
    split
    · rename_i h
      obtain ⟨h1, h2⟩ := rec_one h
      have := recs_short f ((p :: r).drop (countN p.left))
      rw [List.length_drop, List.length_cons] at this
      rw [List.length_cons, List.length_cons]
      omega
    · have := recs_short f r
      rw [List.length_cons]
      omega
theorem recs_from : ∀ (f : Nat) (l : List PartV), ∀ x ∈ recs f l, ∃ p ∈ l, x.1 = p.number
  | 0, _, x, h => by simp [recs] at h
  | _ + 1, [], x, h => by simp [recs] at h
  | f + 1, p :: r, x, h => by
    rw [recs] at h
    split at h
    · rcases List.mem_cons.1 h with rfl | h
      · exact ⟨p, List.mem_cons_self .., rfl⟩
      · obtain ⟨q, hq, e⟩ := recs_from f _ x h
        exact ⟨q, List.mem_of_mem_drop hq, e⟩
    · obtain ⟨q, hq, e⟩ := recs_from f _ x h
      exact ⟨q, List.mem_cons_of_mem _ hq, e⟩
theorem addR_all : ∀ (l acc : List (Nat × Bs)), (l.foldl addR acc).length ≤ acc.length + l.length ∧ ∀ x ∈ l.foldl addR acc, x ∈ acc ∨ x ∈ l
  | [], acc => ⟨by simp, fun x h => .inl h⟩
  | y :: l, acc => by
    have ha : (addR acc y).length ≤ acc.length + 1 ∧ ∀ x ∈ addR acc y, x ∈ acc ∨ x = y := by
      unfold addR
      split
      · exact ⟨by omega, fun x h => .inl h⟩
      · exact ⟨by simp, fun x h => by simpa using h⟩
    obtain ⟨h1, h2⟩ := addR_all l (addR acc y)
    refine ⟨by rw [List.foldl_cons, List.length_cons]; omega, fun x hx => ?_⟩
    rcases h2 x hx with h | h
    · rcases ha.2 x h with h | rfl
      · exact .inl h
      · exact .inr (List.mem_cons_self ..)
    · exact .inr (List.mem_cons_of_mem _ h)
theorem found_short (l : List PartV) : (foundL l).length ≤ l.length := by
  have h1 := (addR_all (recL l) []).1
  have h2 := recs_short l.length l
  rw [List.length_nil] at h1
  unfold foundL
  have : (recL l).length ≤ l.length := h2
  omega
theorem fold_next : ∀ (l : List Bs) (o : OV), 1 ≤ o.next → o.next ≤ 4097 → 1 ≤ (l.foldl oStep o).next ∧ (l.foldl oStep o).next ≤ 4097
  | [], o, h1, h2 => ⟨h1, h2⟩
  | s :: l, o, h1, h2 => by
    have := (part_le s).2.1
    exact fold_next l (oStep o s) (by show 1 ≤ max _ _; omega) (by show max _ _ ≤ 4097; omega)
theorem fold_fin : ∀ (l : List Bs) (o : OV), o.fin ≤ o.k → (l.foldl oStep o).fin ≤ o.k + l.length
  | [], o, h => by simpa using h
  | s :: l, o, h => by
    have := fold_fin l (oStep o s) (by
      show (if blankB s = true then o.fin else o.k + 1) ≤ o.k + 1
      split
      · exact Nat.le_succ_of_le h
      · exact Nat.le_refl _)
    rw [List.foldl_cons, List.length_cons]
    have e : (oStep o s).k = o.k + 1 := rfl
    rw [e] at this
    omega
theorem fair_open {T : RSt} {c : Nat} (h1 : T.s.length ≤ c) (h2 : T.s.length ≤ 4096) : Fair (openT T) c := by
  have hl : (secsT T).length = T.s.length := rsecs_len T
  have hf := found_short ((secsT T).map unpackB)
  rw [List.length_map, hl] at hf
  have hn := fold_next (secsT T) ⟨0, 1, 0, []⟩ (Nat.le_refl _) (by decide)
  have he := fold_fin (secsT T) ⟨0, 1, 0, []⟩ (Nat.le_refl _)
  have hb := ovbad_le (secsT T) (by rw [hl]; exact h2)
  refine ⟨?_, Nat.le_trans hb (by decide), ?_, fun z hz => ?_, ?_, ?_, ?_, ?_⟩
  · show ((foundL _).map _).length ≤ c
    rw [List.length_map]; omega
  · show ((foundL _).map _).length ≤ c
    rw [List.length_map]; omega
  · obtain ⟨x, hx, rfl⟩ := List.mem_map.1 hz
    rcases (addR_all _ []).2 x hx with h | h
    · cases h
    · obtain ⟨p, hp, e⟩ := recs_from _ _ x h
      obtain ⟨s, -, rfl⟩ := List.mem_map.1 hp
      have := (part_le s).2.1
      omega
  · show (1 : Int) ≤ ((oFold (secsT T)).next : Int)
    have : 1 ≤ (oFold (secsT T)).next := hn.1
    omega
  · show ((oFold (secsT T)).next : Int) ≤ 4097
    have : (oFold (secsT T)).next ≤ 4097 := hn.2
    omega
  · show (0 : Int) ≤ ((oFold (secsT T)).fin : Int)
    omega
  · show ((oFold (secsT T)).fin : Int) ≤ 4096
    have : (oFold (secsT T)).fin ≤ 0 + (secsT T).length := he
    omega
theorem Fair.app {J : JV} {c : Nat} (h : Fair J c) (S : Dk.St) (t : Bs) (hl : S.bl.length ≤ 4096) : Fair (appR J S t).J (c + 1) := by
  have hn := h.n
  have ht := h.t
  have x1 := h.x1
  have f0 := h.f0
  have f1 := h.f1
  unfold appR
  split
  · exact ⟨by show J.nums.length ≤ _; omega, h.b, by show J.texts.length ≤ _; omega, h.z, h.x1, h.x2, h.f0, h.f1⟩
  split
  · exact ⟨by show J.nums.length ≤ _; omega, h.b, by show J.texts.length ≤ _; omega, h.z, h.x1, h.x2, h.f0, h.f1⟩
  rename_i hx
  have x2 : J.next ≤ 4096 := by omega
  split
  · exact ⟨by show J.nums.length ≤ _; omega, h.b, by show J.texts.length ≤ _; omega, h.z, h.x1, h.x2, h.f0, h.f1⟩
  have y1 : 1 ≤ J.next + 1 := by omega
  have y2 : J.next + 1 ≤ 4097 := by omega
  have y3 : 0 ≤ J.fin + (countN t.length : Int) := by omega
  have y4 : J.fin + (countN t.length : Int) ≤ 4096 := by omega
  split
  · exact ⟨by show J.nums.length ≤ _; omega, h.b, by show J.texts.length ≤ _; omega, h.z, y1, y2, y3, y4⟩
  split
  · exact ⟨by show J.nums.length ≤ _; omega, h.b, by show J.texts.length ≤ _; omega, h.z, y1, y2, y3, y4⟩
  refine ⟨by show (J.nums ++ [J.next]).length ≤ _; rw [List.length_append, List.length_singleton]; omega, h.b, by show (J.texts ++ [t]).length ≤ _; rw [List.length_append, List.length_singleton]; omega, fun z hz => ?_, y1, y2, y3, y4⟩
  have hz : z ∈ J.nums ++ [J.next] := hz
  rcases List.mem_append.1 hz with hz | hz
  · exact h.z z hz
  · rw [List.mem_singleton] at hz
    omega
theorem Fair.mono {J : JV} {c c' : Nat} (h : Fair J c) (hc : c ≤ c') : Fair J c' := ⟨Nat.le_trans h.n hc, h.b, Nat.le_trans h.t hc, h.z, h.x1, h.x2, h.f0, h.f1⟩

/-- two disks, the program's and the reference's, made behind w0 -/
structure Pair (w0 W : World) (g gb gp gw K r gs : Nat) (S : Dk.St) (T : RSt) : Prop where
  dd : DD w0 W g gb gp gw K S
  rf : RefAt W r gs T
  far : ∀ k, k ∈ [r, gs] → w0.heap.size ≤ k
  ap : ∀ k, k ∈ [g, gb, gp, gw] → k ∉ [r, gs]
def bP (j g gb gp gw : Nat) (vn vb vt : Value) : List Nat := j :: (ob vn ++ (ob vb ++ (ob vt ++ [g, gb, gp, gw])))
def bR (q r gs : Nat) (un ut ub : Value) : List Nat := q :: (ob un ++ (ob ut ++ (ob ub ++ [r, gs])))
structure Both (w0 W : World) (j g gb gp gw K q r gs : Nat) (vn vb vt un ut ub : Value) (J : JV) (S : Dk.St) (T : RSt) : Prop where
  jd : JD w0 W j g gb gp gw K vn vb vt J S
  rf : RefAt W r gs T
  rj : RJAt W q r un ut ub J
  far : ∀ k, k ∈ bR q r gs un ut ub → w0.heap.size ≤ k
  ap : ∀ k, k ∈ bP j g gb gp gw vn vb vt → k ∉ bR q r gs un ut ub
section
variable {w0 W W' : World} {j g gb gp gw K K' q r gs : Nat} {vn vb vt un ut ub vn' vt' un' ut' v : Value} {J J' : JV} {S S' : Dk.St} {T T' : RSt} {e : Ending} {F : List Nat}
theorem mem_bP {k : Nat} : k ∈ bP j g gb gp gw vn vb vt ↔ k = j ∨ vn.ownBlock = some k ∨ vb.ownBlock = some k ∨ vt.ownBlock = some k ∨ k ∈ [g, gb, gp, gw] := by
  unfold bP
  rw [List.mem_cons, List.mem_append, List.mem_append, List.mem_append, mem_ob, mem_ob, mem_ob]
theorem mem_bR {k : Nat} : k ∈ bR q r gs un ut ub ↔ k = q ∨ un.ownBlock = some k ∨ ut.ownBlock = some k ∨ ub.ownBlock = some k ∨ k ∈ [r, gs] := by
  unfold bR
  rw [List.mem_cons, List.mem_append, List.mem_append, List.mem_append, mem_ob, mem_ob, mem_ob]
theorem DD.lt (h : DD w0 W g gb gp gw K S) {k : Nat} (hk : k ∈ [g, gb, gp, gw]) : k < W.heap.size := by
  obtain ⟨l1, l2, l3, l4⟩ := h.disk.lt
  simp only [List.mem_cons, List.not_mem_nil, or_false] at hk
  omega
theorem ref_lt (h : RefAt W r gs T) {k : Nat} (hk : k ∈ [r, gs]) : k < W.heap.size := by
  obtain ⟨l1, l2⟩ := h.lt
  simp only [List.mem_cons, List.not_mem_nil, or_false] at hk
  omega
theorem JD.ltP (h : JD w0 W j g gb gp gw K vn vb vt J S) {k : Nat} (hk : k ∈ bP j g gb gp gw vn vb vt) : k < W.heap.size := by
  rcases mem_bP.1 hk with rfl | hk | hk | hk | hk
  · exact h.jat.head.lt
  · exact (h.jat.nums.lt k hk).2
  · exact (h.jat.bad.lt k hk).2
  · exact (h.jat.texts.lt k hk).2
  · exact h.dd.lt hk
theorem rj_lt (h : RJAt W q r un ut ub J) (hr : RefAt W r gs T) {k : Nat} (hk : k ∈ bR q r gs un ut ub) : k < W.heap.size := by
  rcases mem_bR.1 hk with rfl | hk | hk | hk | hk
  · exact h.head.lt
  · exact (h.nums.lt k hk).2
  · exact (h.texts.lt k hk).2
  · exact (h.bad.lt k hk).2
  · exact ref_lt hr hk
theorem JD.farP (h : JD w0 W j g gb gp gw K vn vb vt J S) {k : Nat} (hk : k ∈ bP j g gb gp gw vn vb vt) : w0.heap.size ≤ k := by
  rcases mem_bP.1 hk with rfl | hk | hk | hk | hk
  · exact h.j0
  · exact h.fn k hk
  · exact h.fb k hk
  · exact h.ft k hk
  · exact h.dd.four k hk
theorem DD.keepR (h : DD w0 W g gb gp gw K S) (hk : Keep F W W') (hF : ∀ k, k ∈ F → k ∉ [g, gb, gp, gw]) (hf : ∀ k, k ∈ F → w0.heap.size ≤ k) : DD w0 W' g gb gp gw K S :=
  ⟨h.disk.keep hk (fun k hk => by have h4 := hF k hk; simp only [List.mem_cons, List.not_mem_nil, or_false, not_or] at h4; exact h4), h.below.trans (hk.below h.below.size hf), h.g0, h.gb0, h.gp0, h.gw0, h.pend⟩
theorem JD.keepR (h : JD w0 W j g gb gp gw K vn vb vt J S) (hk : Keep F W W') (hF : ∀ k, k ∈ bP j g gb gp gw vn vb vt → k ∉ F) (hf : ∀ k, k ∈ F → w0.heap.size ≤ k) : JD w0 W' j g gb gp gw K vn vb vt J S :=
  ⟨h.dd.keepR hk (fun k hk h4 => hF k (mem_bP.2 (.inr (.inr (.inr (.inr h4))))) hk) hf,
   h.jat.keep hk (hF j (mem_bP.2 (.inl rfl))) (fun k hk => hF k (mem_bP.2 (.inr (.inl hk)))) (fun k hk => hF k (mem_bP.2 (.inr (.inr (.inl hk))))) (fun k hk => hF k (mem_bP.2 (.inr (.inr (.inr (.inl hk)))))), h.j0, h.fn, h.fb, h.ft⟩
theorem rj_keep (h : RJAt W q r un ut ub J) (hr : RefAt W r gs T) (hk : Keep F W W') (hF : ∀ k, k ∈ F → k ∉ bR q r gs un ut ub) : RJAt W' q r un ut ub J ∧ RefAt W' r gs T :=
  ⟨h.keep hk (fun hm => hF q hm (mem_bR.2 (.inl rfl))) (fun k hk hm => hF k hm (mem_bR.2 (.inr (.inl hk)))) (fun k hk hm => hF k hm (mem_bR.2 (.inr (.inr (.inl hk))))) (fun k hk hm => hF k hm (mem_bR.2 (.inr (.inr (.inr (.inl hk)))))),
   hr.keep hk (fun hm => hF r hm (mem_bR.2 (.inr (.inr (.inr (.inr (by simp))))))) (fun hm => hF gs hm (mem_bR.2 (.inr (.inr (.inr (.inr (by simp)))))))⟩
theorem Pair.go (h : Pair w0 W g gb gp gw K r gs S T) (hb : Below W.heap.size W W') : Pair w0 W' g gb gp gw K r gs S T := ⟨h.dd.go hb, ref_go h.rf hb, h.far, h.ap⟩
theorem Pair.mono (h : Pair w0 W g gb gp gw K r gs S T) (hK : K ≤ K') : Pair w0 W g gb gp gw K' r gs S T := ⟨h.dd.mono hK, h.rf, h.far, h.ap⟩
/-- the program's disk has changed -/
theorem Pair.disk (h : Pair w0 W g gb gp gw K r gs S T) (hp : Dk.DPost v g gb gp gw K' S' W e W') (hP : Dk.PendOK S') : e = .returned v ∧ Pair w0 W' g gb gp gw K' r gs S' T :=
  ⟨hp.1, ⟨hp.2.1, h.dd.below.trans (hp.2.2.below h.dd.below.size h.dd.four), h.dd.g0, h.dd.gb0, h.dd.gp0, h.dd.gw0, hP⟩, h.rf.keep hp.2.2 (fun hm => h.ap r hm (by simp)) (fun hm => h.ap gs hm (by simp)), h.far, h.ap⟩
/-- the reference's disk has changed -/
theorem Pair.rdisk (h : Pair w0 W g gb gp gw K r gs S T) (hp : RPost v r gs T' W e W') : e = .returned v ∧ Pair w0 W' g gb gp gw K r gs S T' :=
  ⟨hp.1, h.dd.keepR hp.2.2 (fun k hk h4 => h.ap k h4 hk) h.far, hp.2.1, h.far, h.ap⟩
theorem pair_new (h : DD w0 W g gb gp gw K S) (hr : RefAt W' r gs T) (hb : Below W.heap.size W W') (h1 : W.heap.size ≤ r) (h2 : W.heap.size ≤ gs) : Pair w0 W' g gb gp gw K r gs S T := by
  have hs := h.below.size
  refine ⟨h.go hb, hr, fun k hk => ?_, fun k hk hm => ?_⟩
  · simp only [List.mem_cons, List.not_mem_nil, or_false] at hk
    omega
  · have := h.lt hk
    simp only [List.mem_cons, List.not_mem_nil, or_false] at hm
    omega
theorem Both.pair (h : Both w0 W j g gb gp gw K q r gs vn vb vt un ut ub J S T) : Pair w0 W g gb gp gw K r gs S T :=
  ⟨h.jd.dd, h.rf, fun k hk => h.far k (mem_bR.2 (.inr (.inr (.inr (.inr hk))))), fun k hk hm => h.ap k (mem_bP.2 (.inr (.inr (.inr (.inr hk))))) (mem_bR.2 (.inr (.inr (.inr (.inr hm)))))⟩
theorem Both.go (h : Both w0 W j g gb gp gw K q r gs vn vb vt un ut ub J S T) (hb : Below W.heap.size W W') : Both w0 W' j g gb gp gw K q r gs vn vb vt un ut ub J S T := ⟨h.jd.go hb, ref_go h.rf hb, h.rj.below hb, h.far, h.ap⟩
theorem Both.mono (h : Both w0 W j g gb gp gw K q r gs vn vb vt un ut ub J S T) (hK : K ≤ K') : Both w0 W j g gb gp gw K' q r gs vn vb vt un ut ub J S T := ⟨h.jd.mono hK, h.rf, h.rj, h.far, h.ap⟩
theorem Both.disk (h : Both w0 W j g gb gp gw K q r gs vn vb vt un ut ub J S T) (hp : Dk.DPost v g gb gp gw K' S' W e W') (hP : Dk.PendOK S') : e = .returned v ∧ Both w0 W' j g gb gp gw K' q r gs vn vb vt un ut ub J S' T := by
  obtain ⟨h1, h2⟩ := rj_keep h.rj h.rf hp.2.2 (fun k hk => h.ap k (mem_bP.2 (.inr (.inr (.inr (.inr hk))))))
  exact ⟨hp.1, ⟨(h.pair.disk hp hP).2.dd, h.jd.jat.disk h.jd.dd.disk hp.2.2, h.jd.j0, h.jd.fn, h.jd.fb, h.jd.ft⟩, h2, h1, h.far, h.ap⟩
theorem Both.rdisk (h : Both w0 W j g gb gp gw K q r gs vn vb vt un ut ub J S T) (hp : RPost v r gs T' W e W') : e = .returned v ∧ Both w0 W' j g gb gp gw K q r gs vn vb vt un ut ub J S T' :=
  ⟨hp.1, h.jd.keepR hp.2.2 (fun k hk hm => h.ap k hk (mem_bR.2 (.inr (.inr (.inr (.inr hm)))))) (fun k hk => h.far k (mem_bR.2 (.inr (.inr (.inr (.inr hk)))))), hp.2.1, h.rj.disk h.rf hp.2.2, h.far, h.ap⟩
/-- the program's Append, and then the reference's -/
theorem Both.app (h : Both w0 W j g gb gp gw K q r gs vn vb vt un ut ub J S T) (hj : JD w0 W' j g gb gp gw K' vn' vb vt' J' S') (hk : Keep (j :: (ob vn ++ ob vt ++ [g, gb, gp, gw])) W W') (a1 : Aged W vn vn') (a2 : Aged W vt vt') :
    JD w0 W' j g gb gp gw K' vn' vb vt' J' S' ∧ RJAt W' q r un ut ub J ∧ RefAt W' r gs T ∧ ∀ k, k ∈ bP j g gb gp gw vn' vb vt' → k ∉ bR q r gs un ut ub := by
  obtain ⟨h1, h2⟩ := rj_keep h.rj h.rf hk (fun k hk => h.ap k (by
    rcases List.mem_cons.1 hk with rfl | hk
    · exact mem_bP.2 (.inl rfl)
    · rcases List.mem_append.1 hk with hk | hk
      · rcases List.mem_append.1 hk with hk | hk
        · exact mem_bP.2 (.inr (.inl (mem_ob.1 hk)))
        · exact mem_bP.2 (.inr (.inr (.inr (.inl (mem_ob.1 hk)))))
      · exact mem_bP.2 (.inr (.inr (.inr (.inr hk))))))
  refine ⟨hj, h1, h2, fun k hk hm => ?_⟩
  have hlt := rj_lt h.rj h.rf hm
  rcases mem_bP.1 hk with rfl | hk | hk | hk | hk
  · exact h.ap _ (mem_bP.2 (.inl rfl)) hm
  · rcases a1 k hk with e | e
    · exact h.ap k (mem_bP.2 (.inr (.inl e))) hm
    · omega
  · exact h.ap k (mem_bP.2 (.inr (.inr (.inl hk)))) hm
  · rcases a2 k hk with e | e
    · exact h.ap k (mem_bP.2 (.inr (.inr (.inr (.inl e))))) hm
    · omega
  · exact h.ap k (mem_bP.2 (.inr (.inr (.inr (.inr hk))))) hm
theorem both_rapp (h1 : JD w0 W j g gb gp gw K vn vb vt J' S) (h2 : RJAt W q r un ut ub J) (far : ∀ k, k ∈ bR q r gs un ut ub → w0.heap.size ≤ k) (ap : ∀ k, k ∈ bP j g gb gp gw vn vb vt → k ∉ bR q r gs un ut ub)
    (hj : RJAt W' q r un' ut' ub J') (hr : RefAt W' r gs T') (hk : Keep (q :: (obR un ++ obR ut ++ [r, gs])) W W') (a1 : Aged W un un') (a2 : Aged W ut ut') : Both w0 W' j g gb gp gw K q r gs vn vb vt un' ut' ub J' S T' := by
  have hin : ∀ k, k ∈ q :: (obR un ++ obR ut ++ [r, gs]) → k ∈ bR q r gs un ut ub := fun k hk => by
    rcases List.mem_cons.1 hk with rfl | hk
    · exact mem_bR.2 (.inl rfl)
    · rcases List.mem_append.1 hk with hk | hk
      · rcases List.mem_append.1 hk with hk | hk
        · exact mem_bR.2 (.inr (.inl (mem_obR.1 hk)))
        · exact mem_bR.2 (.inr (.inr (.inl (mem_obR.1 hk))))
      · exact mem_bR.2 (.inr (.inr (.inr (.inr hk))))
  have hs := h1.dd.below.size
  refine ⟨h1.keepR hk (fun k hp hm => ap k hp (hin k hm)) (fun k hm => far k (hin k hm)), hr, hj, fun k hm => ?_, fun k hp hm => ?_⟩
  · rcases mem_bR.1 hm with rfl | hm | hm | hm | hm
    · exact far _ (mem_bR.2 (.inl rfl))
    · rcases a1 k hm with e | e
      · exact far k (mem_bR.2 (.inr (.inl e)))
      · omega
    · rcases a2 k hm with e | e
      · exact far k (mem_bR.2 (.inr (.inr (.inl e))))
      · omega
    · exact far k (mem_bR.2 (.inr (.inr (.inr (.inl hm)))))
    · exact far k (mem_bR.2 (.inr (.inr (.inr (.inr hm)))))
  · have hlt := h1.ltP hp
    rcases mem_bR.1 hm with rfl | hm | hm | hm | hm
    · exact ap _ hp (mem_bR.2 (.inl rfl))
    · rcases a1 k hm with e | e
      · exact ap k hp (mem_bR.2 (.inr (.inl e)))
      · omega
    · rcases a2 k hm with e | e
      · exact ap k hp (mem_bR.2 (.inr (.inr (.inl e))))
      · omega
    · exact ap k hp (mem_bR.2 (.inr (.inr (.inr (.inl hm)))))
    · exact ap k hp (mem_bR.2 (.inr (.inr (.inr (.inr hm)))))
/-- the program's Open, and then the reference's -/
theorem Pair.open_ (h : Pair w0 W g gb gp gw K r gs S T) (hp : OpenPost W g S e W') (hc : Dk.checkE S 0 = 0) :
    ∃ j vn vb vt, e = .returned (.tuple #[.pointer (some ⟨j, 0, none⟩), .int .i64 0]) ∧ JD w0 W' j g gb gp gw K vn vb vt (openJ S) S ∧ RefAt W' r gs T ∧ ∀ k, k ∈ bP j g gb gp gw vn vb vt → k ∉ [r, gs] := by
  obtain ⟨hb, hp⟩ := hp
  rcases hp with ⟨hn, _⟩ | ⟨_, j, vn, vb, vt, rfl, hj, hj0, f1, f2, f3⟩
  · exact absurd hc hn
  · have hs := h.dd.below.size
    refine ⟨j, vn, vb, vt, rfl, ⟨h.dd.go hb, hj, Nat.le_trans hs hj0, fresh_older f1 hs, fresh_older f2 hs, fresh_older f3 hs⟩, ref_go h.rf hb, fun k hk hm => ?_⟩
    have hlt := ref_lt h.rf hm
    rcases mem_bP.1 hk with rfl | hk | hk | hk | hk
    · omega
    · have := f1 k hk; omega
    · have := f2 k hk; omega
    · have := f3 k hk; omega
    · exact h.ap k hk hm
theorem both_open (h1 : JD w0 W j g gb gp gw K vn vb vt J S) (hr : RefAt W r gs T) (far : ∀ k, k ∈ [r, gs] → w0.heap.size ≤ k) (ap : ∀ k, k ∈ bP j g gb gp gw vn vb vt → k ∉ [r, gs]) (hp : ROpenPost W r T e W') (ho : T.off = false) (hJ : openT T = J) :
    ∃ q un ut ub, e = .returned (.tuple #[.pointer (some ⟨q, 0, none⟩), .int .i64 0]) ∧ Both w0 W' j g gb gp gw K q r gs vn vb vt un ut ub J S T := by
  obtain ⟨hb, hp⟩ := hp
  rcases hp with ⟨hn, _⟩ | ⟨_, q, un, ut, ub, rfl, hj, hj0, f1, f2, f3⟩
  · rw [ho] at hn; cases hn
  · have hs := h1.dd.below.size
    refine ⟨q, un, ut, ub, rfl, h1.go hb, ref_go hr hb, by rw [← hJ]; exact hj, fun k hm => ?_, fun k hk hm => ?_⟩
    · rcases mem_bR.1 hm with rfl | hm | hm | hm | hm
      · omega
      · have := f1 k hm; omega
      · have := f2 k hm; omega
      · have := f3 k hm; omega
      · exact far k hm
    · have hlt := h1.ltP hk
      rcases mem_bR.1 hm with rfl | hm | hm | hm | hm
      · omega
      · have := f1 k hm; omega
      · have := f2 k hm; omega
      · have := f3 k hm; omega
      · exact ap k hk hm
end
end Go.Proofs.YtddpjahoeldleaaGreatDoor

/-! few and same. -/
namespace Go.Proofs.YtddpjahoeldleaaGreatDoor
open Go.RowKit Go.Maps
open Dk (RSt RefAt Sim RPost)

def fewB (os : List StepV) : Bool := os.all (fun o => decide (o.n ≤ 200)) && decide (os.length ≤ 30)
set_option maxHeartbeats 4000000 in
set_option maxRecDepth 100000 in
theorem few_any (A : Option Addr) (n c : Nat) (os : List StepV) (w : World) (h : Script w w.heap.size A n os) (hn : n ≤ 9223372036854775807) : Calls Tryz.prog 19 #[.slice A n c] w (RetB (.bool (fewB os)) w) := by
  have HS := Lib.hid h
  have HL := Lib.hid h.len
  clear h
  go_enter Tryz.func19, Tryz.ntmps19
  go_wp2_with fail
  go_loopw [7] (fun x wr => ∃ k : Nat, k ≤ n ∧ x = .int .i64 k ∧ Hid ((os.take k).all (fun o => decide (o.n ≤ 200)) = true) ∧ Hid (Below w.heap.size w wr)) (fun x _ => n - (intOf x).toNat)
  case atStart => exact ⟨0, by omega, rfl, Lib.hid rfl, Lib.hid (Below.refl _ _)⟩
  case round =>
    obtain ⟨k, hk, rfl, M, B⟩ := hrel
    by_cases hlt : k < n
    · obtain ⟨b, off, o, rfl, hbl, ho, x0, x1, x2, x3, x4, x5⟩ := rd_step (HS.out.keep (fun p hp => B.out.cell hp)) hlt
      have hkl : k < os.length := by rw [HL.out]; exact hlt
      have HT := Lib.hid (show os.take (k + 1) = os.take k ++ [o] by rw [List.take_succ_eq_append_getElem hkl, (Option.some.inj ((List.getElem?_eq_getElem hkl).symm.trans ho))])
      have HM := Lib.hid (List.mem_of_getElem? ho)
      obtain ⟨ok, hok⟩ : ∃ x, x = o.k := ⟨_, rfl⟩
      obtain ⟨oi, hoi⟩ : ∃ x, x = o.i := ⟨_, rfl⟩
      obtain ⟨ob_, hob⟩ : ∃ x, x = o.bit := ⟨_, rfl⟩
      obtain ⟨osz, hos⟩ : ∃ x, x = o.size := ⟨_, rfl⟩
      obtain ⟨of_, hof⟩ : ∃ x, x = o.fill := ⟨_, rfl⟩
      obtain ⟨oA, hoA⟩ : ∃ x, x = o.A := ⟨_, rfl⟩
      obtain ⟨on, hon⟩ : ∃ x, x = o.n := ⟨_, rfl⟩
      obtain ⟨oc, hoc⟩ : ∃ x, x = o.c := ⟨_, rfl⟩
      rw [← hok] at x0
      rw [← hoi] at x1
      rw [← hob] at x2
      rw [← hos] at x3
      rw [← hof] at x4
      rw [← hoA, ← hon, ← hoc] at x5
      have HON := Lib.hid (show o.n = on from hon.symm)
      clear hok hoi hob hos hof hoA hon hoc ho hbl hkl
      have j1 : (k : Int) < (n : Int) := by omega
      have j0 : (0 : Int) ≤ (k : Int) := by omega
      by_cases hb : 200 < on
      · have d1 : (200 : Int) < (on : Int) := by omega
        have HF := Lib.hid (show fewB os = false by
          unfold fewB
          rw [show os.all (fun o => decide (o.n ≤ 200)) = false from List.all_eq_false.2 ⟨o, HM.out, by rw [HON.out]; simpa using hb⟩]; rfl)
        go_wp2_with fail
        go_ret
        exact RetB.bool HF.out.symm (below_go B.out (below_new _ _))
      · have d1 : ¬ (200 : Int) < (on : Int) := by omega
        have M2 := Lib.hid (show (os.take (k + 1)).all (fun o => decide (o.n ≤ 200)) = true by
          rw [HT.out, List.all_append, M.out, Bool.true_and, List.all_cons, List.all_nil, Bool.and_true, HON.out]; exact decide_eq_true (by omega))
        go_wp2_with fail
        go_roundw
        case rel => exact ⟨k + 1, by omega, by go_num, M2, Lib.hid (below_go B.out (below_new _ _))⟩
        case measure => simp [intOf]; omega
    · obtain rfl : k = n := by omega
      have HF := Lib.hid (show fewB os = decide (k ≤ 30) by
        have := M.out
        rw [List.take_of_length_le (by rw [HL.out]; exact Nat.le_refl _)] at this
        unfold fewB
        rw [this, HL.out]; rfl)
      by_cases h30 : k ≤ 30
      · have d1 : (k : Int) ≤ 30 := by omega
        have HG := Lib.hid (HF.out.trans (decide_eq_true h30))
        go_wp2_with fail
        go_ret
        exact RetB.bool HG.out.symm B.out
      · have d1 : ¬ (k : Int) ≤ 30 := by omega
        have HG := Lib.hid (HF.out.trans (decide_eq_false h30))
        go_wp2_with fail
        go_ret
        exact RetB.bool HG.out.symm B.out

theorem hcell_b {w W W' : World} {a : Addr} {v : Value} (hb : Below W.heap.size W W') (hl : a.block < w.heap.size) (h0 : Hid (Below w.heap.size w W)) (h : W.cell? a = some v) : W'.cell? a = some v := (hb.cell (p := a) (Nat.lt_of_lt_of_le hl h0.out.size)).trans h
theorem far_b {w W W' : World} (hb : Below W.heap.size W W') (h0 : Hid (Below w.heap.size w W)) : Hid (Below w.heap.size w W') := Lib.hid (below_go h0.out hb)
set_option maxHeartbeats 8000000 in
set_option maxRecDepth 100000 in
theorem same_any (w : World) (j g gb gp gw K q r gs : Nat) (vn vb vt un ut ub : Value) (J : JV) (S : Dk.St) (T : RSt) (c : Nat) (hJ : JAt w j g vn vb vt J) (hd : Dk.DiskAt w g gb gp gw K S) (hR : RJAt w q r un ut ub J) (hr : RefAt w r gs T) (hl : T.s.length = S.bl.length) (hF : Fair J c) (hc : c ≤ 90000) :
    Calls Tryz.prog 23 #[.pointer (some ⟨j, 0, none⟩), .pointer (some ⟨q, 0, none⟩)] w (RetB (.bool true) w) := by
  obtain ⟨-, r1, r2, r3, r4, -, -⟩ := hR.cells
  have hql := hR.head.lt
  obtain ⟨M, hM⟩ : ∃ M : Nat, J.next = (M : Int) + 1 := ⟨(J.next - 1).toNat, by have := hF.x1; omega⟩
  have hn := hF.n
  have hb := hF.b
  have ht := hF.t
  have x2 := hF.x2
  have hz := hF.z
  have f0 := hF.f0
  have f1 := hF.f1
  obtain ⟨An, cn, rfl, -⟩ := own_slice hR.nums
  obtain ⟨At, ct, rfl, -⟩ := own_slice hR.texts
  obtain ⟨Ab, cb, rfl, -⟩ := own_slice hR.bad
  obtain ⟨a, ha⟩ : ∃ a, a = J.nums.length := ⟨_, rfl⟩
  obtain ⟨b, hb_⟩ : ∃ b, b = J.bad.length := ⟨_, rfl⟩
  obtain ⟨d, hd_⟩ : ∃ d, d = J.texts.length := ⟨_, rfl⟩
  obtain ⟨x, hx⟩ : ∃ x, x = J.next := ⟨_, rfl⟩
  obtain ⟨f, hf⟩ : ∃ f, f = (S.bl.length : Int) - J.fin := ⟨_, rfl⟩
  obtain ⟨m, hm⟩ : ∃ m, m = (lostL J.nums M).length := ⟨_, rfl⟩
  have C1 := Lib.hid (show ∀ W, Hid (Below w.heap.size w W) → Calls Tryz.prog 42 #[.pointer (some ⟨j, 0, none⟩)] W (OwnPost W.heap.size 3 1 a (intCells J.nums) W) from fun W h => by
    rw [ha]; exact numbers_any W j g vn vb vt J (hJ.below h.out) (by omega))
  have C2 := Lib.hid (show ∀ W, Hid (Below w.heap.size w W) → ∀ A c', W.ownsRow 0 3 1 (.slice A a c') a (intCells J.nums) → Calls Tryz.prog 36 #[.slice A a c', .slice An a cn] W (RetB (.bool true) W) from fun W h A c' o =>
    sameInts_any A An a a c' cn J.nums J.nums W (Rd.of_own o) (by have := Rd.of_own (hR.below h.out).nums; rwa [← ha] at this) rfl (by omega))
  have C3 := Lib.hid (show ∀ W, Hid (Below w.heap.size w W) → Calls Tryz.prog 11 #[.pointer (some ⟨j, 0, none⟩)] W (OwnPost W.heap.size 9 1 d (strCells J.texts) W) from fun W h => by
    rw [hd_]; exact jtexts_any W j g vn vb vt J (hJ.below h.out) (by omega))
  have C4 := Lib.hid (show ∀ W, Hid (Below w.heap.size w W) → ∀ A c', W.ownsRow 0 9 1 (.slice A d c') d (strCells J.texts) → Calls Tryz.prog 10 #[.slice A d c', .slice At d ct] W (RetB (.bool true) W) from fun W h A c' o =>
    sameTexts_any A At d d c' ct J.texts J.texts W (Rd.of_own o) (by have := Rd.of_own (hR.below h.out).texts; rwa [← hd_] at this) hd_.symm hd_.symm (by omega) true (Lib.hid (decide_eq_true rfl)))
  have C5 := Lib.hid (show ∀ W, Hid (Below w.heap.size w W) → Calls Tryz.prog 12 #[.pointer (some ⟨j, 0, none⟩)] W (OwnPost W.heap.size 3 1 m (intCells (lostL J.nums M)) W) from fun W h => by
    rw [hm]; exact damaged_any W j g vn vb vt J (hJ.below h.out) (by omega) (fun z hz' => by have := hz z hz'; omega) M hM (by omega))
  have C6 := Lib.hid (show ∀ W, Hid (Below w.heap.size w W) → Calls Tryz.prog 59 #[.pointer (some ⟨q, 0, none⟩)] W (OwnPost W.heap.size 3 1 m (intCells (lostL J.nums M)) W) from fun W h => by
    rw [hm]; exact rdamaged_any W q r _ _ _ J (hR.below h.out) (by omega) M hM (by omega))
  have C7 := Lib.hid (show ∀ W, Hid (Below w.heap.size w W) → ∀ A A' c' c'', W.ownsRow 0 3 1 (.slice A m c') m (intCells (lostL J.nums M)) → W.ownsRow 0 3 1 (.slice A' m c'') m (intCells (lostL J.nums M)) → Calls Tryz.prog 36 #[.slice A m c', .slice A' m c''] W (RetB (.bool true) W) from fun W h A A' c' c'' o o' =>
    sameInts_any A A' m m c' c'' _ _ W (Rd.of_own o) (Rd.of_own o') rfl (by have := lost_len J.nums M; omega))
  have C8 := Lib.hid (show ∀ W, Hid (Below w.heap.size w W) → Calls Tryz.prog 35 #[.pointer (some ⟨j, 0, none⟩)] W (OwnPost W.heap.size 3 1 b (intCells J.bad) W) from fun W h => by
    rw [hb_]; exact bad_any W j g vn vb vt J (hJ.below h.out) (by omega))
  have C9 := Lib.hid (show ∀ W, Hid (Below w.heap.size w W) → ∀ A c', W.ownsRow 0 3 1 (.slice A b c') b (intCells J.bad) → Calls Tryz.prog 36 #[.slice A b c', .slice Ab b cb] W (RetB (.bool true) W) from fun W h A c' o =>
    sameInts_any A Ab b b c' cb J.bad J.bad W (Rd.of_own o) (by have := Rd.of_own (hR.below h.out).bad; rwa [← hb_] at this) rfl (by omega))
  have C10 := Lib.hid (show ∀ W, Hid (Below w.heap.size w W) → Calls Tryz.prog 37 #[.pointer (some ⟨j, 0, none⟩)] W (Ret (.int .i64 x) W) from fun W h => by
    rw [hx]; exact next_any W j g vn vb vt J (hJ.below h.out))
  have C11 := Lib.hid (show ∀ W, Hid (Below w.heap.size w W) → Calls Tryz.prog 38 #[.pointer (some ⟨j, 0, none⟩)] W (RetB (.int .i64 f) W) from fun W h => by
    rw [hf]; exact room_any W j g vn vb vt J (hJ.below h.out) (hd.below h.out) f0 f1)
  have C12 := Lib.hid (show ∀ W, Hid (Below w.heap.size w W) → Calls Tryz.prog 60 #[.pointer (some ⟨q, 0, none⟩)] W (RetB (.int .i64 f) W) from fun W h => by
    rw [hf, ← hl]; exact rroom_any W q r gs _ _ _ J T (hR.below h.out) (ref_go hr h.out) f0 f1)
  rw [← ha] at r1
  rw [← hd_] at r2
  rw [← hb_] at r3
  rw [← hx] at r4
  clear ha hb_ hd_ hx hf hm hM hn hb ht x2 hz f0 f1 hF hJ hd hR hr hl hc
  go_enter Tryz.func23, Tryz.ntmps23
  go_wp2_with fail
  have y0 : Hid (Below w.heap.size w w.drew) := Lib.hid (Below.refl _ _).drew
  go_region_held3 (fun W => W.cell? ⟨q, 1, none⟩ = some (.slice An a cn) ∧ W.cell? ⟨q, 2, none⟩ = some (.slice At d ct) ∧ W.cell? ⟨q, 3, none⟩ = some (.slice Ab b cb) ∧ W.cell? ⟨q, 4, none⟩ = some (.int .i64 x) ∧ Hid (Below w.heap.size w W))
    (first | (go_split_ands; exact ⟨hcell_b bn hql (by assumption) (by assumption), hcell_b bn hql (by assumption) (by assumption), hcell_b bn hql (by assumption) (by assumption), hcell_b bn hql (by assumption) (by assumption), far_b bn (by assumption)⟩) | exact ⟨r1, r2, r3, r4, y0⟩ | (go_split_ands; refine ⟨?_, ?_, ?_, ?_, ?_⟩ <;> assumption) | go_keep)
    (first
      | (go_at_call 42; go_split_ands; (with_reducible refine (C1.out _ (by assumption)).mono ?_); rintro e wn ⟨vN, rfl, ow, bn⟩; obtain ⟨AN, cN, rfl, -⟩ := own_slice ow; have oN := own_weak ow; clear ow)
      | (go_at_call 11; go_split_ands; (with_reducible refine (C3.out _ (by assumption)).mono ?_); rintro e wn ⟨vT, rfl, ow, bn⟩; obtain ⟨AT, cT, rfl, -⟩ := own_slice ow; have oT := own_weak ow; clear ow)
      | (go_at_call 10; go_split_ands; (with_reducible refine (C4.out _ (by assumption) _ _ oT).mono ?_); rintro e wn ⟨rfl, bn⟩)
      | (go_at_call 12; go_split_ands; (with_reducible refine (C5.out _ (by assumption)).mono ?_); rintro e wn ⟨vD, rfl, ow, bn⟩; obtain ⟨AD, cD, rfl, -⟩ := own_slice ow; have oD := own_weak ow; clear ow)
      | (go_at_call 59; go_split_ands; (with_reducible refine (C6.out _ (by assumption)).mono ?_); rintro e wn ⟨vE, rfl, ow, bn⟩; obtain ⟨AE, cE, rfl, -⟩ := own_slice ow; have oE := own_weak ow; have oF := own_below oD bn; clear ow)
      | (go_at_call 35; go_split_ands; (with_reducible refine (C8.out _ (by assumption)).mono ?_); rintro e wn ⟨vB, rfl, ow, bn⟩; obtain ⟨AB, cB, rfl, -⟩ := own_slice ow; have oB := own_weak ow; clear ow)
      | (go_at_call 36; go_split_ands; first | ((with_reducible refine (C2.out _ (by assumption) _ _ oN).mono ?_); rintro e wn ⟨rfl, bn⟩) | ((with_reducible refine (C7.out _ (by assumption) _ _ _ _ oF oE).mono ?_); rintro e wn ⟨rfl, bn⟩) | ((with_reducible refine (C9.out _ (by assumption) _ _ oB).mono ?_); rintro e wn ⟨rfl, bn⟩))
      | (go_at_call 37; go_split_ands; (with_reducible refine (C10.out _ (by assumption)).mono ?_); rintro e wn ⟨rfl, rfl⟩)
      | (go_at_call 38; go_split_ands; (with_reducible refine (C11.out _ (by assumption)).mono ?_); rintro e wn ⟨rfl, bn⟩)
      | (go_at_call 60; go_split_ands; (with_reducible refine (C12.out _ (by assumption)).mono ?_); rintro e wn ⟨rfl, bn⟩))
  go_split_ands
  have HB : Hid (Below w.heap.size w wn) := by assumption
  go_wp2_with fail
  go_ret
  exact ⟨rfl, HB.out⟩
end Go.Proofs.YtddpjahoeldleaaGreatDoor
