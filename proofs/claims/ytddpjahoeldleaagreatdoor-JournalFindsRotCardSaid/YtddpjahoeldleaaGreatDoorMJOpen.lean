/- Contract of Open. -/
import Derived.Test.YtddpjahoeldleaaGreatDoorMJAppend
import Derived.Test.YtddpjahoeldleaaGreatDoorMJVal
import Derived.Test.YtddpjahoeldleaaGreatDoorMJReg

namespace Go.Proofs.YtddpjahoeldleaaGreatDoor
open Go.RowKit Go.Maps

def fresh (w : World) (v : Value) : Prop := ∀ k, v.ownBlock = some k → w.heap.size ≤ k
def OpenPost (w : World) (g : Nat) (S : Dk.St) : Ending → World → Prop := fun e w' => Below w.heap.size w w' ∧
  ((Dk.checkE S 0 ≠ 0 ∧ e = .returned (.tuple #[.pointer none, .int .i64 (Dk.checkE S 0)])) ∨
   (Dk.checkE S 0 = 0 ∧ ∃ j vn vb vt, e = .returned (.tuple #[.pointer (some ⟨j, 0, none⟩), .int .i64 0]) ∧ JAt w' j g vn vb vt (openJ S) ∧ w.heap.size ≤ j ∧ fresh w vn ∧ fresh w vb ∧ fresh w vt))
theorem check_all (S : Dk.St) {k : Nat} (hk : k < S.bl.length) : Dk.checkE S (k : Int) = Dk.checkE S 0 := by
  unfold Dk.checkE
  rw [if_pos (show (0 : Int) ≤ (k : Int) ∧ (k : Int) < S.bl.length by omega), if_pos (show (0 : Int) ≤ 0 ∧ (0 : Int) < S.bl.length by omega)]
theorem read_len {w : World} {g gb gp gw K : Nat} {S : Dk.St} (h : Dk.DiskAt w g gb gp gw K S) {k : Nat} (hk : k < S.bl.length) (hc : Dk.checkE S 0 = 0) : (Dk.readB S (k : Int)).length = 64 := by
  have hn2 := h.n2
  unfold Dk.readB
  rw [if_neg (by rw [check_all S hk, hc]; exact fun e => e rfl)]
  split
  · exact (Dk.look_pend h.pend (by omega) (by omega)).1
  · rw [Int.toNat_natCast, List.getD_eq_getElem?_getD, List.getElem?_eq_getElem hk, Option.getD_some]
    exact h.b64 _ (List.getElem_mem hk)
theorem secs_take (S : Dk.St) {k : Nat} (hk : k < S.bl.length) : (secsB S).take (k + 1) = (secsB S).take k ++ [Dk.readB S (k : Int)] := by
  have hl : k < (secsB S).length := by simpa [secsB] using hk
  rw [take_snoc hl]
  simp [secsB]
theorem ovJ_bad (o : OV) (k : Nat) : (o.bad ++ [k]).map (fun k : Nat => (k : Int)) = (ovJ o).bad ++ [(k : Int)] := by simp [ovJ]
theorem part_good (s : Bs) : PG (unpackB s) := by
  unfold PG unpackB
  split
  · rename_i h
    have := h.2
    unfold goodB at this
    simp only [Bool.and_eq_true, decide_eq_true_eq] at this
    exact ⟨this.2.2.2.1, this.2.2.1, by simp only [List.length_take]; omega⟩
  · exact ⟨by decide, by decide, by decide⟩

theorem infoJpartb : (Tryz.prog.info? 80).map (fun i => (i.zero, i.size, i.bytes)) = some (some (.agg #[.int .i64 0, .int .i64 0, .int .i64 0, .string ⟨#[]⟩, .bool false]), 5, 48) := by kernel_rfl
/-- where the first loop stands -/
structure L1 (w : World) (g : Nat) (S : Dk.St) (wr : World) (k : Nat) (A : Option Addr) (c : Nat) (vb : Value) : Prop where
  below : Below w.heap.size w wr
  jat : JAt wr w.heap.size g (.slice none 0 0) vb (.slice none 0 0) (ovJ (oFold ((secsB S).take k)))
  row : wr.ownsRow w.heap.size 80 5 (.slice A k c) k (partCells (((secsB S).take k).map unpackB))
  bad : wr.ownsRow w.heap.size 3 1 vb (ovJ (oFold ((secsB S).take k))).bad.length (intCells (ovJ (oFold ((secsB S).take k))).bad)
theorem row_neb {w : World} {j : Nat} {base : Nat} {e : TypeId} {v : Value} {n : Nat} {xs : List Value} {sz : Nat} {cs : Array Value} (hj : Blk w j 75 cs) (h : w.ownsRow base e sz v n xs) (he : e ≠ 75) : ∀ k, v.ownBlock = some k → k ∉ [j] := fun k hk hm => by
  obtain ⟨cs, fr, hb⟩ := own_block h hk
  rw [List.mem_singleton] at hm
  subst hm
  have := hj
  unfold Blk at this
  rw [hb] at this
  injection this with this
  injection this with _ this
  exact he this
theorem L1.grow {w : World} {g : Nat} {S : Dk.St} {wr : World} {k : Nat} {A : Option Addr} {c : Nat} {vb : Value} (H : L1 w g S wr k A c vb) {X w5 : World} (hX : Below wr.heap.size wr X) (hg : X.grownBy w5 (Value.slice A k c).ownBlock) :
    JAt w5 w.heap.size g (.slice none 0 0) vb (.slice none 0 0) (ovJ (oFold ((secsB S).take k))) ∧ Below w.heap.size w w5 ∧ Keep (ob (.slice A k c)) wr w5 := by
  have hk : Keep (ob (.slice A k c)) wr w5 := ⟨hg.os.trans hX.os, hg.tape.trans hX.tape, hg.output.trans hX.output, Nat.le_trans hX.size hg.size, fun i hi hF => (hg.block i (Nat.lt_of_lt_of_le hi hX.size) (fun e => hF (mem_ob.2 e.symm))).trans (hX.block i hi)⟩
  have hn : w.heap.size ∉ ob (.slice A k c) := fun hm => row_neb H.jat.head H.row (by decide) _ (mem_ob.1 hm) (List.mem_cons_self ..)
  refine ⟨H.jat.keep hk hn (fun i hi => by simp [Value.ownBlock] at hi) (fun i hi => types_ne H.jat.bad H.row (by decide) i hi) (fun i hi => by simp [Value.ownBlock] at hi), ?_, hk⟩
  refine H.below.trans (hk.below (Nat.le_trans (Nat.le_refl _) H.below.size) fun i hi => ?_)
  exact (H.row.lt i (mem_ob.1 hi)).1
theorem own_weak {w : World} {base : Nat} {e : TypeId} {s : Nat} {v : Value} {n : Nat} {xs : List Value} (h : w.ownsRow base e s v n xs) : w.ownsRow 0 e s v n xs := by
  refine ⟨h.1, ?_⟩
  rcases h.2 with hn | ⟨g, cap, cur, rfl, hb, hg, rest⟩
  · exact .inl hn
  · exact .inr ⟨g, cap, cur, rfl, Nat.zero_le _, hg, rest⟩
theorem blk_ne {w : World} {b : Nat} {T : TypeId} {cs : Array Value} {base : Nat} {e : TypeId} {sz : Nat} {v : Value} {n : Nat} {xs : List Value} (hb : Blk w b T cs) (h : w.ownsRow base e sz v n xs) (he : e ≠ T) : b ∉ ob v := fun hm => by
  obtain ⟨c2, fr, h2⟩ := own_block h (mem_ob.1 hm)
  unfold Blk at hb
  rw [hb] at h2
  injection h2 with h2
  injection h2 with _ h2
  exact he h2.symm
theorem keep_grow {X0 X w8 : World} {v : Value} (hX : Below X0.heap.size X0 X) (hg : X.grownBy w8 v.ownBlock) : Keep (ob v) X0 w8 :=
  ⟨hg.os.trans hX.os, hg.tape.trans hX.tape, hg.output.trans hX.output, Nat.le_trans hX.size hg.size, fun i hi hF => (hg.block i (Nat.lt_of_lt_of_le hi hX.size) (fun e => hF (mem_ob.2 e.symm))).trans (hX.block i hi)⟩
theorem keep_set (w : World) (j i : Nat) (u : Value) : Keep [j] w (w.setCell ⟨j, i, none⟩ u) := (Keep.refl _ _).setCell (a := ⟨j, i, none⟩) (by simp) u
/-- the list of bad sectors has grown -/
theorem bad_done {X0 w8 : World} {j g base : Nat} {vb v8 : Value} {J : JV} {z : Int} (h : JAt X0 j g (.slice none 0 0) vb (.slice none 0 0) J) (hn : J.nums = []) (ht : J.texts = []) (hk : Keep (ob vb) X0 w8) (o8 : w8.ownsRow base 3 1 v8 (J.bad.length + 1) (intCells (J.bad ++ [z]))) :
    JAt (w8.setCell ⟨j, 2, none⟩ v8) j g (.slice none 0 0) v8 (.slice none 0 0) { J with bad := J.bad ++ [z] } ∧ (w8.setCell ⟨j, 2, none⟩ v8).ownsRow base 3 1 v8 (J.bad.length + 1) (intCells (J.bad ++ [z])) := by
  have hb : Blk w8 j 75 _ := (hk.block j h.head.lt (blk_ne h.head h.bad (by decide))).trans h.head
  have ho : (w8.setCell ⟨j, 2, none⟩ v8).ownsRow base 3 1 v8 (J.bad.length + 1) (intCells (J.bad ++ [z])) := own_keepF o8 (keep_set _ _ _ _) (row_neb hb o8 (by decide))
  refine ⟨⟨hb.set_ 2 v8, ?_, ?_, ?_, fun k hk => by simp [Value.ownBlock] at hk⟩, ho⟩
  · rw [hn]; exact World.ownsRow_nil _ _ _ _
  · have := own_weak ho
    rwa [show J.bad.length + 1 = (J.bad ++ [z]).length by simp] at this
  · rw [ht]; exact World.ownsRow_nil _ _ _ _
/-- a round's end -/
theorem L1.next {w : World} {g : Nat} {S : Dk.St} {X : World} {k : Nat} {A : Option Addr} {c : Nat} {vb : Value} {b : Bs} {J : JV} (hb : Below w.heap.size w X) (hJ : JAt X w.heap.size g (.slice none 0 0) vb (.slice none 0 0) J)
    (hr : X.ownsRow w.heap.size 80 5 (.slice A (k + 1) c) (k + 1) (partCells (((secsB S).take (k + 1)).map unpackB))) (hbad : X.ownsRow w.heap.size 3 1 vb J.bad.length (intCells J.bad)) (htk : (secsB S).take (k + 1) = (secsB S).take k ++ [b])
    (z : Int) (hJo : { J with next := z } = ovJ (oStep (oFold ((secsB S).take k)) b)) :
    L1 w g S ((X.setCell ⟨w.heap.size, 4, none⟩ (.int .i64 z)).drew) (k + 1) A c vb := by
  have e : oFold ((secsB S).take (k + 1)) = oStep (oFold ((secsB S).take k)) b := by rw [htk, oFold_snoc]
  have hk := keep_set X w.heap.size 4 (.int .i64 z)
  have h1 := hJ.set_ 4 (.int .i64 z) (J' := { J with next := z }) rfl rfl rfl rfl
  have hd : Below (X.setCell ⟨w.heap.size, 4, none⟩ (.int .i64 z)).heap.size (X.setCell ⟨w.heap.size, 4, none⟩ (.int .i64 z)) ((X.setCell ⟨w.heap.size, 4, none⟩ (.int .i64 z)).drew) := below_drewN' (Below.refl _ _) 1
  refine ⟨hb.trans ((hk.drew).below hb.size (fun i hi => by rw [List.mem_singleton] at hi; omega)), ?_, own_below (own_keepF hr hk (row_neb hJ.head hr (by decide))) hd, ?_⟩
  · rw [e, ← hJo]; exact h1.below hd
  · rw [e, ← hJo]; exact own_below (own_keepF hbad hk (row_neb hJ.head hbad (by decide))) hd
theorem step_blank {o : OV} {b : Bs} {M : Nat} (hb : blankB b = true) (hM : (unpackB b).number = M) (z : Int) (hz : z = ((max o.next (M + 1) : Nat) : Int)) : { ovJ o with next := z } = ovJ (oStep o b) := by
  simp [ovJ, oStep, hb, hM, hz]
theorem step_good {o : OV} {b : Bs} {M k : Nat} (hk : o.k = k) (hb : blankB b = false) (ho : (unpackB b).ok = true) (hM : (unpackB b).number = M) (z : Int) (hz : z = ((max o.next (M + 1) : Nat) : Int)) : { ovJ o with fin := (k : Int) + 1, next := z } = ovJ (oStep o b) := by
  simp [ovJ, oStep, hb, hM, hz, ho, hk]
theorem step_bad {o : OV} {b : Bs} {M k : Nat} (hk : o.k = k) (hb : blankB b = false) (ho : (unpackB b).ok = false) (hM : (unpackB b).number = M) (z : Int) (hz : z = ((max o.next (M + 1) : Nat) : Int)) : { ovJ o with fin := (k : Int) + 1, bad := (ovJ o).bad ++ [(k : Int)], next := z } = ovJ (oStep o b) := by
  simp [ovJ, oStep, hb, hM, hz, ho, hk]
theorem oFold_bad : ∀ (l : List Bs) (o : OV), (l.foldl oStep o).bad.length ≤ o.bad.length + l.length
  | [], _ => Nat.le_refl _
  | s :: l, o => by
    have h := oFold_bad l (oStep o s)
    rw [List.foldl_cons, List.length_cons]
    have h2 : (oStep o s).bad.length ≤ o.bad.length + 1 := by
      unfold oStep
      simp only []
      split
      · omega
      · rw [List.length_append, List.length_singleton]; exact Nat.le_refl _
    omega
theorem bad_len (S : Dk.St) (k : Nat) (hn : S.bl.length ≤ 4096) : (ovJ (oFold ((secsB S).take k))).bad.length ≤ 4096 := by
  have h := oFold_bad ((secsB S).take k) ⟨0, 1, 0, []⟩
  have h2 : ((secsB S).take k).length ≤ 4096 := by rw [List.length_take]; simp [secsB]; omega
  rw [ovJ, List.length_map]
  rw [List.length_nil] at h
  exact Nat.le_trans h (by omega)
theorem secs_len (S : Dk.St) : (secsB S).length = S.bl.length := by simp [secsB]
/-- where the second loop stands -/
structure L2 (w : World) (g n : Nat) (O : JV) (ps : List PartV) (wr : World) (k : Nat) (A : Option Addr) (c : Nat) (acc : List (Nat × Bs)) (vn vb vt : Value) : Prop where
  below : Below w.heap.size w wr
  jat : JAt wr w.heap.size g vn vb vt (addJ O acc)
  row : wr.ownsRow w.heap.size 80 5 (.slice A n c) n (partCells ps)
  found : foundL ps = (recL (ps.drop k)).foldl addR acc
  len : acc.length ≤ k
  fn : fresh w vn
  ft : fresh w vt
section
variable {w wr wr' : World} {g n : Nat} {O : JV} {ps : List PartV} {k : Nat} {A : Option Addr} {c : Nat} {acc : List (Nat × Bs)} {vn vb vt : Value}
theorem L2.go (h : L2 w g n O ps wr k A c acc vn vb vt) (hb : Below wr.heap.size wr wr') : L2 w g n O ps wr' k A c acc vn vb vt :=
  ⟨h.below.trans (hb.mono h.below.size), h.jat.below hb, own_below h.row hb, h.found, h.len, h.fn, h.ft⟩
theorem drop_cons {p : PartV} (hp : ps[k]? = some p) : ps.drop k = p :: ps.drop (k + 1) := by
  obtain ⟨hk, rfl⟩ := List.getElem?_eq_some_iff.1 hp
  exact List.drop_eq_getElem_cons hk
theorem L2.skip (h : L2 w g n O ps wr k A c acc vn vb vt) {p : PartV} (hp : ps[k]? = some p) (hr : ¬ recOK (ps.drop k) = true) : L2 w g n O ps wr (k + 1) A c acc vn vb vt := by
  refine ⟨h.below, h.jat, h.row, ?_, by have := h.len; omega, h.fn, h.ft⟩
  rw [h.found]
  rw [drop_cons hp] at hr ⊢
  rw [recL_no hr]
theorem mem_nums {N : Nat} (acc : List (Nat × Bs)) : ((N : Int) ∈ (addJ O acc).nums) = (N ∈ acc.map Prod.fst) := by
  refine propext ⟨fun h => ?_, fun h => ?_⟩
  · obtain ⟨x, hx, e⟩ := List.mem_map.1 h
    have : x.1 = N := by omega
    exact List.mem_map.2 ⟨x, hx, this⟩
  · obtain ⟨x, hx, e⟩ := List.mem_map.1 h
    exact List.mem_map.2 ⟨x, hx, by rw [e]⟩
theorem L2.seen (h : L2 w g n O ps wr k A c acc vn vb vt) {p : PartV} (hp : ps[k]? = some p) (hr : recOK (ps.drop k) = true) (hm : p.number ∈ acc.map Prod.fst) : L2 w g n O ps wr (k + countN p.left) A c acc vn vb vt := by
  refine ⟨h.below, h.jat, h.row, ?_, by have := h.len; omega, h.fn, h.ft⟩
  rw [h.found]
  rw [drop_cons hp] at hr
  rw [show (ps.drop k) = p :: ps.drop (k + 1) from drop_cons hp, recL_yes hr, List.foldl_cons, addR, if_pos hm, ← drop_cons hp, List.drop_drop]
theorem L2.add (h : L2 w g n O ps wr k A c acc vn vb vt) {p : PartV} (hp : ps[k]? = some p) (hr : recOK (ps.drop k) = true) (hm : p.number ∉ acc.map Prod.fst) {T : Bs} (hT : T = recT (ps.drop k) (countN p.left)) {vn' vt' : Value}
    (hb : Below w.heap.size w wr') (hj : JAt wr' w.heap.size g vn' vb vt' { addJ O acc with nums := (addJ O acc).nums ++ [(p.number : Int)], texts := (addJ O acc).texts ++ [T] }) (ho : wr'.ownsRow w.heap.size 80 5 (.slice A n c) n (partCells ps)) (f1 : fresh w vn') (f2 : fresh w vt') :
    L2 w g n O ps wr' (k + countN p.left) A c (acc ++ [(p.number, T)]) vn' vb vt' := by
  have hp1 : 1 ≤ countN p.left := by rw [drop_cons hp] at hr; exact (rec_one hr).1
  refine ⟨hb, ?_, ho, ?_, ?_, f1, f2⟩
  · simpa [addJ] using hj
  · rw [h.found]
    rw [drop_cons hp] at hr
    rw [hT, show (ps.drop k) = p :: ps.drop (k + 1) from drop_cons hp, recL_yes hr, List.foldl_cons, addR, if_neg hm, ← drop_cons hp, List.drop_drop]
  · rw [List.length_append, List.length_singleton]; have := h.len; omega
theorem aged_fresh {w wr : World} {v v' : Value} (h : fresh w v) (ha : Aged wr v v') (hs : w.heap.size ≤ wr.heap.size) : fresh w v' := fun k hk => by
  rcases ha k hk with e | e
  · exact h k e
  · omega
theorem fin_keep {w7 w8 w9 : World} {j : Nat} {v8 v9 : Value} (k8 : Keep (ob vn) w7 w8) (k9 : Keep (ob vt) w8 w9) : Keep (j :: (ob vn ++ ob vt)) w7 ((w9.setCell ⟨j, 1, none⟩ v8).setCell ⟨j, 3, none⟩ v9) :=
  (((k8.more (fun _ hk => List.mem_cons_of_mem _ (List.mem_append_left _ hk))).trans (k9.more (fun _ hk => List.mem_cons_of_mem _ (List.mem_append_right _ hk)))).setCell (a := ⟨j, 1, none⟩) (by simp) _).setCell (a := ⟨j, 3, none⟩) (by simp) _
theorem L2.done {wn w8 w9 : World} {gb gp gw K : Nat} {S : Dk.St} (H : L2 w g n O ps wn k A c acc vn vb vt) (hd : Dk.DiskAt wn g gb gp gw K S) {p : PartV} (hp : ps[k]? = some p) (hr : recOK (ps.drop k) = true) (hm : p.number ∉ acc.map Prod.fst) {T : Bs} (hT : T = recT (ps.drop k) (countN p.left)) {v8 v9 : Value}
    (G8 : Grew wn vn w8 v8) (o8 : w8.ownsRow 0 3 1 v8 ((addJ O acc).nums.length + 1) (intCells ((addJ O acc).nums ++ [(p.number : Int)]))) (G9 : Grew w8 vt w9 v9) (o9 : w9.ownsRow 0 9 1 v9 ((addJ O acc).texts.length + 1) (strCells ((addJ O acc).texts ++ [T]))) :
    L2 w g n O ps ((w9.setCell ⟨w.heap.size, 1, none⟩ v8).setCell ⟨w.heap.size, 3, none⟩ v9) (k + countN p.left) A c (acc ++ [(p.number, T)]) v8 vb v9 := by
  obtain ⟨f1, f2, f3, f4, f5⟩ := fin_app H.jat hd (p.number : Int) T G8 o8 G9.keep G9.aged o9
  have hk := fin_keep (j := w.heap.size) (v8 := v8) (v9 := v9) G8.keep G9.keep
  refine H.add hp hr hm hT ?_ f1 ?_ (aged_fresh H.fn f4 H.below.size) (aged_fresh H.ft f5 H.below.size)
  · refine H.below.trans (hk.below H.below.size fun i hi => ?_)
    rcases List.mem_cons.1 hi with rfl | hi
    · exact Nat.le_refl _
    · rcases List.mem_append.1 hi with hi | hi
      · exact H.fn i (mem_ob.1 hi)
      · exact H.ft i (mem_ob.1 hi)
  · refine own_keepF H.row hk fun i hi hm => ?_
    rcases List.mem_cons.1 hm with rfl | hm
    · exact row_neb H.jat.head H.row (by decide) _ hi (List.mem_cons_self ..)
    · rcases List.mem_append.1 hm with hm | hm
      · exact types_ne H.row H.jat.nums (by decide) i hi hm
      · exact types_ne H.row H.jat.texts (by decide) i hi hm
end
theorem far_go {w0 w w' : World} (hb : Below w.heap.size w w') (h : Hid (Below w0.heap.size w0 w)) : Hid (Below w0.heap.size w0 w') := Lib.hid (below_go h.out hb)
theorem cell_go {w w' : World} {a : Addr} {v : Value} (hb : Below w.heap.size w w') (hl : a.block < w.heap.size) (h : w.cell? a = some v) : w'.cell? a = some v := (hb.cell (p := a) hl).trans h
theorem cells_five (w : World) (e : TypeId) (a b c d x : Value) : ∀ (j : Nat) (u : Value), [a, b, c, d, x][j]? = some u → (w.alloc (.cells #[a, b, c, d, x] e)).cell? ((⟨w.heap.size, 0, none⟩ : Addr).add j) = some u := by
  intro j u hj
  rw [add_at, Nat.zero_add, (Blk.new w e #[a, b, c, d, x]).cell j]
  simpa using hj

set_option maxHeartbeats 40000000 in
set_option maxRecDepth 100000 in
theorem open_any (w : World) (g gb gp gw K : Nat) (S : Dk.St) (hd : Dk.DiskAt w g gb gp gw K S) (hk : Consts w) :
    Calls Tryz.prog 9 #[.pointer (some ⟨g, 0, none⟩)] w (OpenPost w g S) := by
  have HK := Lib.hid hk
  have HD := Lib.hid hd
  obtain ⟨n, hn⟩ : ∃ n, n = S.bl.length := ⟨_, rfl⟩
  have HN := Lib.hid hn
  have n1 : 1 ≤ n := by rw [hn]; exact hd.n1
  have n2 : n ≤ 4096 := by rw [hn]; exact hd.n2
  have HL := Lib.hid (fun W hb => Dk.len_any W g gb gp gw K S (hd.below hb))
  rw [← hn] at HL
  obtain ⟨hz, hsz⟩ := zero_of_info infoJpart
  by_cases he : Dk.checkE S 0 = 0
  · have HE := Lib.hid he
    clear hk hd hn he
    obtain ⟨w0, hw0⟩ : ∃ w0, w0 = w.alloc (.cells #[.pointer (some ⟨g, 0, none⟩), .slice none 0 0, .slice none 0 0, .slice none 0 0, .int .i64 1, .int .i64 0, .bool false] 75) := ⟨_, rfl⟩
    have B0 := Lib.hid (show Below w.heap.size w w0 by rw [hw0]; exact below_new _ _)
    have J0 := Lib.hid (show JAt w0 w.heap.size g (.slice none 0 0) (.slice none 0 0) (.slice none 0 0) (ovJ (oFold [])) by
      refine ⟨by rw [hw0]; exact Blk.new w _ _, by rw [hw0]; exact World.ownsRow_nil _ _ _ _, by rw [hw0]; exact World.ownsRow_nil _ _ _ _, by rw [hw0]; exact World.ownsRow_nil _ _ _ _, fun k hk => by simp [Value.ownBlock] at hk⟩)
    go_enter Tryz.func9, Tryz.ntmps9
    go_wp2_with fail
    rw [← hw0]
    clear hw0
    refine (HL.out _ B0.out).mono ?_
    rintro e w' ⟨rfl, rfl⟩
    go_wp2_with fail
    go_loopw [5, 20] (fun l x wr => ∃ (k : Nat) (A : Option Addr) (c : Nat) (vb : Value), k ≤ n ∧ x = .int .i64 k ∧ l = .slice A k c ∧ Hid (L1 w g S wr k A c vb)) (fun _ x _ => n - (intOf x).toNat)
    case atStart => exact ⟨0, none, 0, .slice none 0 0, by omega, rfl, rfl, Lib.hid ⟨B0.out, J0.out, World.ownsRow_nil _ _ _ _, World.ownsRow_nil _ _ _ _⟩⟩
    case round =>
      obtain ⟨k, A, c, vb, hk, rfl, rfl, H⟩ := hrel
      by_cases hlt : k < n
      · obtain ⟨b, hb⟩ : ∃ b, b = Dk.readB S (k : Int) := ⟨_, rfl⟩
        obtain ⟨s, hs⟩ : ∃ s : ByteArray, s = ⟨b.toArray⟩ := ⟨_, rfl⟩
        have RD := Lib.hid (fun W hw => Dk.read_any W g gb gp gw K S (HD.out.below (w' := W) hw) (k : Int) (by omega) (by omega))
        rw [← hb, check_all S (by have := HN.out; omega), HE.out, show Dk.StrErr b 0 = .tuple #[.string s, .int .i64 0] by rw [hs]; rfl] at RD
        have L64 := Lib.hid (show b.length = 64 by rw [hb]; exact read_len HD.out (by have := HN.out; omega) HE.out)
        have HBS := Lib.hid (show s.data.toList = b by rw [hs])
        have HTK := Lib.hid (show (secsB S).take (k + 1) = (secsB S).take k ++ [b] by rw [hb]; exact secs_take S (by have := HN.out; omega))
        clear hb hs
        have j1 : (k : Int) < (n : Int) := by omega
        have j0 : (0 : Int) ≤ (k : Int) := by omega
        go_wp2_with fail
        refine (RD.out _ H.out.below).mono ?_
        rintro e w2 ⟨rfl, b2⟩
        have B2 := Lib.hid (H.out.below.trans (b2.mono H.out.below.size))
        have HUN := Lib.hid (unpack_any s w2 (HK.out.below B2.out))
        obtain ⟨p, hp⟩ : ∃ p, p = unpackB s.data.toList := ⟨_, rfl⟩
        have HPU := Lib.hid (show unpackB b = p by rw [hp, HBS.out])
        rw [← hp, partRow] at HUN
        obtain ⟨M, hM⟩ : ∃ N, N = p.number := ⟨_, rfl⟩
        obtain ⟨P, hP⟩ : ∃ N, N = p.part := ⟨_, rfl⟩
        obtain ⟨l, hl⟩ : ∃ N, N = p.left := ⟨_, rfl⟩
        obtain ⟨y2, hy2⟩ : ∃ y : ByteArray, y = ⟨p.payload.toArray⟩ := ⟨_, rfl⟩
        obtain ⟨o2, ho2⟩ : ∃ N, N = p.ok := ⟨_, rfl⟩
        rw [← hM, ← hP, ← hl, show str p.payload = .string y2 by rw [hy2], ← ho2] at HUN
        have HROW := Lib.hid (show (partRow p).toList = [.int .i64 M, .int .i64 P, .int .i64 l, .string y2, .bool o2] by rw [partRow, hM, hP, hl, hy2, ho2])
        have HM := Lib.hid hM
        have HO2 := Lib.hid ho2
        clear hp hM hP hl hy2 ho2
        go_wp2_with fail
        refine HUN.out.mono ?_
        rintro e w3 ⟨rfl, b3⟩
        have B3 := Lib.hid (B2.out.trans (b3.mono B2.out.size))
        obtain ⟨w4, hw4⟩ : ∃ w4, w4 = w3.alloc (.cells #[.int .i64 M, .int .i64 P, .int .i64 l, .string y2, .bool o2] 80) := ⟨_, rfl⟩
        have QB := Lib.hid (show Blk w4 w3.heap.size 80 #[.int .i64 M, .int .i64 P, .int .i64 l, .string y2, .bool o2] by rw [hw4]; exact Blk.new _ _ _)
        have HR4 := Lib.hid (show Below wr.heap.size wr w4 by rw [hw4]; exact below_alloc' (below_go b2 b3) _)
        obtain ⟨⟨k0, k1, k2, k3, k4⟩, -⟩ := blk5 QB.out
        have HW4 := Lib.hid hw4
        have HSZ := Lib.hid (show wr.heap.size ≤ w3.heap.size from Nat.le_trans b2.size b3.size)
        clear hw4 b2 b3
        obtain ⟨i0, hi, hz0, hz1, hz2⟩ := info_parts infoJpartb
        have HOW := Lib.hid (own_below H.out.row (w' := (w3.alloc (.cells #[.int .i64 M, .int .i64 P, .int .i64 l, .string y2, .bool o2] 80)).alloc (.cells #[.int .i64 M, .int .i64 P, .int .i64 l, .string y2, .bool o2] 80)) (by rw [← HW4.out]; exact below_alloc' HR4.out _))
        have HNE := Lib.hid (show ∀ (j : Nat) (u : Value), [Value.int .i64 M, .int .i64 P, .int .i64 l, .string y2, .bool o2][j]? = some u → ((w3.alloc (.cells #[.int .i64 M, .int .i64 P, .int .i64 l, .string y2, .bool o2] 80)).alloc (.cells #[.int .i64 M, .int .i64 P, .int .i64 l, .string y2, .bool o2] 80)).cell? ((⟨w3.heap.size + 1, 0, none⟩ : Addr).add j) = some u from (by
          have := cells_five (w3.alloc (.cells #[.int .i64 M, .int .i64 P, .int .i64 l, .string y2, .bool o2] 80)) 80 (.int .i64 M) (.int .i64 P) (.int .i64 l) (.string y2) (.bool o2)
          rw [World.size_alloc] at this
          exact this))
        have HBA := Lib.hid (show w.heap.size ≤ ((w3.alloc (.cells #[.int .i64 M, .int .i64 P, .int .i64 l, .string y2, .bool o2] 80)).alloc (.cells #[.int .i64 M, .int .i64 P, .int .i64 l, .string y2, .bool o2] 80)).heap.size by rw [World.size_alloc, World.size_alloc]; have := B3.out.size; omega)
        rw [HW4.out] at k0 k1 k2 k3 k4
        go_wp2_with (at_builtin; refine Classical.byContradiction fun hgoal => ?_)
        refine hgoal ?_
        refine (wpList_append_own _ rfl _ _ 76 rfl w.heap.size 80 i0 _ 5 48 Tryz.underlying76 hi hz0 hz1 hz2 rfl (by decide) _ k _ rfl HOW.out _ 1 1 [.int .i64 M, .int .i64 P, .int .i64 l, .string y2, .bool o2] rfl rfl HNE.out (by simp [Value.oneCell']) (by unfold maxLen; omega) (by omega) HBA.out ?_)
        intro v2 w5 hown2 hgrow _
        have HG5 := Lib.hid (H.out.grow (by rw [← HW4.out]; exact below_alloc' HR4.out _) hgrow)
        obtain ⟨A5, c5, rfl, -⟩ := own_slice hown2
        have HO5 := Lib.hid (show w5.ownsRow w.heap.size 80 5 (.slice A5 (k + 1) c5) (k + 1) (partCells (((secsB S).take (k + 1)).map unpackB)) by rw [HTK.out, List.map_append, List.map_cons, List.map_nil, partCells_snoc, HPU.out, HROW.out]; exact hown2)
        have HQ5 := Lib.hid (show Blk w5 w3.heap.size 80 #[.int .i64 M, .int .i64 P, .int .i64 l, .string y2, .bool o2] from
          (hgrow.block w3.heap.size (by rw [World.size_alloc, World.size_alloc]; omega) (fun e => by
            have h1 := (H.out.row.lt w3.heap.size e.symm).2
            have h2 := B3.out
            have h3 := HR4.out.size
            have h4 : w4.heap.size = w3.heap.size + 1 := by rw [HW4.out, World.size_alloc]
            have h5 := HR4.out
            exact absurd h1 (by have := HSZ.out; omega))).trans ((Blk.new w3 80 #[.int .i64 M, .int .i64 P, .int .i64 l, .string y2, .bool o2]).below (below_new _ _) (by rw [World.size_alloc]; omega)))
        clear hown2 hgrow HOW HNE HBA k0 k1 k2 k3 k4 hgoal HUN
        obtain ⟨hzs, hss⟩ := zero_of_info infoSect
        obtain ⟨W1, C, hcv, hC, hb1, hlt1, hrd1⟩ := to_bytes s w5
        have s64 : s.size = 64 := by rw [← list_size, HBS.out, L64.out]
        rw [s64] at hcv hC hrd1
        have l64 : s.data.toList.length = 64 := by rw [HBS.out, L64.out]
        have hra : W1.rangeAt w5.heap.size 0 (byteCells s.data.toList) := by
          obtain ⟨b, off, e, _, hc⟩ := hrd1.2 (by omega)
          injection e with e
          injection e with e1 e2
          subst e1 e2
          exact hc
        have HRA := Lib.hid hra
        have HI1' := Lib.hid (show (Tryz.prog.info? 83).map (·.size) = some (byteCells s.data.toList).length by rw [byteCells_len, l64]; exact hss)
        have har := fun (W : World) => run_arrayAt (P := Tryz.prog) (w := W) 83 5 64 (some ⟨w5.heap.size, 0, none⟩) 64 C Tryz.underlying83 (Nat.le_refl _)
        obtain ⟨RS, hRS⟩ : ∃ RS, RS = rowB 64 b := ⟨_, rfl⟩
        obtain ⟨ZS, hZS⟩ : ∃ ZS, ZS = rowB 64 [] := ⟨_, rfl⟩
        have HRS := Lib.hid (show (byteCells s.data.toList).toArray = RS by rw [hRS, rowB, HBS.out, L64.out]; simp)
        obtain ⟨bl, hbl⟩ : ∃ bl, bl = decide (b = Dk.zeroBs) := ⟨_, rfl⟩
        have heq := fun W => eql_sect b L64.out W
        rw [← hRS, ← hZS, ← hbl] at heq
        rw [← hZS] at hzs
        have hgs := guard_sect
        have B6 := Lib.hid (show Below w.heap.size w W1 from HG5.out.2.1.trans (hb1.mono HG5.out.2.1.size))
        have J6 := Lib.hid (HG5.out.1.below hb1)
        have O6 := Lib.hid (own_below HO5.out hb1)
        have Q6 := Lib.hid (HQ5.out.below hb1 HQ5.out.lt)
        have HBL := Lib.hid hbl
        have BW1 := Lib.hid hb1
        clear hra hss hRS hZS hrd1 hb1 hlt1 hC hbl l64
        obtain ⟨⟨k0, k1, k2, k3, k4⟩, -⟩ := blk5 Q6.out
        obtain ⟨-, m1, m2, m3, m4, m5, m6⟩ := J6.out.cells
        have r2 := J6.out.head.frozen 2
        have r4 := J6.out.head.frozen 4
        have r5 := J6.out.head.frozen 5
        repeat
          fail_if_success (refine wp_load_mid 83 _ rfl w5.heap.size 0 rfl (byteCells s.data.toList) _ HRA.out Tryz.underlying83 rfl HI1'.out ?_)
          first | go_values | go_skip | go_guarded | go_step
        refine wp_load_mid 83 _ rfl w5.heap.size 0 rfl (byteCells s.data.toList) _ HRA.out Tryz.underlying83 rfl HI1'.out ?_
        rw [HRS.out]
        clear HRA HI1' hcv har
        have HOK := Lib.hid (show (oFold ((secsB S).take k)).k = k from oFold_at (by simp [secsB]; have := HN.out; omega))
        have HMU := Lib.hid (show (unpackB b).number = M by rw [HPU.out, HM.out])
        have hM2 : M ≤ 4096 := by rw [← HMU.out]; exact (part_le b).2.1
        have HZ := Lib.hid (show max (ovJ (oFold ((secsB S).take k))).next ((M : Int) + 1) = ((max (oFold ((secsB S).take k)).next (M + 1) : Nat) : Int) by
          simp only [ovJ]
          omega)
        have HBLK := Lib.hid (show blankB b = bl by rw [blankB, HBL.out]; rfl)
        have HBLE := Lib.hid (bad_len S k (by have := HN.out; omega))
        cases bl
        · have X0J := Lib.hid (J6.out.set_ 5 (.int .i64 ((k : Int) + 1)) (J' := { ovJ (oFold ((secsB S).take k)) with fin := (k : Int) + 1 }) rfl rfl rfl rfl)
          have KS := Lib.hid (keep_set W1 w.heap.size 5 (.int .i64 ((k : Int) + 1)))
          have X0O := Lib.hid (own_keepF O6.out KS.out (row_neb J6.out.head O6.out (by decide)))
          have HBD6 := Lib.hid (own_below (own_keepF H.out.bad HG5.out.2.2 (types_ne H.out.bad H.out.row (by decide))) BW1.out)
          have X0D := Lib.hid (own_keepF HBD6.out KS.out (row_neb J6.out.head HBD6.out (by decide)))
          have X0B := Lib.hid (B6.out.trans (KS.out.below B6.out.size (fun i hi => by rw [List.mem_singleton] at hi; omega)))
          have X0Q := Lib.hid (show Blk (W1.setCell ⟨w.heap.size, 5, none⟩ (.int .i64 ((k : Int) + 1))) w3.heap.size 80 _ from (KS.out.block _ Q6.out.lt (fun hm => by
            rw [List.mem_singleton] at hm
            have h1 := Q6.out
            rw [hm] at h1
            have h2 := J6.out.head
            unfold Blk at h1 h2
            rw [h1] at h2
            injection h2 with h2
            injection h2 with _ h2
            exact absurd h2 (by decide))).trans Q6.out)
          cases o2
          · have y2' := X0J.out.cells.2.2.1
            have y4' := X0J.out.cells.2.2.2.2.1
            obtain ⟨⟨u0, u1, u2', u3', u4⟩, -⟩ := blk5 X0Q.out
            obtain ⟨iI, hiI, hiz0, hiz1, hiz2⟩ := info_parts info3
            have hc1 := cells_one (W1.setCell ⟨w.heap.size, 5, none⟩ (.int .i64 ((k : Int) + 1))) 3 (.int .i64 (k : Int))
            rw [show (W1.setCell ⟨w.heap.size, 5, none⟩ (.int .i64 ((k : Int) + 1))).heap.size = W1.heap.size by simp [World.setCell]] at hc1
            have HC1 := Lib.hid hc1
            clear hc1
            go_wp2_with (at_builtin; refine Classical.byContradiction fun hgoal => ?_)
            refine hgoal ?_
            refine wpList_append_own _ rfl _ _ 23 rfl w.heap.size 3 iI _ 1 8 Tryz.underlying23 hiI hiz0 hiz1 hiz2 rfl (by decide) _ _ _ rfl (own_below X0D.out (below_new _ _)) _ 1 1 [.int .i64 (k : Int)] rfl rfl HC1.out (by simp [Value.oneCell']) (by unfold maxLen; have := HBLE.out; omega) (by have := HBLE.out; omega) (by rw [World.size_alloc]; have := X0B.out.size; omega) ?_
            intro v8 w8 hown8 hgrow8 _
            have HK8 := Lib.hid (keep_grow (below_new _ _) hgrow8)
            obtain ⟨A8, c8, rfl, -⟩ := own_slice hown8
            rw [← intCells_snoc] at hown8
            have HBD8 := Lib.hid (bad_done X0J.out rfl rfl HK8.out hown8)
            have H8 : Blk w8 w.heap.size 75 _ := (HK8.out.block _ X0J.out.head.lt (blk_ne X0J.out.head X0J.out.bad (by decide))).trans X0J.out.head
            have Q8 : Blk w8 w3.heap.size 80 _ := (HK8.out.block _ X0Q.out.lt (blk_ne X0Q.out X0J.out.bad (by decide))).trans X0Q.out
            have O8 := Lib.hid (own_keepF (own_keepF X0O.out HK8.out (types_ne X0O.out X0J.out.bad (by decide))) (keep_set w8 w.heap.size 2 (.slice A8 ((ovJ (oFold ((secsB S).take k))).bad.length + 1) c8)) (row_neb H8 (own_keepF X0O.out HK8.out (types_ne X0O.out X0J.out.bad (by decide))) (by decide)))
            have B8 := Lib.hid (X0B.out.trans (HK8.out.below X0B.out.size (fun i hi => (X0D.out.lt i (mem_ob.1 hi)).1)))
            have B9 := Lib.hid (B8.out.trans ((keep_set w8 w.heap.size 2 (.slice A8 ((ovJ (oFold ((secsB S).take k))).bad.length + 1) c8)).below B8.out.size (fun i hi => by rw [List.mem_singleton] at hi; omega)))
            have s2 := H8.cell 2
            have s4 := H8.cell 4
            have t2 := H8.frozen 2
            have t4 := H8.frozen 4
            simp only [List.getElem?_toArray, List.getElem?_cons_zero, List.getElem?_cons_succ] at s2 s4
            obtain ⟨⟨q0, q1, q2, q3, q4⟩, -⟩ := blk5 Q8
            clear hown8 hgrow8 H8 Q8 u0 u1 u2' u3' u4 y2' y4'
            go_wp2_with fail
            go_region_law (fail)
            all_goals
              go_wp2_with fail
              go_roundw
              case rel => exact ⟨k + 1, A5, c5, .slice A8 ((ovJ (oFold ((secsB S).take k))).bad.length + 1) c8, by omega, by go_num, rfl, Lib.hid (L1.next B9.out HBD8.out.1 O8.out (by rw [List.length_append, List.length_singleton]; exact HBD8.out.2) HTK.out _ (step_bad HOK.out HBLK.out (by rw [HPU.out, ← HO2.out]) HMU.out _ HZ.out))⟩
              case measure => simp [intOf]; omega
          · go_wp2_with fail
            go_region_law (fail)
            all_goals
              go_wp2_with fail
              go_roundw
              case rel => exact ⟨k + 1, A5, c5, vb, by omega, by go_num, rfl, Lib.hid (L1.next X0B.out X0J.out X0O.out X0D.out HTK.out _ (step_good HOK.out HBLK.out (by rw [HPU.out, ← HO2.out]) HMU.out _ HZ.out))⟩
              case measure => simp [intOf]; omega
        · have HBD6 := Lib.hid (own_below (own_keepF H.out.bad HG5.out.2.2 (types_ne H.out.bad H.out.row (by decide))) BW1.out)
          cases o2
          · go_wp2_with fail
            go_region_law (fail)
            all_goals
              go_wp2_with fail
              go_roundw
              case rel => exact ⟨k + 1, A5, c5, vb, by omega, by go_num, rfl, Lib.hid (L1.next B6.out J6.out O6.out HBD6.out HTK.out _ (step_blank HBLK.out HMU.out _ HZ.out))⟩
              case measure => simp [intOf]; omega
          · go_wp2_with fail
            go_region_law (fail)
            all_goals
              go_wp2_with fail
              go_roundw
              case rel => exact ⟨k + 1, A5, c5, vb, by omega, by go_num, rfl, Lib.hid (L1.next B6.out J6.out O6.out HBD6.out HTK.out _ (step_blank HBLK.out HMU.out _ HZ.out))⟩
              case measure => simp [intOf]; omega
      · obtain rfl : k = n := by omega
        have HALL := Lib.hid (show (secsB S).take k = secsB S from List.take_of_length_le (by rw [secs_len]; have := HN.out; omega))
        obtain ⟨O, hO⟩ : ∃ O, O = ovJ (oFold (secsB S)) := ⟨_, rfl⟩
        obtain ⟨ps, hps⟩ : ∃ ps, ps = partsB S := ⟨_, rfl⟩
        have HO := Lib.hid hO
        have HPS := Lib.hid hps
        have HPL := Lib.hid (show ps.length = k by rw [hps, partsB, List.length_map, secs_len]; exact HN.out.symm)
        have HPG := Lib.hid (show ∀ p ∈ ps, PG p by
          rw [hps, partsB]
          intro p hp
          obtain ⟨s, _, rfl⟩ := List.mem_map.1 hp
          exact part_good s)
        have HR1 := Lib.hid (show wr.ownsRow w.heap.size 80 5 (.slice A k c) k (partCells ps) by rw [hps, partsB, ← HALL.out]; exact H.out.row)
        have HFB := Lib.hid (show fresh w vb from fun i hi => (H.out.bad.lt i hi).1)
        have H2 := Lib.hid (show L2 w g k O ps wr 0 A c [] (.slice none 0 0) vb (.slice none 0 0) from ⟨H.out.below, by rw [hO, ← HALL.out]; exact H.out.jat, HR1.out, by rw [List.drop_zero]; rfl, Nat.le_refl _, fun i hi => by simp [Value.ownBlock] at hi, fun i hi => by simp [Value.ownBlock] at hi⟩)
        have kc : (k : Int) ≤ (c : Int) := by
          obtain ⟨_, _, e, h⟩ := own_slice HR1.out
          injection e with _ _ e
          omega
        obtain ⟨bA, oA, rfl, -⟩ := (Rd.of_own HR1.out).2 (by omega)
        clear H hO hps HALL HR1
        go_wp2_with fail
        go_loopw [11] (fun x wr => ∃ (i : Nat) (acc : List (Nat × Bs)) (vn vt : Value), i ≤ k ∧ x = .int .i64 i ∧ Hid (L2 w g k O ps wr i (some ⟨bA, oA, none⟩) c acc vn vb vt)) (fun x _ => k - (intOf x).toNat)
        case atStart => exact ⟨0, [], _, _, by omega, rfl, H2⟩
        case round =>
          obtain ⟨i, acc, vn, vt, hi, rfl, H⟩ := hrel
          by_cases hlt : i < k
          · obtain ⟨_, _, p, e1, hbA, hp, x0, x1, x2, x3, x4⟩ := rd_part (Rd.of_own H.out.row) hlt
            injection e1 with e1
            injection e1 with e1 e2
            subst e1 e2
            have HP := Lib.hid hp
            have HCUT : Rd wr wr.heap.size 5 (some ⟨bA, oA + i * 5, none⟩) (k - i) (partCells (ps.drop i)) := by
              have h := (Rd.of_own H.out.row).cut (k := i) (m := k) (cap := c) (by omega) (Nat.le_refl _) (by omega)
              rw [if_neg (by omega), partCells_drop, List.take_of_length_le (by rw [partCells_len, List.length_drop, HPL.out]; exact Nat.le_refl _), Option.map_some, add_at] at h
              exact h
            have REC := Lib.hid (record_any (some ⟨bA, oA + i * 5, none⟩) (k - i) (c - i) (ps.drop i) wr HCUT (by omega) (by omega) (by omega) (fun q hq => HPG.out q (List.mem_of_mem_drop hq)))
            have j1 : (i : Int) < (k : Int) := by omega
            have j0 : (0 : Int) ≤ (i : Int) := by omega
            have j2 : (i : Int) ≤ (c : Int) := by omega
            have HLE := Lib.hid H.out.len
            clear hbA x0 x1 x2 x3 x4 HCUT hp
            by_cases hr : recOK (ps.drop i) = true
            · obtain ⟨C, hC⟩ : ∃ C, C = countN p.left := ⟨_, rfl⟩
              obtain ⟨T, hT⟩ : ∃ T, T = recT (ps.drop i) C := ⟨_, rfl⟩
              obtain ⟨s, hs⟩ : ∃ s : ByteArray, s = ⟨T.toArray⟩ := ⟨_, rfl⟩
              have hV : recV (ps.drop i) = .tuple #[.string s, .int .i64 (C : Int), .bool true] := by
                rw [recV, if_pos hr, show (ps.drop i).getD 0 noPart = p by rw [drop_cons HP.out]; rfl, ← hC, ← hT, hs]
              rw [hV] at REC
              have HCC := Lib.hid (show 1 ≤ C ∧ C ≤ k - i by
                have h := hr
                rw [drop_cons HP.out] at h
                have := rec_one h
                rw [← hC, List.length_drop, HPL.out] at this
                omega)
              have HC := Lib.hid hC
              have HT := Lib.hid (show T = recT (ps.drop i) (countN p.left) by rw [hT, hC])
              have HSZ := Lib.hid (show str T = .string s by rw [hs])
              have HR := Lib.hid hr
              clear hC hT hs hV hr
              go_wp2_with fail
              refine REC.out.mono ?_
              rintro e w2 ⟨rfl, b2⟩
              have H3 := Lib.hid (H.out.go b2)
              obtain ⟨G, hG⟩ : ∃ G, G = addJ O acc := ⟨_, rfl⟩
              have HG := Lib.hid hG
              have J3 := Lib.hid (show JAt w2 w.heap.size g vn vb vt G by rw [hG]; exact H3.out.jat)
              have hgl : G.nums.length ≤ 4096 := by rw [hG]; show (acc.map _).length ≤ _; rw [List.length_map]; have := HLE.out; omega
              have hgt : G.texts.length ≤ 4096 := by rw [hG]; show (acc.map _).length ≤ _; rw [List.length_map]; have := HLE.out; omega
              obtain ⟨An, cn, rfl, -⟩ := own_slice J3.out.nums
              obtain ⟨N, hN⟩ : ∃ N, N = p.number := ⟨_, rfl⟩
              obtain ⟨r, hrr⟩ : ∃ r, r = decide ((N : Int) ∈ G.nums) := ⟨_, rfl⟩
              have HN2 := Lib.hid hN
              have HRR := Lib.hid (show r = decide (p.number ∈ acc.map Prod.fst) by rw [hrr, hG, hN]; exact congrArg (fun q : Prop => @decide q (Classical.propDecidable q)) (mem_nums acc) |> fun e => by simpa using e)
              have CON := Lib.hid (show ∀ W, Hid (Below w2.heap.size w2 W) → Calls Tryz.prog 47 #[.slice An G.nums.length cn, .int .i64 (N : Int)] W (RetB (.bool r) W) from fun W h => contains_any An G.nums.length cn G.nums (N : Int) W (Rd.of_own (own_below J3.out.nums h.out)) (by omega) r (Lib.hid hrr.symm))
              obtain ⟨_, _, p2, e1, hbA, hp2, x0, -, -, -, -⟩ := rd_part (Rd.of_own H3.out.row) hlt
              injection e1 with e1
              injection e1 with e1 e2
              subst e1 e2
              obtain rfl : p2 = p := Option.some.inj (hp2.symm.trans HP.out)
              rw [← hN] at x0
              have m1 := J3.out.cells.2.1
              have y0 : Hid (Below w2.heap.size w2 w2.drew) := Lib.hid (Below.refl _ _).drew
              have HBA := Lib.hid hbA
              have HJL := Lib.hid J3.out.head.lt
              clear hG hN hrr hp2 b2 hbA
              go_wp2_with fail
              go_region_held3 (fun W => W.cell? ⟨w.heap.size, 1, none⟩ = some (.slice An G.nums.length cn) ∧ W.cell? ⟨bA, oA + i * 5, none⟩ = some (.int .i64 (N : Int)) ∧ Hid (Below w2.heap.size w2 W))
                (first | (go_split_ands; exact ⟨cell_go bn HJL.out (by assumption), cell_go bn HBA.out (by assumption), far_go bn (by assumption)⟩) | exact ⟨m1, x0, y0⟩ | (go_split_ands; refine ⟨?_, ?_, ?_⟩ <;> assumption) | go_keep)
                (first | (go_at_call 47; go_split_ands; (with_reducible refine (CON.out _ (by assumption)).mono ?_); rintro e wn ⟨rfl, bn⟩))
              go_split_ands
              have HB5 : Hid (Below w2.heap.size w2 wn) := by assumption
              have H5 := Lib.hid (H3.out.go HB5.out)
              have HBF := Lib.hid (below_go (w2 := wn) H3.out.below HB5.out)
              clear CON y0 m1 x0
              cases r
              · have HM := Lib.hid (show p2.number ∉ acc.map Prod.fst from of_decide_eq_false HRR.out.symm)
                have J7 := Lib.hid (show JAt wn w.heap.size g (.slice An G.nums.length cn) vb vt G by have := H5.out.jat; rw [← HG.out] at this; exact this)
                have D7 := Lib.hid (HD.out.below HBF.out)
                obtain ⟨_, _, p3, e1, hbA, hp3, x0, -, -, -, -⟩ := rd_part (Rd.of_own H5.out.row) hlt
                injection e1 with e1
                injection e1 with e1 e2
                subst e1 e2
                obtain rfl : p3 = p2 := Option.some.inj (hp3.symm.trans HP.out)
                rw [← HN2.out] at x0
                have HX0 := Lib.hid (And.intro x0 hbA)
                clear hp3 x0 hbA
                go_wp2_with fail
                refine open_add wn w.heap.size g bA oA k c i (N : Int) s _ vb vt G T J7.out HX0.out.1 HX0.out.2 (types_ne H5.out.row J7.out.nums (by decide) bA rfl) (types_ne H5.out.row J7.out.texts (by decide) bA rfl) hlt hgl hgt HSZ.out ?_ _ (by kernel_rfl)
                intro x112 x113 x114 x115 x116 x117 x118 x119 x120 x121 x122 x123 x124 x125 x126 x127 x128 x129 x130 x131 x132 x133 x134 x135 A8 c8 A9 c9 w' hA
                obtain ⟨w8, w9, G8, O8, G9, O9, rfl⟩ := hA
                have HDN := Lib.hid (H5.out.done D7.out HP.out HR.out HM.out HT.out G8 (by rw [← HG.out, ← HN2.out]; exact O8) G9 (by rw [← HG.out]; exact O9))
                rw [← HC.out] at HDN
                have HCC1 := HCC.out.1
                have HCC2 := HCC.out.2
                clear G8 O8 G9 O9
                go_wp2_with fail
                go_roundw
                case rel => exact ⟨i + C, _, _, _, by omega, by go_num, HDN⟩
                case measure => simp [intOf]; omega
              · have HM := Lib.hid (show p2.number ∈ acc.map Prod.fst from of_decide_eq_true HRR.out.symm)
                have HS5 := Lib.hid (H5.out.seen HP.out HR.out HM.out)
                rw [← HC.out] at HS5
                have HCC1 := HCC.out.1
                have HCC2 := HCC.out.2
                go_wp2_with fail
                go_roundw
                case rel => exact ⟨i + C, acc, _, vt, by omega, by go_num, HS5⟩
                case measure => simp [intOf]; omega
            · have hV : recV (ps.drop i) = .tuple #[str [], .int .i64 0, .bool false] := by rw [recV, if_neg hr]
              rw [hV] at REC
              have HR := Lib.hid hr
              clear hV hr
              go_wp2_with fail
              refine REC.out.mono ?_
              rintro e w2 ⟨rfl, b2⟩
              have H3 := Lib.hid ((H.out.go b2).skip HP.out HR.out)
              go_wp2_with fail
              go_roundw
              case rel => exact ⟨i + 1, acc, vn, vt, by omega, by go_num, H3⟩
              case measure => simp [intOf]; omega
          · obtain rfl : i = k := by omega
            have HFIN := Lib.hid (show JAt wr w.heap.size g vn vb vt (openJ S) by
              have h := H.out.found
              rw [List.drop_of_length_le (by rw [HPL.out]; exact Nat.le_refl _), recL_nil, List.foldl_nil] at h
              rw [openJ, ← HPS.out, ← HO.out, h]
              exact H.out.jat)
            go_wp2_with fail
            go_ret2
            exact ⟨H.out.below, .inr ⟨HE.out, w.heap.size, vn, vb, vt, rfl, HFIN.out, Nat.le_refl _, H.out.fn, HFB.out, H.out.ft⟩⟩
  · obtain ⟨E, hE⟩ : ∃ E, E = Dk.checkE S 0 := ⟨_, rfl⟩
    obtain ⟨tt, htt⟩ : ∃ tt : ByteArray, tt = ⟨(Dk.readB S (0 : Int)).toArray⟩ := ⟨_, rfl⟩
    have RD := Lib.hid (fun W hw => Dk.read_any W g gb gp gw K S (HD.out.below (w' := W) hw) 0 (by omega) (by omega))
    rw [Dk.StrErr, ← hE, ← htt] at RD
    rw [← hE] at he
    have hE0 : (E == 0) = false := beq_eq_false_iff_ne.2 he
    have HE := Lib.hid hE
    have HEN := Lib.hid he
    clear hk hd hn he hE htt
    have HN1 := Lib.hid n1
    go_enter Tryz.func9, Tryz.ntmps9
    go_wp2_with fail
    refine (HL.out _ (below_new _ _)).mono ?_
    rintro e w' ⟨rfl, rfl⟩
    obtain ⟨w0, hw0⟩ : ∃ w0, w0 = w.alloc (.cells #[.pointer (some ⟨g, 0, none⟩), .slice none 0 0, .slice none 0 0, .slice none 0 0, .int .i64 1, .int .i64 0, .bool false] 75) := ⟨_, rfl⟩
    have B0 := Lib.hid (show Below w.heap.size w w0 by rw [hw0]; exact below_new _ _)
    rw [← hw0]
    clear hw0
    go_wp2_with fail
    go_loopw [5, 20] (fun l x wr => x = .int .i64 0 ∧ l = .slice none 0 0 ∧ Hid (Below w.heap.size w wr)) (fun _ _ _ => 0)
    case atStart => exact ⟨rfl, rfl, B0⟩
    case round =>
      obtain ⟨rfl, rfl, H⟩ := hrel
      have j1 : (0 : Int) < (n : Int) := by omega
      go_wp2_with fail
      refine (RD.out _ H.out).mono ?_
      rintro e w2 ⟨rfl, b2⟩
      have B2 := Lib.hid (H.out.trans (b2.mono H.out.size))
      clear b2
      go_wp2_with fail
      go_ret2
      exact ⟨B2.out, .inl ⟨by rw [← HE.out]; exact HEN.out, by rw [← HE.out]; rfl⟩⟩
end Go.Proofs.YtddpjahoeldleaaGreatDoor
