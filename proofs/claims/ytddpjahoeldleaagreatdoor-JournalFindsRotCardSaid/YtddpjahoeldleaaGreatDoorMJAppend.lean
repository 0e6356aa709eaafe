/- Contract of Append. -/
import Derived.Test.YtddpjahoeldleaaGreatDoorMJWrite
import Derived.Test.YtddpjahoeldleaaGreatDoorMPack
import Derived.Maps.AppendAt
import Derived.Deep.RegionHeld3
import Derived.Deep.RegionLaw

namespace Go.Proofs.YtddpjahoeldleaaGreatDoor
open Go.RowKit Go.Maps

/-- what Append gives: the number, the error, the journal, the disk -/
structure ApV where
  n : Int
  err : Int
  J : JV
  S : Dk.St
def apJ1 (J : JV) (t : Bs) : JV := { J with next := J.next + 1, fin := J.fin + (countN t.length : Int) }
def apR (J : JV) (S : Dk.St) (t : Bs) : WrV := writeR S J.fin (packB J.next.toNat t)
def appR (J : JV) (S : Dk.St) (t : Bs) : ApV :=
  if J.closed = true then ⟨0, 24, J, S⟩
  else if 8000 < t.length ∨ 4096 < J.next then ⟨0, 4, J, S⟩
  else if (S.bl.length : Int) - J.fin < (countN t.length : Int) then ⟨0, 23, J, S⟩
  else if (apR J S t).err ≠ 0 then ⟨0, (apR J S t).err, { apJ1 J t with closed := true }, (apR J S t).S⟩
  else if (apR J S t).same = false then ⟨0, 25, apJ1 J t, (apR J S t).S⟩
  else ⟨J.next, 0, { apJ1 J t with nums := J.nums ++ [J.next], texts := J.texts ++ [t] }, (apR J S t).S⟩
def ob (v : Value) : List Nat := v.ownBlock.toList
theorem mem_ob {v : Value} {k : Nat} : k ∈ ob v ↔ v.ownBlock = some k := by simp [ob]
/-- a list's block is the old one, or new -/
def Aged (w : World) (v v' : Value) : Prop := ∀ k, v'.ownBlock = some k → v.ownBlock = some k ∨ w.heap.size ≤ k
theorem Aged.refl (w : World) (v : Value) : Aged w v v := fun _ h => .inl h
def ApPost (r : ApV) (w : World) (j g gb gp gw K : Nat) (vn vb vt : Value) : Ending → World → Prop := fun e w' => ∃ vn' vt', e = .returned (.tuple #[.int .i64 r.n, .int .i64 r.err]) ∧ JAt w' j g vn' vb vt' r.J ∧ Dk.DiskAt w' g gb gp gw K r.S ∧ Keep (j :: (ob vn ++ ob vt ++ [g, gb, gp, gw])) w w' ∧ Aged w vn vn' ∧ Aged w vt vt'

theorem appI {X : World} {v : Value} {n : Nat} {zs : List Int} (h : X.ownsRow 0 3 1 v n (intCells zs)) {z : Int} {b : Nat} (ha : X.cell? ⟨b, 0, none⟩ = some (.int .i64 z)) (hn : n ≤ 100000) :
    ∃ A c X', (Builtin.append_ #[23, 23] 23 #[v, .slice (some ⟨b, 0, none⟩) 1 1]).run Tryz.prog X = .ok (.slice A (n + 1) c) X' ∧ X'.ownsRow 0 3 1 (.slice A (n + 1) c) (n + 1) (intCells (zs ++ [z])) ∧ X.grownBy X' v.ownBlock ∧ ((Value.slice A (n + 1) c).ownBlock = v.ownBlock ∨ (Value.slice A (n + 1) c).ownBlock = some X.heap.size) := by
  obtain ⟨i0, hi, hz0, hz1, hz2⟩ := info_parts info3
  obtain ⟨v', X', hr, ho, hg, _, hat⟩ := run_append_own_at (P := Tryz.prog) (w := X) 0 23 23 3 i0 _ 1 8 Tryz.underlying23 hi hz0 hz1 hz2 rfl (by decide) v n _ h ⟨b, 0, none⟩ 1 1 [.int .i64 z] rfl (fun j u hj => by
    match j, hj with
    | 0, hj => rw [show (⟨b, 0, none⟩ : Addr).add 0 = ⟨b, 0, none⟩ from rfl, ha]; simpa using hj
    | j + 1, hj => simp at hj) (fun u hu => by simp at hu; subst hu; rfl) (by unfold maxLen; omega) (by omega) (Nat.zero_le _)
  obtain ⟨A, c, rfl, _⟩ := own_slice ho
  rw [← intCells_snoc] at ho
  exact ⟨A, c, X', hr, ho, hg, hat⟩
theorem appS {X : World} {v : Value} {n : Nat} {zs : List Bs} (h : X.ownsRow 0 9 1 v n (strCells zs)) {z : Bs} {b : Nat} (ha : X.cell? ⟨b, 0, none⟩ = some (str z)) (hn : n ≤ 100000) :
    ∃ A c X', (Builtin.append_ #[28, 28] 28 #[v, .slice (some ⟨b, 0, none⟩) 1 1]).run Tryz.prog X = .ok (.slice A (n + 1) c) X' ∧ X'.ownsRow 0 9 1 (.slice A (n + 1) c) (n + 1) (strCells (zs ++ [z])) ∧ X.grownBy X' v.ownBlock ∧ ((Value.slice A (n + 1) c).ownBlock = v.ownBlock ∨ (Value.slice A (n + 1) c).ownBlock = some X.heap.size) := by
  obtain ⟨i0, hi, hz0, hz1, hz2⟩ := info_parts info9
  obtain ⟨v', X', hr, ho, hg, _, hat⟩ := run_append_own_at (P := Tryz.prog) (w := X) 0 28 28 9 i0 _ 1 16 Tryz.underlying28 hi hz0 hz1 hz2 rfl (by decide) v n _ h ⟨b, 0, none⟩ 1 1 [str z] rfl (fun j u hj => by
    match j, hj with
    | 0, hj => rw [show (⟨b, 0, none⟩ : Addr).add 0 = ⟨b, 0, none⟩ from rfl, ha]; simpa using hj
    | j + 1, hj => simp at hj) (fun u hu => by simp at hu; subst hu; rfl) (by unfold maxLen; omega) (by omega) (Nat.zero_le _)
  obtain ⟨A, c, rfl, _⟩ := own_slice ho
  rw [← strCells_snoc] at ho
  exact ⟨A, c, X', hr, ho, hg, hat⟩

theorem step_appI {ops : Array Oper} {o : Oper} {a : Act} {X : World} {K : Act → World → Prop} {Q : Exit → Act → World → Prop} {E : Prop} (hgd : o.guard = none) (s x : Operand)
    (ho : o.op = .call { callee := .builtin .append, args := #[s, x], argTypes := #[23, 23] }) (hty : o.type = 23) (v : Value) (n : Nat) (zs : List Int) (hs : a.eval s = v) (h : X.ownsRow 0 3 1 v n (intCells zs)) (z : Int) (b : Nat) (hx : a.eval x = .slice (some ⟨b, 0, none⟩) 1 1)
    (ha : X.cell? ⟨b, 0, none⟩ = some (.int .i64 z)) (hn : n ≤ 100000)
    (hK : ∀ A c X', X'.ownsRow 0 3 1 (.slice A (n + 1) c) (n + 1) (intCells (zs ++ [z])) → X.grownBy X' v.ownBlock → ((Value.slice A (n + 1) c).ownBlock = v.ownBlock ∨ (Value.slice A (n + 1) c).ownBlock = some X.heap.size) → K (a.put o.dst (.slice A (n + 1) c)) X') :
    if Region.wanted o (yielded ops a.tmps) = true then Oper.wp Tryz.prog o a X K Q else E := by
  rw [if_pos (by simp [Region.wanted, hgd])]
  obtain ⟨A, c, X', hr, h1, h2, h3⟩ := appI h ha hn
  unfold Oper.wp execOp
  simp only [ho, hty, resolve, invoke, builtin, Sem.run_bind, Sem.run_pure, Result.andThen_ok, List.map_toArray, List.map_cons, List.map_nil, hs, hx, hr]
  exact hK A c X' h1 h2 h3
theorem step_appS {ops : Array Oper} {o : Oper} {a : Act} {X : World} {K : Act → World → Prop} {Q : Exit → Act → World → Prop} {E : Prop} (hgd : o.guard = none) (s x : Operand)
    (ho : o.op = .call { callee := .builtin .append, args := #[s, x], argTypes := #[28, 28] }) (hty : o.type = 28) (v : Value) (n : Nat) (zs : List Bs) (hs : a.eval s = v) (h : X.ownsRow 0 9 1 v n (strCells zs)) (z : Bs) (b : Nat) (hx : a.eval x = .slice (some ⟨b, 0, none⟩) 1 1)
    (ha : X.cell? ⟨b, 0, none⟩ = some (str z)) (hn : n ≤ 100000)
    (hK : ∀ A c X', X'.ownsRow 0 9 1 (.slice A (n + 1) c) (n + 1) (strCells (zs ++ [z])) → X.grownBy X' v.ownBlock → ((Value.slice A (n + 1) c).ownBlock = v.ownBlock ∨ (Value.slice A (n + 1) c).ownBlock = some X.heap.size) → K (a.put o.dst (.slice A (n + 1) c)) X') :
    if Region.wanted o (yielded ops a.tmps) = true then Oper.wp Tryz.prog o a X K Q else E := by
  rw [if_pos (by simp [Region.wanted, hgd])]
  obtain ⟨A, c, X', hr, h1, h2, h3⟩ := appS h ha hn
  unfold Oper.wp execOp
  simp only [ho, hty, resolve, invoke, builtin, Sem.run_bind, Sem.run_pure, Result.andThen_ok, List.map_toArray, List.map_cons, List.map_nil, hs, hx, hr]
  exact hK A c X' h1 h2 h3
theorem cell_keep {X X' : World} {v : Value} {B k : Nat} (hg : X.grownBy X' v.ownBlock) (hv : ∀ i, v.ownBlock = some i → i < B) (h1 : B ≤ k) (h2 : k < X.heap.size) : X'.cell? ⟨k, 0, none⟩ = X.cell? ⟨k, 0, none⟩ :=
  World.cell?_of_block (w := X) (hg.block k h2 (fun e => by have := hv k e.symm; omega))
theorem Aged.older {w w' : World} {v v' : Value} (h : Aged w' v v') (hs : w.heap.size ≤ w'.heap.size) : Aged w v v' := fun k hk => (h k hk).imp id (Nat.le_trans hs)
/-- what an append of the journal's leaves: but for the list's block all is as it was -/
structure Grew (w : World) (v : Value) (X' : World) (v' : Value) : Prop where
  keep : Keep (ob v) w X'
  aged : Aged w v v'
theorem grew {w X X' : World} {v v' : Value} (hb : Below w.heap.size w X) (hg : X.grownBy X' v.ownBlock) (ha : v'.ownBlock = v.ownBlock ∨ v'.ownBlock = some X.heap.size) : Grew w v X' v' := by
  refine ⟨⟨hg.os.trans hb.os, hg.tape.trans hb.tape, hg.output.trans hb.output, Nat.le_trans hb.size hg.size, fun k hk hF => ?_⟩, fun k hk => ?_⟩
  · exact (hg.block k (Nat.lt_of_lt_of_le hk hb.size) (fun e => hF (mem_ob.2 e.symm))).trans (hb.block k hk)
  · rcases ha with e | e
    · exact .inl (by rw [← e]; exact hk)
    · rw [e] at hk; injection hk with hk; exact .inr (by rw [← hk]; exact hb.size)
section
variable {w : World} {j g : Nat} {vn vb vt : Value} {J : JV}
theorem row_ne {e : TypeId} {v : Value} {n : Nat} {xs : List Value} {sz : Nat} {cs : Array Value} (hj : Blk w j 75 cs) (h : w.ownsRow 0 e sz v n xs) (he : e ≠ 75) : ∀ k, v.ownBlock = some k → k ∉ [j] := fun k hk hm => by
  obtain ⟨cs, fr, hb⟩ := own_block h hk
  rw [List.mem_singleton] at hm
  subst hm
  have := hj
  unfold Blk at this
  rw [hb] at this
  injection this with this
  injection this with _ this
  exact he this
theorem JAt.set_ (h : JAt w j g vn vb vt J) (i : Nat) (u : Value) {J' : JV} (hh : (#[.pointer (some ⟨g, 0, none⟩), vn, vb, vt, .int .i64 J.next, .int .i64 J.fin, .bool J.closed] : Array Value).setIfInBounds i u = #[.pointer (some ⟨g, 0, none⟩), vn, vb, vt, .int .i64 J'.next, .int .i64 J'.fin, .bool J'.closed])
    (e1 : J'.nums = J.nums) (e2 : J'.bad = J.bad) (e3 : J'.texts = J.texts) : JAt (w.setCell ⟨j, i, none⟩ u) j g vn vb vt J' := by
  have hk : Keep [j] w (w.setCell ⟨j, i, none⟩ u) := (Keep.refl _ _).setCell (a := ⟨j, i, none⟩) (by simp) u
  refine ⟨by rw [← hh]; exact h.head.set_ i u, ?_, ?_, ?_, h.apart⟩
  · rw [e1]; exact own_keepF h.nums hk (row_ne h.head h.nums (by decide))
  · rw [e2]; exact own_keepF h.bad hk (row_ne h.head h.bad (by decide))
  · rw [e3]; exact own_keepF h.texts hk (row_ne h.head h.texts (by decide))
end
theorem ne_disk {w : World} {j g gb gp gw K : Nat} {S : Dk.St} {cs : Array Value} (hj : Blk w j 75 cs) (hd : Dk.DiskAt w g gb gp gw K S) : j ≠ g ∧ j ≠ gb ∧ j ≠ gp ∧ j ≠ gw := by
  unfold Blk at hj
  obtain ⟨e1, c1, m1⟩ := Dk.ownsMap_obj hd.pend
  obtain ⟨e2, c2, m2⟩ := Dk.ownsMap_obj hd.worn
  have h1 := hd.head
  have h2 := hd.rows
  refine ⟨?_, ?_, ?_, ?_⟩ <;> intro e <;> subst e
  · rw [hj] at h1; injection h1 with h1; injection h1 with _ h1; exact absurd h1 (by decide)
  · rw [hj] at h2; injection h2 with h2; injection h2 with _ h2; exact absurd h2 (by decide)
  · rw [hj] at m1; cases m1
  · rw [hj] at m2; cases m2
theorem types_ne {w : World} {e1 e2 : TypeId} {v1 v2 : Value} {n1 n2 b1 b2 z1 z2 : Nat} {xs1 xs2 : List Value} (h1 : w.ownsRow b1 e1 z1 v1 n1 xs1) (h2 : w.ownsRow b2 e2 z2 v2 n2 xs2) (he : e1 ≠ e2) : ∀ k, v1.ownBlock = some k → k ∉ ob v2 := fun k hk hm => by
  obtain ⟨c1, f1, q1⟩ := own_block h1 hk
  obtain ⟨c2, f2, q2⟩ := own_block h2 (mem_ob.1 hm)
  rw [q1] at q2
  injection q2 with q2
  injection q2 with _ q2
  exact he q2
/-- both appends and both stores -/
theorem fin_app {w7 w8 w9 : World} {j g gb gp gw K : Nat} {vn vb vt v8 v9 : Value} {J : JV} {S : Dk.St} (h : JAt w7 j g vn vb vt J) (hd : Dk.DiskAt w7 g gb gp gw K S) (N : Int) (z : Bs) (G8 : Grew w7 vn w8 v8) (o8 : w8.ownsRow 0 3 1 v8 (J.nums.length + 1) (intCells (J.nums ++ [N])))
    (k9 : Keep (ob vt) w8 w9) (ag9 : Aged w8 vt v9) (o9 : w9.ownsRow 0 9 1 v9 (J.texts.length + 1) (strCells (J.texts ++ [z]))) :
    JAt ((w9.setCell ⟨j, 1, none⟩ v8).setCell ⟨j, 3, none⟩ v9) j g v8 vb v9 { J with nums := J.nums ++ [N], texts := J.texts ++ [z] } ∧ Dk.DiskAt ((w9.setCell ⟨j, 1, none⟩ v8).setCell ⟨j, 3, none⟩ v9) g gb gp gw K S ∧ Keep (j :: (ob vn ++ ob vt ++ [g, gb, gp, gw])) w7 ((w9.setCell ⟨j, 1, none⟩ v8).setCell ⟨j, 3, none⟩ v9) ∧ Aged w7 vn v8 ∧ Aged w7 vt v9 := by
  have T8 : w8.ownsRow 0 9 1 vt J.texts.length (strCells J.texts) := own_keepF h.texts G8.keep (types_ne h.texts h.nums (by decide))
  have b8 : w8.ownsRow 0 3 1 vb J.bad.length (intCells J.bad) := own_keepF h.bad G8.keep (fun k hk hm => h.apart k (mem_ob.1 hm) hk)
  have b9 : w9.ownsRow 0 3 1 vb J.bad.length (intCells J.bad) := own_keepF b8 k9 (types_ne b8 T8 (by decide))
  have n9 : w9.ownsRow 0 3 1 v8 (J.nums.length + 1) (intCells (J.nums ++ [N])) := own_keepF o8 k9 (types_ne o8 T8 (by decide))
  have k79 : Keep (ob vn ++ ob vt) w7 w9 := (G8.keep.more (fun _ hk => List.mem_append_left _ hk)).trans (k9.more (fun _ hk => List.mem_append_right _ hk))
  have hjn : ∀ k, k ∈ ob vn ++ ob vt → k ≠ j := fun k hk e => by
    rcases List.mem_append.1 hk with hk | hk
    · exact row_ne h.head h.nums (by decide) k (mem_ob.1 hk) (by rw [e]; exact List.mem_cons_self ..)
    · exact row_ne h.head h.texts (by decide) k (mem_ob.1 hk) (by rw [e]; exact List.mem_cons_self ..)
  have H9 : Blk w9 j 75 _ := (k79.block j h.head.lt (fun hm => hjn j hm rfl)).trans h.head
  have ks : Keep [j] w9 ((w9.setCell ⟨j, 1, none⟩ v8).setCell ⟨j, 3, none⟩ v9) := ((Keep.refl _ _).setCell (a := ⟨j, 1, none⟩) (by simp) _).setCell (a := ⟨j, 3, none⟩) (by simp) _
  have HF : Blk ((w9.setCell ⟨j, 1, none⟩ v8).setCell ⟨j, 3, none⟩ v9) j 75 #[.pointer (some ⟨g, 0, none⟩), v8, vb, v9, .int .i64 J.next, .int .i64 J.fin, .bool J.closed] := (H9.set_ 1 v8).set_ 3 v9
  have hdk : ∀ k, k ∈ ob vn ++ ob vt → k ≠ g ∧ k ≠ gb ∧ k ≠ gp ∧ k ≠ gw := fun k hk => by
    have key : ∀ e cs fr, w7.heap[k]? = some (.cells cs e fr) → e ≠ 92 → e ≠ 99 → k ≠ g ∧ k ≠ gb ∧ k ≠ gp ∧ k ≠ gw := fun e cs fr hb h1 h2 => by
      obtain ⟨_, _, m1⟩ := Dk.ownsMap_obj hd.pend
      obtain ⟨_, _, m2⟩ := Dk.ownsMap_obj hd.worn
      have q1 := hd.head
      have q2 := hd.rows
      refine ⟨?_, ?_, ?_, ?_⟩ <;> intro e' <;> subst e'
      · rw [hb] at q1; injection q1 with q1; injection q1 with _ q1; exact h1 q1
      · rw [hb] at q2; injection q2 with q2; injection q2 with _ q2; exact h2 q2
      · rw [hb] at m1; cases m1
      · rw [hb] at m2; cases m2
    rcases List.mem_append.1 hk with hk | hk
    · obtain ⟨cs, fr, hb⟩ := own_block h.nums (mem_ob.1 hk); exact key _ _ _ hb (by decide) (by decide)
    · obtain ⟨cs, fr, hb⟩ := own_block h.texts (mem_ob.1 hk); exact key _ _ _ hb (by decide) (by decide)
  have d9 := hd.keep k79 hdk
  refine ⟨⟨HF, ?_, ?_, ?_, fun k hk e => ?_⟩, d9.keep ks (fun k hk => by rw [List.mem_singleton] at hk; rw [hk]; exact ne_disk H9 d9), ?_, G8.aged, fun k hk => ?_⟩
  · rw [List.length_append, List.length_singleton]; exact own_keepF n9 ks (row_ne H9 n9 (by decide))
  · exact own_keepF b9 ks (row_ne H9 b9 (by decide))
  · rw [List.length_append, List.length_singleton]; exact own_keepF o9 ks (row_ne H9 o9 (by decide))
  · rcases G8.aged k hk with e1 | e1
    · exact h.apart k e1 e
    · obtain ⟨cs, fr, hb⟩ := own_block h.bad e
      have := (Array.getElem?_eq_some_iff.1 hb).1
      omega
  · refine (k79.more (fun k hk => List.mem_cons_of_mem _ (List.mem_append_left _ hk))).trans (ks.more (fun k hk => by rw [List.mem_singleton] at hk; rw [hk]; exact List.mem_cons_self ..))
  · rcases ag9 k hk with e1 | e1
    · exact .inl e1
    · exact .inr (Nat.le_trans G8.keep.size e1)
section
variable (w : World) (j g : Nat) (vn vb vt : Value) (J : JV) (gb gp gw K : Nat) (S : Dk.St)
theorem app_closed (hJ : JAt w j g vn vb vt J) (hd : Dk.DiskAt w g gb gp gw K S) (s : ByteArray) (hc : J.closed = true) : Calls Tryz.prog 14 #[.pointer (some ⟨j, 0, none⟩), .string s] w (ApPost (appR J S s.data.toList) w j g gb gp gw (K + 200) vn vb vt) := by
  obtain ⟨_, _, _, _, _, _, c6⟩ := hJ.cells
  have HR := Lib.hid (show appR J S s.data.toList = ⟨0, 24, J, S⟩ by rw [appR, if_pos hc])
  have HJ := Lib.hid hJ
  have HD := Lib.hid hd
  rw [hc] at c6
  clear hJ hd hc
  go_enter Tryz.func14, Tryz.ntmps14
  go_wp2_with fail
  go_ret2
  rw [HR.out]
  exact ⟨vn, vt, rfl, HJ.out, HD.out.mono (by omega), Keep.refl _ _, Aged.refl _ _, Aged.refl _ _⟩
theorem app_limit (hJ : JAt w j g vn vb vt J) (hd : Dk.DiskAt w g gb gp gw K S) (s : ByteArray) (hc : J.closed = false) (hl : 8000 < s.size ∨ 4096 < J.next) : Calls Tryz.prog 14 #[.pointer (some ⟨j, 0, none⟩), .string s] w (ApPost (appR J S s.data.toList) w j g gb gp gw (K + 200) vn vb vt) := by
  obtain ⟨_, _, _, _, c4, _, c6⟩ := hJ.cells
  have HR := Lib.hid (show appR J S s.data.toList = ⟨0, 4, J, S⟩ by rw [appR, if_neg (by rw [hc]; decide), if_pos (by rw [list_size]; exact hl)])
  have HJ := Lib.hid hJ
  have HD := Lib.hid hd
  rw [hc] at c6
  generalize J.next = N at *
  clear hJ hd hc
  by_cases h8 : 8000 < s.size
  · have d1 : decide ((8000 : Int) < (s.size : Int)) = true := decide_eq_true (by omega)
    clear hl h8
    go_enter Tryz.func14, Tryz.ntmps14
    go_wp2_with fail
    go_ret2
    rw [HR.out]
    exact ⟨vn, vt, rfl, HJ.out, HD.out.mono (by omega), Keep.refl _ _, Aged.refl _ _, Aged.refl _ _⟩
  · have d1 : decide ((8000 : Int) < (s.size : Int)) = false := decide_eq_false (by omega)
    have d2 : decide ((4096 : Int) < N) = true := decide_eq_true (by omega)
    clear hl h8
    go_enter Tryz.func14, Tryz.ntmps14
    go_wp2_with fail
    go_ret2
    rw [HR.out]
    exact ⟨vn, vt, rfl, HJ.out, HD.out.mono (by omega), Keep.refl _ _, Aged.refl _ _, Aged.refl _ _⟩
theorem app_full (hJ : JAt w j g vn vb vt J) (hd : Dk.DiskAt w g gb gp gw K S) (s : ByteArray) (hc : J.closed = false) (h8 : s.size ≤ 8000) (hx : J.next ≤ 4096) (f0 : 0 ≤ J.fin) (f1 : J.fin ≤ 4096) (hf : (S.bl.length : Int) - J.fin < (countN s.size : Int)) : Calls Tryz.prog 14 #[.pointer (some ⟨j, 0, none⟩), .string s] w (ApPost (appR J S s.data.toList) w j g gb gp gw (K + 200) vn vb vt) := by
  obtain ⟨_, _, _, _, c4, _, c6⟩ := hJ.cells
  have HR := Lib.hid (show appR J S s.data.toList = ⟨0, 23, J, S⟩ by rw [appR, if_neg (by rw [hc]; decide), if_neg (by rw [list_size]; omega), if_pos (by rw [list_size]; exact hf)])
  have HJ := Lib.hid hJ
  have HD := Lib.hid hd
  have HRM := Lib.hid (fun w' hb => room_any w' j g vn vb vt J (hJ.below (w' := w') hb) (hd.below hb) f0 f1)
  have HCN := Lib.hid (fun w' => count_any (s.size : Int) w')
  rw [hc] at c6
  obtain ⟨N, hN⟩ : ∃ N, N = J.next := ⟨_, rfl⟩
  rw [← hN] at c4 hx
  have d1 : decide ((8000 : Int) < (s.size : Int)) = false := decide_eq_false (by omega)
  have d2 : decide ((4096 : Int) < N) = false := decide_eq_false (by omega)
  obtain ⟨C, hC⟩ : ∃ C, C = countI (s.size : Int) := ⟨_, rfl⟩
  rw [← hC] at HCN
  have hC2 : (C : Int) = (countN s.size : Int) := by rw [hC, countI_nat]
  obtain ⟨R, hR⟩ : ∃ R, R = (S.bl.length : Int) - J.fin := ⟨_, rfl⟩
  rw [← hR] at HRM hf
  have d3 : decide (R < (C : Int)) = true := decide_eq_true (by omega)
  clear hJ hd hc hN hC hC2 hR hf f0 f1 h8 hx
  go_enter Tryz.func14, Tryz.ntmps14
  go_wp2_with (first
    | (go_at_call 34; refine (HCN.out _).mono ?_; rintro e w2 ⟨rfl, rfl⟩)
    | (go_at_call 38; refine (HRM.out _ (Below.refl _ _)).mono ?_; rintro e w3 ⟨rfl, b3⟩; have HB3 := Lib.hid b3; clear b3))
  go_ret2
  rw [HR.out]
  exact ⟨vn, vt, rfl, HJ.out.below HB3.out, (HD.out.below HB3.out).mono (by omega), Keep.of_below HB3.out _, Aged.refl _ _, Aged.refl _ _⟩
set_option maxHeartbeats 4000000 in
set_option maxRecDepth 100000 in
theorem app_main (hJ : JAt w j g vn vb vt J) (hd : Dk.DiskAt w g gb gp gw K S) (hP : Dk.PendOK S) (hk : Consts w) (hK : K + 200 ≤ 100000) (s : ByteArray) (hc : J.closed = false) (h8 : s.size ≤ 8000) (hx1 : 1 ≤ J.next) (hx : J.next ≤ 4096) (f0 : 0 ≤ J.fin) (f1 : J.fin ≤ 4096) (hf : ¬ (S.bl.length : Int) - J.fin < (countN s.size : Int))
    (hn : J.nums.length ≤ 90000) (ht : J.texts.length ≤ 90000) : Calls Tryz.prog 14 #[.pointer (some ⟨j, 0, none⟩), .string s] w (ApPost (appR J S s.data.toList) w j g gb gp gw (K + 200) vn vb vt) := by
  obtain ⟨_, _, _, _, c4, c5, c6⟩ := hJ.cells
  have HR := Lib.hid (show appR J S s.data.toList = (if (apR J S s.data.toList).err ≠ 0 then ⟨0, (apR J S s.data.toList).err, { apJ1 J s.data.toList with closed := true }, (apR J S s.data.toList).S⟩ else if (apR J S s.data.toList).same = false then ⟨0, 25, apJ1 J s.data.toList, (apR J S s.data.toList).S⟩ else ⟨J.next, 0, { apJ1 J s.data.toList with nums := J.nums ++ [J.next], texts := J.texts ++ [s.data.toList] }, (apR J S s.data.toList).S⟩) by
    rw [appR, if_neg (by rw [hc]; decide), if_neg (by rw [list_size]; omega), if_neg (by rw [list_size]; exact hf)])
  have HJ := Lib.hid hJ
  have HD := Lib.hid hd
  have HP := Lib.hid hP
  have HK := Lib.hid hk
  have HRM := Lib.hid (fun w' hb => room_any w' j g vn vb vt J (hJ.below (w' := w') hb) (hd.below hb) f0 f1)
  have HCN := Lib.hid (fun w' => count_any (s.size : Int) w')
  have hn2 := hd.n2
  rw [hc] at c6
  obtain ⟨N, hN⟩ : ∃ N, N = J.next := ⟨_, rfl⟩
  obtain ⟨F, hF⟩ : ∃ F, F = J.fin := ⟨_, rfl⟩
  rw [← hN] at c4 hx hx1
  rw [← hF] at c5 f0 f1
  have d1 : decide ((8000 : Int) < (s.size : Int)) = false := decide_eq_false (by omega)
  have d2 : decide ((4096 : Int) < N) = false := decide_eq_false (by omega)
  obtain ⟨C, hC⟩ : ∃ C, C = countI (s.size : Int) := ⟨_, rfl⟩
  rw [← hC] at HCN
  have hC2 : C = countN s.size := by rw [hC, countI_nat]
  obtain ⟨R, hR⟩ : ∃ R, R = (S.bl.length : Int) - J.fin := ⟨_, rfl⟩
  rw [← hR] at HRM hf
  have d3 : decide (R < (C : Int)) = false := decide_eq_false (by rw [hC2]; exact hf)
  have hC200 : C ≤ 200 := by rw [hC2]; unfold countN; split <;> (try split) <;> omega
  have hFC : F + (C : Int) ≤ 4096 := by rw [hC2, hF]; rw [hR] at hf; omega
  have hNN : N.toNat = N.toNat := rfl
  have HPK := Lib.hid (fun w' hk' => packV_any N s w' hk')
  have hpv : packV N s.data.toList = packB N.toNat s.data.toList ∧ packE N s.data.toList = 0 := by
    have e : packE N s.data.toList = 0 := by unfold packE; rw [if_neg (by omega), if_neg (by rw [list_size]; omega)]
    exact ⟨by rw [packV, if_pos e], e⟩
  rw [hpv.1, hpv.2] at HPK
  obtain ⟨ss, hss⟩ : ∃ ss, ss = packB N.toNat s.data.toList := ⟨_, rfl⟩
  rw [← hss] at HPK
  have hsl : ss.length = C := by rw [hss, packB, List.length_map, List.length_range, list_size, hC2]
  have hs64 : ∀ x ∈ ss, x.length ≤ 1000000 := fun x hx => by
    rw [hss, packB, List.mem_map] at hx
    obtain ⟨i, _, rfl⟩ := hx
    rw [sect_len]; decide
  have HSL := Lib.hid hsl
  have HS64 := Lib.hid hs64
  have HSS := Lib.hid hss
  have HNF := Lib.hid (And.intro hN (And.intro hF hC2))
  clear hJ hd hP hk hc hN hF hC hC2 hR hf h8 hpv hss hsl hs64 hNN
  go_enter Tryz.func14, Tryz.ntmps14
  go_wp2_with (first
    | (go_at_call 34; refine (HCN.out _).mono ?_; rintro e w2 ⟨rfl, rfl⟩)
    | (go_at_call 38; refine (HRM.out _ (Below.refl _ _)).mono ?_; rintro e w3 ⟨rfl, b3⟩; have HB3 := Lib.hid b3; clear b3))
  have JT3 := Lib.hid (HJ.out.below HB3.out)
  have DT3 := Lib.hid (HD.out.below HB3.out)
  have c4' := JT3.out.cells.2.2.2.2.1
  have c5' := JT3.out.cells.2.2.2.2.2.1
  rw [← HNF.out.1] at c4'
  rw [← HNF.out.2.1] at c5'
  go_quiet (fail)
  have JT4 := Lib.hid (show JAt (w3.drewN nq) j g vn vb vt J from JT3.out.below (below_drewN' (Below.refl _ _) nq))
  have DT4 := Lib.hid (show Dk.DiskAt (w3.drewN nq) g gb gp gw K S from DT3.out.same rfl rfl rfl rfl)
  have B4 := Lib.hid (below_drewN' HB3.out nq)
  clear c4' c5'
  generalize w3.drewN nq = w4 at *
  go_wp2_with fail
  refine (HPK.out w4 (HK.out.below B4.out)).mono ?_
  rintro e w5 ⟨v5, rfl, own5, b5⟩
  rw [HSL.out] at own5
  obtain ⟨A5, cp5, rfl, _⟩ := own_slice own5
  have O5 := Lib.hid own5
  have JT5 := Lib.hid (JT4.out.below b5)
  have DT5 := Lib.hid (DT4.out.below b5)
  have B5 := Lib.hid (below_go B4.out b5)
  have HJ2 := Lib.hid (JT5.out.set_ 4 (.int .i64 (N + 1)) (J' := { J with next := N + 1 }) (by rw [← HNF.out.1]; rfl) rfl rfl rfl)
  have HJ3 := Lib.hid (HJ2.out.set_ 5 (.int .i64 (F + (C : Int))) (J' := { J with next := N + 1, fin := F + (C : Int) }) rfl rfl rfl rfl)
  have HJK : Hid (Keep [j] w5 ((w5.setCell ⟨j, 4, none⟩ (.int .i64 (N + 1))).setCell ⟨j, 5, none⟩ (.int .i64 (F + (C : Int))))) := Lib.hid (((Keep.refl _ _).setCell (a := ⟨j, 4, none⟩) (by simp) _).setCell (a := ⟨j, 5, none⟩) (by simp) _)
  have q4 := JT5.out.cells.2.2.2.2.1
  have q5 := JT5.out.cells.2.2.2.2.2.1
  rw [← HNF.out.1] at q4
  rw [← HNF.out.2.1] at q5
  have r4 := JT5.out.head.frozen 4
  have r5 := JT5.out.head.frozen 5
  have wN : IntKind.i64.wrap (N + 1) = N + 1 := IntWalk.i64_in _ (by omega)
  have wF : IntKind.i64.wrap (F + (C : Int)) = F + (C : Int) := IntWalk.i64_in _ (by omega)
  have hBL := Lib.hid (show ∀ b off, A5 = some ⟨b, off, none⟩ → w4.heap.size ≤ b from fun b off e => by
    rcases own5.2 with ⟨h1, _⟩ | ⟨g', cap, cur, hv, hb, _⟩
    · injection h1 with h1; rw [h1] at e; cases e
    · injection hv with h1 _ _; rw [h1] at e; injection e with e; injection e with e1 _ _; omega)
  clear own5 b5
  go_wp2_with fail
  have D6 := Lib.hid (DT5.out.keep HJK.out (fun k hk => by rw [List.mem_singleton] at hk; rw [hk]; exact ne_disk JT5.out.head DT5.out))
  have R6 := Lib.hid (Rd.of_own (own_keepF O5.out HJK.out (row_ne JT5.out.head (own_base O5.out (Nat.zero_le _)) (by decide))))
  have HBN := Lib.hid (show ∀ b off, A5 = some ⟨b, off, none⟩ → b ∉ [g, gb, gp, gw] from fun b off e hm => by
    have h1 := hBL.out b off e
    obtain ⟨l1, l2, l3, l4⟩ := DT4.out.lt
    simp only [List.mem_cons, List.not_mem_nil, or_false] at hm
    omega)
  have K6 := Lib.hid (show Keep (j :: (ob vn ++ ob vt ++ [g, gb, gp, gw])) w ((w5.setCell ⟨j, 4, none⟩ (.int .i64 (N + 1))).setCell ⟨j, 5, none⟩ (.int .i64 (F + (C : Int)))) from (Keep.of_below B5.out _).trans (HJK.out.more (fun k hk => by rw [List.mem_singleton] at hk; rw [hk]; exact List.mem_cons_self ..)))
  generalize (w5.setCell ⟨j, 4, none⟩ (.int .i64 (N + 1))).setCell ⟨j, 5, none⟩ (.int .i64 (F + (C : Int))) = w6 at *
  refine (jwrite_any w6 j g vn vb vt _ gb gp gw K S HJ3.out D6.out HP.out F f0 f1 A5 C cp5 ss HSL.out hC200 (by omega) R6.out HBN.out HS64.out).mono ?_
  rintro e w7 ⟨rfl, d7, k7⟩
  obtain ⟨r, hr⟩ : ∃ r, r = writeR S F ss := ⟨_, rfl⟩
  rw [← hr] at d7 ⊢
  have HRR := Lib.hid (show apR J S s.data.toList = r by rw [hr, apR, ← HNF.out.2.1, ← HNF.out.1, ← HSS.out])
  have HA1 := Lib.hid (show apJ1 J s.data.toList = { J with next := N + 1, fin := F + (C : Int) } by rw [apJ1, ← HNF.out.1, ← HNF.out.2.1, list_size, HNF.out.2.2])
  have D7 := Lib.hid d7
  have J7 := Lib.hid (HJ3.out.disk D6.out k7)
  have K7 := Lib.hid (K6.out.trans (k7.more (fun k hk => List.mem_cons_of_mem _ (List.mem_append_right _ hk))))
  have q6 := J7.out.cells.2.2.2.2.2.2
  have r6 := J7.out.head.frozen 6
  obtain ⟨E, hE⟩ : ∃ E, E = r.err := ⟨_, rfl⟩
  obtain ⟨bs, hbs⟩ : ∃ bs, bs = r.same := ⟨_, rfl⟩
  rw [← hE, ← hbs]
  have HE := Lib.hid hE
  have HBS := Lib.hid hbs
  clear d7 k7 hr hE hbs q4 q5 r4 r5
  by_cases h0 : E = 0
  · subst h0
    cases bs
    · have HRF := Lib.hid (show appR J S s.data.toList = ⟨0, 25, apJ1 J s.data.toList, r.S⟩ by rw [HR.out, HRR.out, if_neg (by rw [← HE.out]; exact fun h => h rfl), if_pos HBS.out.symm])
      go_wp2_with fail
      go_ret2
      rw [HRF.out]
      exact ⟨vn, vt, rfl, by rw [HA1.out]; exact J7.out, D7.out.mono (by omega), K7.out, Aged.refl _ _, Aged.refl _ _⟩
    · have HRF := Lib.hid (show appR J S s.data.toList = ⟨J.next, 0, { apJ1 J s.data.toList with nums := J.nums ++ [J.next], texts := J.texts ++ [s.data.toList] }, r.S⟩ by rw [HR.out, HRR.out, if_neg (by rw [← HE.out]; exact fun h => h rfl), if_neg (by rw [← HBS.out]; decide)])
      have JD := Lib.hid (show JAt w7.drew j g vn vb vt { J with next := N + 1, fin := F + (C : Int) } from J7.out.below (below_drewN' (Below.refl _ _) 1))
      have s1 := JD.out.cells.2.1
      have s3 := JD.out.cells.2.2.2.1
      obtain ⟨z, hz⟩ : ∃ z, z = s.data.toList := ⟨_, rfl⟩
      have HZS := Lib.hid hz
      have HZ := Lib.hid (show str z = .string s from (str_of hz.symm).symm)
      have hlt7 := J7.out.head.lt
      have hj : ∀ (X : World), Below w7.heap.size w7 X → X.cell? ⟨j, 1, none⟩ = some vn ∧ X.cell? ⟨j, 3, none⟩ = some vt := fun X hX => ⟨(hX.cell (p := ⟨j, 1, none⟩) hlt7).trans J7.out.cells.2.1, (hX.cell (p := ⟨j, 3, none⟩) hlt7).trans J7.out.cells.2.2.2.1⟩
      have D0 : Below w7.heap.size w7 w7.drew := below_drewN' (Below.refl _ _) 1
      have DI : Below w7.heap.size w7 (w7.alloc (.cells #[.int .i64 N] 3)).drew := below_drewN' (below_new w7 _) 1
      have DS : Below w7.heap.size w7 (w7.alloc (.cells #[.string s] 9)).drew := below_drewN' (below_new w7 _) 1
      have DIS : Below w7.heap.size w7 ((w7.alloc (.cells #[.int .i64 N] 3)).alloc (.cells #[.string s] 9)).drew := below_drewN' ((below_new w7 _).alloc (by simp) _) 1
      have DSI : Below w7.heap.size w7 ((w7.alloc (.cells #[.string s] 9)).alloc (.cells #[.int .i64 N] 3)).drew := below_drewN' ((below_new w7 _).alloc (by simp) _) 1
      obtain ⟨a1, a3⟩ := hj _ DI
      obtain ⟨b1, b3⟩ := hj _ DS
      obtain ⟨c1, c3⟩ := hj _ DIS
      obtain ⟨e1, e3⟩ := hj _ DSI
      have mI : (w7.alloc (.cells #[.int .i64 N] 3)).drew.cell? ⟨w7.heap.size, 0, none⟩ = some (.int .i64 N) := (Blk.new w7 3 #[.int .i64 N]).cell 0
      have mIS : ((w7.alloc (.cells #[.int .i64 N] 3)).alloc (.cells #[.string s] 9)).drew.cell? ⟨w7.heap.size, 0, none⟩ = some (.int .i64 N) := (World.cell?_alloc_lt _ _ ⟨w7.heap.size, 0, none⟩ (by simp)).trans mI
      have mSI : ((w7.alloc (.cells #[.string s] 9)).alloc (.cells #[.int .i64 N] 3)).drew.cell? ⟨w7.heap.size + 1, 0, none⟩ = some (.int .i64 N) := by
        have := (Blk.new (w7.alloc (.cells #[.string s] 9)) 3 #[.int .i64 N]).cell 0
        rw [World.size_alloc] at this
        exact this
      have nIS : ((w7.alloc (.cells #[.int .i64 N] 3)).alloc (.cells #[.string s] 9)).drew.cell? ⟨w7.heap.size + 1, 0, none⟩ = some (.string s) := by
        have := (Blk.new (w7.alloc (.cells #[.int .i64 N] 3)) 9 #[.string s]).cell 0
        rw [World.size_alloc] at this
        exact this
      have nSI : ((w7.alloc (.cells #[.string s] 9)).alloc (.cells #[.int .i64 N] 3)).drew.cell? ⟨w7.heap.size, 0, none⟩ = some (.string s) :=
        (World.cell?_alloc_lt _ _ ⟨w7.heap.size, 0, none⟩ (by simp)).trans ((Blk.new w7 9 #[.string s]).cell 0)
      have HSS2 := Lib.hid (And.intro nIS nSI)
      have HVN := Lib.hid (fun i hi => (J7.out.nums.lt i hi).2)
      clear nIS nSI
      have HMM := Lib.hid (And.intro mI (And.intro mIS mSI))
      have HDD := Lib.hid (And.intro DI (And.intro DIS DSI))
      clear hj mI mIS mSI D0 DI DS DIS DSI
      go_wp2_with fail
      have hjn : j ∉ ob vn := fun hm => row_ne J7.out.head J7.out.nums (by decide) j (mem_ob.1 hm) (List.mem_cons_self ..)
      have hjt : j ∉ ob vt := fun hm => row_ne J7.out.head J7.out.texts (by decide) j (mem_ob.1 hm) (List.mem_cons_self ..)
      have HJN := Lib.hid (And.intro hjn hjt)
      have HLT := Lib.hid hlt7
      clear hjn hjt hlt7
      go_region_law (first
          | (refine step_appI (by rfl) _ _ (by rfl) (by rfl) vn J.nums.length J.nums (by rfl) (by first | exact J7.out.nums.alloc _ | exact (J7.out.nums.alloc _).alloc _) N _ (by rfl) (by first | exact HMM.out.1 | exact HMM.out.2.1 | exact HMM.out.2.2) (by omega) ?_; intro A8 c8 w8 o8 g8 h8; have G8 := Lib.hid (grew (w := w7) (by first | exact HDD.out.1 | exact HDD.out.2.1 | exact HDD.out.2.2) g8 h8); have O8 := Lib.hid o8; have T8 := Lib.hid (own_keepF J7.out.texts G8.out.keep (types_ne J7.out.texts J7.out.nums (by decide))); have p1 := (G8.out.keep.cell (p := ⟨j, 1, none⟩) HLT.out HJN.out.1).trans J7.out.cells.2.1; have p3 := (G8.out.keep.cell (p := ⟨j, 3, none⟩) HLT.out HJN.out.1).trans J7.out.cells.2.2.2.1; have p5 := (World.cell?_alloc_lt w8 (.cells #[.string s] 9) ⟨j, 3, none⟩ (Nat.lt_of_lt_of_le HLT.out G8.out.keep.size)).trans p3; have nA : (w8.alloc (.cells #[.string s] 9)).cell? ⟨w8.heap.size, 0, none⟩ = some (.string s) := (Blk.new w8 9 #[.string s]).cell 0; first | (have nB : w8.cell? ⟨w7.heap.size + 1, 0, none⟩ = some (.string s) := (by with_reducible exact (cell_keep g8 HVN.out (Nat.le_succ _) (by simp)).trans HSS2.out.1)) | (have nB : w8.cell? ⟨w7.heap.size, 0, none⟩ = some (.string s) := (by with_reducible exact (cell_keep g8 HVN.out (Nat.le_refl _) (by simp <;> omega)).trans HSS2.out.2)) | skip; clear g8 h8 o8; (try clear a1 a3); (try clear b1 b3); (try clear c1 c3); (try clear e1 e3))
          | (refine step_appS (by rfl) _ _ (by rfl) (by rfl) vt J.texts.length J.texts (by rfl) (by first | exact T8.out | exact T8.out.alloc _) z _ (by rfl) (by rw [HZ.out]; assumption) (by omega) ?_; intro A9 c9 w9 o9 g9 h9; have G9 := Lib.hid (grew (w := w8) (by first | exact Below.refl _ _ | exact below_new _ _) g9 h9); have O9 := Lib.hid o9; have K9 := Lib.hid ((G8.out.keep.more (G := ob vn ++ ob vt) (fun _ hk => List.mem_append_left _ hk)).trans (G9.out.keep.more (fun _ hk => List.mem_append_right _ hk))); have H9 : Blk w9 j 75 _ := (K9.out.block j HLT.out (fun hm => by rcases List.mem_append.1 hm with hm | hm; exact HJN.out.1 hm; exact HJN.out.2 hm)).trans J7.out.head; have r1 := H9.cell 1; have r3 := H9.cell 3; have t1 := H9.frozen 1; have t3 := H9.frozen 3; simp only [List.getElem?_toArray, List.getElem?_cons_zero, List.getElem?_cons_succ] at r1 r3; clear g9 h9 o9 H9))
      all_goals
        clear r1 r3 t1 t3 nA p1 p3 p5
        go_wp2_with fail
        go_ret2
        obtain ⟨f1, f2, f3, f4, f5⟩ := fin_app J7.out D7.out N z G8.out O8.out G9.out.keep G9.out.aged O9.out
        rw [HRF.out]
        have HNJ := HNF.out.1
        refine ⟨_, _, by rw [HNJ]; rfl, ?_, f2.mono (by omega), K7.out.trans f3, f4.older K7.out.size, f5.older K7.out.size⟩
        rw [HA1.out, ← HNJ, ← HZS.out]
        exact f1
  · have hb : (E == 0) = false := beq_eq_false_iff_ne.2 h0
    have HRF := Lib.hid (show appR J S s.data.toList = ⟨0, E, { apJ1 J s.data.toList with closed := true }, r.S⟩ by rw [HR.out, HRR.out, if_pos (by rw [← HE.out]; exact h0), ← HE.out])
    have J8 := Lib.hid (J7.out.set_ 6 (.bool true) (J' := { J with next := N + 1, fin := F + (C : Int), closed := true }) rfl rfl rfl rfl)
    have hk8 : Keep [j] w7 (w7.setCell ⟨j, 6, none⟩ (.bool true)) := (Keep.refl _ _).setCell (a := ⟨j, 6, none⟩) (by simp) _
    have D8 := Lib.hid (D7.out.keep hk8 (fun k hk => by rw [List.mem_singleton] at hk; rw [hk]; exact ne_disk J7.out.head D7.out))
    have K8 := Lib.hid (K7.out.trans (hk8.more (fun k hk => by rw [List.mem_singleton] at hk; rw [hk]; exact List.mem_cons_self ..)))
    clear h0 hk8
    go_wp2_with fail
    go_ret2
    rw [HRF.out]
    exact ⟨vn, vt, rfl, by rw [HA1.out]; exact J8.out, D8.out.mono (by omega), K8.out, Aged.refl _ _, Aged.refl _ _⟩
end
end Go.Proofs.YtddpjahoeldleaaGreatDoor
