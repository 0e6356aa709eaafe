/- Do: one operation of a script on the reference's disk. -/
import Derived.Test.YtibhnjnfifpepaaRefOps3
namespace Go.Proofs.Ytibhnjnfifpepaa
open Go.RowKit Go.Maps

def rDoE (T : RSt) (o : OpV) : Int :=
  if o.k = 1 then rWriteE T o.i (padB o.t.data.toList) else if o.k = 2 then rReadE T o.i else if o.k = 3 then rFlushE T else if o.k = 6 then rRotE T o.i o.bit else if o.k = 7 then rWearE T o.i else 0
def rDoT (T : RSt) (o : OpV) : Bs := if o.k = 2 then rReadB T o.i else []
theorem rdo_post {w w2 : World} {r gs : Nat} {T T' : RSt} {b : Bs} {e : Int} (o : Obj) (hT : T = T') (h : RefAt w2 r gs T) (k : Keep [r, gs] (w.alloc o) w2) : RPost (StrErr b e) r gs T' w (.returned (.tuple #[.string ⟨b.toArray⟩, .int .i64 e])) w2 := by
  rw [← hT]
  exact ⟨rfl, h, ((Keep.refl _ w).alloc o).trans k⟩
theorem RefAt.go {w w' : World} {r gs : Nat} {T : RSt} (h : RefAt w r gs T) (hb : Below w.heap.size w w') : RefAt w' r gs T := h.below hb h.lt.1 h.lt.2
set_option maxHeartbeats 2000000 in
set_option maxRecDepth 100000 in
theorem rdo_read (w : World) (r gs : Nat) (T : RSt) (h : RefAt w r gs T) (o : OpV) (ho : OpAt w w.heap.size o) (hpF : 0 < o.n → ∀ b x, o.A = some ⟨b, x, none⟩ → b ∉ [r, gs]) (hk : o.k = 2) :
    Calls Try.prog 24 #[.pointer (some ⟨r, 0, none⟩), opVal o] w (RPost (StrErr (rDoT T o) (rDoE T o)) r gs (rDoS T o) w) := by
  obtain ⟨k, i, bit, t, A, n, c, ps⟩ := o
  obtain rfl : k = 2 := hk
  obtain ⟨_, _, i1, i2, b1, b2, t2, n2, hr⟩ := ho
  dsimp only at i1 i2 b1 b2 t2 n2 hr hpF
  have H := Lib.hid (h.go (below_new w (.cells #[.int .i64 2, .int .i64 i, .int .i64 bit, .string t, .slice A n c] 44)))
  have HI1 := Lib.hid i1
  have HI2 := Lib.hid i2
  have HT := Lib.hid t2
  have HN := Lib.hid n2
  have HR := Lib.hid (hr.below (below_new w (.cells #[.int .i64 2, .int .i64 i, .int .i64 bit, .string t, .slice A n c] 44)))
  have e1 : rDoT T ⟨2, i, bit, t, A, n, c, ps⟩ = rReadB T i := rfl
  have e2 : rDoE T ⟨2, i, bit, t, A, n, c, ps⟩ = rReadE T i := rfl
  have e3 : rDoS T ⟨2, i, bit, t, A, n, c, ps⟩ = T := rfl
  rw [e1, e2, e3]
  unfold opVal
  clear h e1 e2 e3 i1 i2 b1 b2 t2 n2 hr
  go_enter Try.func24, Try.ntmps24
  go_wp2_with fail
  refine (rread_any _ r gs T H.out i).mono ?_
  rintro e w2 ⟨rfl, rfl⟩
  unfold StrErr
  have K2 := Lib.hid (Keep.refl [r, gs] (w.alloc (.cells #[.int .i64 2, .int .i64 i, .int .i64 bit, .string t, .slice A n c] 44)))
  have H2 := H
  go_wp2_with fail
  go_ret2
  exact rdo_post _ rfl H2.out K2.out
set_option maxHeartbeats 2000000 in
set_option maxRecDepth 100000 in
theorem rdo_flush (w : World) (r gs : Nat) (T : RSt) (h : RefAt w r gs T) (o : OpV) (ho : OpAt w w.heap.size o) (hpF : 0 < o.n → ∀ b x, o.A = some ⟨b, x, none⟩ → b ∉ [r, gs]) (hk : o.k = 3) :
    Calls Try.prog 24 #[.pointer (some ⟨r, 0, none⟩), opVal o] w (RPost (StrErr (rDoT T o) (rDoE T o)) r gs (rDoS T o) w) := by
  obtain ⟨k, i, bit, t, A, n, c, ps⟩ := o
  obtain rfl : k = 3 := hk
  obtain ⟨_, _, i1, i2, b1, b2, t2, n2, hr⟩ := ho
  dsimp only at i1 i2 b1 b2 t2 n2 hr hpF
  have H := Lib.hid (h.go (below_new w (.cells #[.int .i64 3, .int .i64 i, .int .i64 bit, .string t, .slice A n c] 44)))
  have HI1 := Lib.hid i1
  have HI2 := Lib.hid i2
  have HT := Lib.hid t2
  have HN := Lib.hid n2
  have HR := Lib.hid (hr.below (below_new w (.cells #[.int .i64 3, .int .i64 i, .int .i64 bit, .string t, .slice A n c] 44)))
  have e1 : rDoT T ⟨3, i, bit, t, A, n, c, ps⟩ = [] := rfl
  have e2 : rDoE T ⟨3, i, bit, t, A, n, c, ps⟩ = rFlushE T := rfl
  have e3 : rDoS T ⟨3, i, bit, t, A, n, c, ps⟩ = rFlushS T := rfl
  rw [e1, e2, e3]
  unfold opVal
  clear h e1 e2 e3 i1 i2 b1 b2 t2 n2 hr
  go_enter Try.func24, Try.ntmps24
  go_wp2_with fail
  refine (rflush_any _ r gs T H.out).mono ?_
  rintro e w2 ⟨rfl, h2, k2⟩
  have H2 := Lib.hid h2
  have K2 := Lib.hid k2
  clear h2 k2
  go_wp2_with fail
  go_ret2
  exact rdo_post _ rfl H2.out K2.out
set_option maxHeartbeats 2000000 in
set_option maxRecDepth 100000 in
theorem rdo_trip (w : World) (r gs : Nat) (T : RSt) (h : RefAt w r gs T) (o : OpV) (ho : OpAt w w.heap.size o) (hpF : 0 < o.n → ∀ b x, o.A = some ⟨b, x, none⟩ → b ∉ [r, gs]) (hk : o.k = 4) :
    Calls Try.prog 24 #[.pointer (some ⟨r, 0, none⟩), opVal o] w (RPost (StrErr (rDoT T o) (rDoE T o)) r gs (rDoS T o) w) := by
  obtain ⟨k, i, bit, t, A, n, c, ps⟩ := o
  obtain rfl : k = 4 := hk
  obtain ⟨_, _, i1, i2, b1, b2, t2, n2, hr⟩ := ho
  dsimp only at i1 i2 b1 b2 t2 n2 hr hpF
  have H := Lib.hid (h.go (below_new w (.cells #[.int .i64 4, .int .i64 i, .int .i64 bit, .string t, .slice A n c] 44)))
  have HI1 := Lib.hid i1
  have HI2 := Lib.hid i2
  have HT := Lib.hid t2
  have HN := Lib.hid n2
  have HR := Lib.hid (hr.below (below_new w (.cells #[.int .i64 4, .int .i64 i, .int .i64 bit, .string t, .slice A n c] 44)))
  have e1 : rDoT T ⟨4, i, bit, t, A, n, c, ps⟩ = [] := rfl
  have e2 : rDoE T ⟨4, i, bit, t, A, n, c, ps⟩ = 0 := rfl
  have e3 : rDoS T ⟨4, i, bit, t, A, n, c, ps⟩ = rTripS T i := rfl
  rw [e1, e2, e3]
  unfold opVal
  clear h e1 e2 e3 i1 i2 b1 b2 t2 n2 hr
  go_enter Try.func24, Try.ntmps24
  go_wp2_with fail
  refine (rtrip_any _ r gs T H.out i HI1.out HI2.out).mono ?_
  rintro e w2 ⟨rfl, h2, k2⟩
  have H2 := Lib.hid h2
  have K2 := Lib.hid k2
  clear h2 k2
  go_wp2_with fail
  go_ret2
  exact rdo_post _ rfl H2.out K2.out
set_option maxHeartbeats 2000000 in
set_option maxRecDepth 100000 in
theorem rdo_mount (w : World) (r gs : Nat) (T : RSt) (h : RefAt w r gs T) (o : OpV) (ho : OpAt w w.heap.size o) (hpF : 0 < o.n → ∀ b x, o.A = some ⟨b, x, none⟩ → b ∉ [r, gs]) (hk : o.k = 5) :
    Calls Try.prog 24 #[.pointer (some ⟨r, 0, none⟩), opVal o] w (RPost (StrErr (rDoT T o) (rDoE T o)) r gs (rDoS T o) w) := by
  obtain ⟨k, i, bit, t, A, n, c, ps⟩ := o
  obtain rfl : k = 5 := hk
  obtain ⟨_, _, i1, i2, b1, b2, t2, n2, hr⟩ := ho
  dsimp only at i1 i2 b1 b2 t2 n2 hr hpF
  have H := Lib.hid (h.go (below_new w (.cells #[.int .i64 5, .int .i64 i, .int .i64 bit, .string t, .slice A n c] 44)))
  have HI1 := Lib.hid i1
  have HI2 := Lib.hid i2
  have HT := Lib.hid t2
  have HN := Lib.hid n2
  have HR := Lib.hid (hr.below (below_new w (.cells #[.int .i64 5, .int .i64 i, .int .i64 bit, .string t, .slice A n c] 44)))
  have e1 : rDoT T ⟨5, i, bit, t, A, n, c, ps⟩ = [] := rfl
  have e2 : rDoE T ⟨5, i, bit, t, A, n, c, ps⟩ = 0 := rfl
  have e3 : rDoS T ⟨5, i, bit, t, A, n, c, ps⟩ = rMountS T ps := rfl
  rw [e1, e2, e3]
  unfold opVal
  clear h e1 e2 e3 i1 i2 b1 b2 t2 n2 hr
  go_enter Try.func24, Try.ntmps24
  go_wp2_with fail
  refine (rmount_any _ r gs T H.out A n c ps (HR.out.more (by simp)) HN.out hpF).mono ?_
  rintro e w2 ⟨rfl, h2, k2⟩
  have H2 := Lib.hid h2
  have K2 := Lib.hid k2
  clear h2 k2
  go_wp2_with fail
  go_ret2
  exact rdo_post _ rfl H2.out K2.out
set_option maxHeartbeats 2000000 in
set_option maxRecDepth 100000 in
theorem rdo_rot (w : World) (r gs : Nat) (T : RSt) (h : RefAt w r gs T) (o : OpV) (ho : OpAt w w.heap.size o) (hpF : 0 < o.n → ∀ b x, o.A = some ⟨b, x, none⟩ → b ∉ [r, gs]) (hk : o.k = 6) :
    Calls Try.prog 24 #[.pointer (some ⟨r, 0, none⟩), opVal o] w (RPost (StrErr (rDoT T o) (rDoE T o)) r gs (rDoS T o) w) := by
  obtain ⟨k, i, bit, t, A, n, c, ps⟩ := o
  obtain rfl : k = 6 := hk
  obtain ⟨_, _, i1, i2, b1, b2, t2, n2, hr⟩ := ho
  dsimp only at i1 i2 b1 b2 t2 n2 hr hpF
  have H := Lib.hid (h.go (below_new w (.cells #[.int .i64 6, .int .i64 i, .int .i64 bit, .string t, .slice A n c] 44)))
  have HI1 := Lib.hid i1
  have HI2 := Lib.hid i2
  have HT := Lib.hid t2
  have HN := Lib.hid n2
  have HR := Lib.hid (hr.below (below_new w (.cells #[.int .i64 6, .int .i64 i, .int .i64 bit, .string t, .slice A n c] 44)))
  have e1 : rDoT T ⟨6, i, bit, t, A, n, c, ps⟩ = [] := rfl
  have e2 : rDoE T ⟨6, i, bit, t, A, n, c, ps⟩ = rRotE T i bit := rfl
  have e3 : rDoS T ⟨6, i, bit, t, A, n, c, ps⟩ = rRotS T i bit := rfl
  rw [e1, e2, e3]
  unfold opVal
  clear h e1 e2 e3 i1 i2 b1 b2 t2 n2 hr
  go_enter Try.func24, Try.ntmps24
  go_wp2_with fail
  refine (rrot_any _ r gs T H.out i bit).mono ?_
  rintro e w2 ⟨rfl, h2, k2⟩
  have H2 := Lib.hid h2
  have K2 := Lib.hid k2
  clear h2 k2
  go_wp2_with fail
  go_ret2
  exact rdo_post _ rfl H2.out K2.out
set_option maxHeartbeats 2000000 in
set_option maxRecDepth 100000 in
theorem rdo_wear (w : World) (r gs : Nat) (T : RSt) (h : RefAt w r gs T) (o : OpV) (ho : OpAt w w.heap.size o) (hpF : 0 < o.n → ∀ b x, o.A = some ⟨b, x, none⟩ → b ∉ [r, gs]) (hk : o.k = 7) :
    Calls Try.prog 24 #[.pointer (some ⟨r, 0, none⟩), opVal o] w (RPost (StrErr (rDoT T o) (rDoE T o)) r gs (rDoS T o) w) := by
  obtain ⟨k, i, bit, t, A, n, c, ps⟩ := o
  obtain rfl : k = 7 := hk
  obtain ⟨_, _, i1, i2, b1, b2, t2, n2, hr⟩ := ho
  dsimp only at i1 i2 b1 b2 t2 n2 hr hpF
  have H := Lib.hid (h.go (below_new w (.cells #[.int .i64 7, .int .i64 i, .int .i64 bit, .string t, .slice A n c] 44)))
  have HI1 := Lib.hid i1
  have HI2 := Lib.hid i2
  have HT := Lib.hid t2
  have HN := Lib.hid n2
  have HR := Lib.hid (hr.below (below_new w (.cells #[.int .i64 7, .int .i64 i, .int .i64 bit, .string t, .slice A n c] 44)))
  have e1 : rDoT T ⟨7, i, bit, t, A, n, c, ps⟩ = [] := rfl
  have e2 : rDoE T ⟨7, i, bit, t, A, n, c, ps⟩ = rWearE T i := rfl
  have e3 : rDoS T ⟨7, i, bit, t, A, n, c, ps⟩ = rWearS T i := rfl
  rw [e1, e2, e3]
  unfold opVal
  clear h e1 e2 e3 i1 i2 b1 b2 t2 n2 hr
  go_enter Try.func24, Try.ntmps24
  go_wp2_with fail
  refine (rwear_any _ r gs T H.out i).mono ?_
  rintro e w2 ⟨rfl, h2, k2⟩
  have H2 := Lib.hid h2
  have K2 := Lib.hid k2
  clear h2 k2
  go_wp2_with fail
  go_ret2
  exact rdo_post _ rfl H2.out K2.out
theorem RefAt.heap {w w' : World} {r gs : Nat} {T : RSt} (h : RefAt w r gs T) (e : w'.heap = w.heap) : RefAt w' r gs T :=
  ⟨(congrArg (fun a : Array Obj => a[r]?) e).trans h.head, (congrArg (fun a : Array Obj => a[gs]?) e).trans h.rows, h.ne, h.t64, h.n64, h.n1, h.n2, h.l1, h.l2⟩
set_option maxHeartbeats 4000000 in
set_option maxRecDepth 100000 in
theorem rdo_write (w : World) (r gs : Nat) (T : RSt) (h : RefAt w r gs T) (o : OpV) (ho : OpAt w w.heap.size o) (hk : o.k = 1) :
    Calls Try.prog 24 #[.pointer (some ⟨r, 0, none⟩), opVal o] w (RPost (StrErr (rDoT T o) (rDoE T o)) r gs (rDoS T o) w) := by
  obtain ⟨k, i, bit, t, A, n, c, ps⟩ := o
  obtain rfl : k = 1 := hk
  obtain ⟨_, _, i1, i2, _, _, t2, _, _⟩ := ho
  dsimp only at i1 i2 t2
  obtain ⟨w1, hw1⟩ : ∃ w1, w1 = w.alloc (.cells #[.int .i64 1, .int .i64 i, .int .i64 bit, .string t, .slice A n c] 44) := ⟨_, rfl⟩
  have hlt := h.lt
  have hb1 : Below w.heap.size w w1 := by rw [hw1]; exact below_new w _
  have H := Lib.hid (show RefAt w1.drew r gs T from RefAt.heap (h.go hb1) rfl)
  have HB1 := Lib.hid hb1
  have HI1 := Lib.hid i1
  have HI2 := Lib.hid i2
  have HT := Lib.hid t2
  have hB := Blk.new w 44 #[.int .i64 1, .int .i64 i, .int .i64 bit, .string t, .slice A n c]
  rw [← hw1] at hB
  have f0 : w1.cell? ⟨w.heap.size, 0, none⟩ = some (.int .i64 1) := hB.cell 0
  have f1 : w1.cell? ⟨w.heap.size, 1, none⟩ = some (.int .i64 i) := hB.cell 1
  have f2 : w1.cell? ⟨w.heap.size, 2, none⟩ = some (.int .i64 bit) := hB.cell 2
  have f3 : w1.cell? ⟨w.heap.size, 3, none⟩ = some (.string t) := hB.cell 3
  have f4 : w1.cell? ⟨w.heap.size, 4, none⟩ = some (.slice A n c) := hB.cell 4
  have HL := Lib.hid hlt
  have e1 : rDoT T ⟨1, i, bit, t, A, n, c, ps⟩ = [] := rfl
  have e2 : rDoE T ⟨1, i, bit, t, A, n, c, ps⟩ = rWriteE T i (padB t.data.toList) := rfl
  have e3 : rDoS T ⟨1, i, bit, t, A, n, c, ps⟩ = rWriteS T i (padB t.data.toList) := rfl
  rw [e1, e2, e3]
  unfold opVal
  clear h e1 e2 e3 i1 i2 t2 hlt hb1 hB
  go_enter Try.func24, Try.ntmps24
  go_wp2_with fail
  rw [← hw1]
  have HZ := Lib.hid (show w.heap.size < w1.drew.heap.size by rw [hw1]; simp [World.drew])
  clear hw1
  go_region_held3 (fun W => W.cell? ⟨w.heap.size, 0, none⟩ = some (.int .i64 1) ∧ W.cell? ⟨w.heap.size, 1, none⟩ = some (.int .i64 i) ∧ W.cell? ⟨w.heap.size, 2, none⟩ = some (.int .i64 bit) ∧ W.cell? ⟨w.heap.size, 3, none⟩ = some (.string t) ∧ W.cell? ⟨w.heap.size, 4, none⟩ = some (.slice A n c))
    (first | exact ⟨f0, f1, f2, f3, f4⟩ | exact F3.out | exact F4.out | go_keep)
    (first
      | (go_at_call 21
         refine (text_any _ 1 i bit t _ HT.out).mono ?_
         rintro e w3 ⟨rfl, b3⟩
         have D3 := Lib.hid (H.out.go b3)
         have Z3 := Lib.hid (Nat.lt_of_lt_of_le HZ.out b3.size)
         have F3 := Lib.hid (cells5 (W := w1.drew) (fun p hp => b3.cell (by rw [hp]; exact HZ.out)) f0 f1 f2 f3 f4)
         have B3 := Lib.hid b3
         clear b3)
      | (go_at_call 38
         refine (rwrite_any _ r gs T D3.out i ⟨(padB t.data.toList).toArray⟩ (padB_size t HT.out)).mono ?_
         rintro e w4 ⟨rfl, d4, k4⟩
         have D4 := Lib.hid d4
         have F4 := Lib.hid (cells5 (W := w3) (fun p hp => k4.cell (by rw [hp]; exact Z3.out) (by rw [hp]; have := HL.out; simp; omega)) F3.out.1 F3.out.2.1 F3.out.2.2.1 F3.out.2.2.2.1 F3.out.2.2.2.2)
         have K4 := Lib.hid k4
         clear d4 k4))
  go_wp2_with fail
  go_ret2
  exact ⟨rfl, D4.out, (((Keep.of_below HB1.out _).drew).trans (Keep.of_below B3.out _)).trans K4.out⟩

set_option maxHeartbeats 2000000 in
set_option maxRecDepth 100000 in
theorem rdo_other (w : World) (r gs : Nat) (T : RSt) (h : RefAt w r gs T) (o : OpV) (hk : o.k < 1 ∨ 7 < o.k) :
    Calls Try.prog 24 #[.pointer (some ⟨r, 0, none⟩), opVal o] w (RPost (StrErr (rDoT T o) (rDoE T o)) r gs (rDoS T o) w) := by
  have q1 : o.k ≠ 1 := by omega
  have q2 : o.k ≠ 2 := by omega
  have q3 : o.k ≠ 3 := by omega
  have q4 : o.k ≠ 4 := by omega
  have q5 : o.k ≠ 5 := by omega
  have q6 : o.k ≠ 6 := by omega
  have q7 : o.k ≠ 7 := by omega
  have e1 : rDoT T o = [] := by rw [rDoT, if_neg q2]
  have e2 : rDoE T o = 0 := by rw [rDoE, if_neg q1, if_neg q2, if_neg q3, if_neg q6, if_neg q7]
  have e3 : rDoS T o = T := by rw [rDoS, if_neg q1, if_neg q3, if_neg q4, if_neg q5, if_neg q6, if_neg q7]
  rw [e1, e2, e3]
  clear e1 e2 e3
  obtain ⟨k, i, bit, t, A, n, c, ps⟩ := o
  dsimp only at q1 q2 q3 q4 q5 q6 q7 hk
  have p1 := beq_eq_false_iff_ne.2 q1
  have p2 := beq_eq_false_iff_ne.2 q2
  have p3 := beq_eq_false_iff_ne.2 q3
  have p4 := beq_eq_false_iff_ne.2 q4
  have p5 := beq_eq_false_iff_ne.2 q5
  have p6 := beq_eq_false_iff_ne.2 q6
  have p7 := beq_eq_false_iff_ne.2 q7
  have H := Lib.hid (h.go (below_new w (.cells #[.int .i64 k, .int .i64 i, .int .i64 bit, .string t, .slice A n c] 44)))
  unfold opVal
  clear h hk q1 q2 q3 q4 q5 q6 q7
  go_enter Try.func24, Try.ntmps24
  go_wp2_with fail
  go_ret2
  exact ⟨rfl, H.out, (Keep.refl _ w).alloc _⟩

theorem rdo_any (w : World) (r gs : Nat) (T : RSt) (h : RefAt w r gs T) (o : OpV) (ho : OpAt w w.heap.size o) (hpF : 0 < o.n → ∀ b x, o.A = some ⟨b, x, none⟩ → b ∉ [r, gs]) :
    Calls Try.prog 24 #[.pointer (some ⟨r, 0, none⟩), opVal o] w (RPost (StrErr (rDoT T o) (rDoE T o)) r gs (rDoS T o) w) := by
  have hc : o.k = 1 ∨ o.k = 2 ∨ o.k = 3 ∨ o.k = 4 ∨ o.k = 5 ∨ o.k = 6 ∨ o.k = 7 ∨ (o.k < 1 ∨ 7 < o.k) := by omega
  rcases hc with hk | hk | hk | hk | hk | hk | hk | hk
  · exact rdo_write w r gs T h o ho hk
  · exact rdo_read w r gs T h o ho hpF hk
  · exact rdo_flush w r gs T h o ho hpF hk
  · exact rdo_trip w r gs T h o ho hpF hk
  · exact rdo_mount w r gs T h o ho hpF hk
  · exact rdo_rot w r gs T h o ho hpF hk
  · exact rdo_wear w r gs T h o ho hpF hk
  · exact rdo_other w r gs T h o hk
end Go.Proofs.Ytibhnjnfifpepaa
