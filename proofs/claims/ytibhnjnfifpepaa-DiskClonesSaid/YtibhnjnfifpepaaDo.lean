/- do: one operation of a script on a disk. -/
import Derived.Test.YtibhnjnfifpepaaOps
import Derived.Test.YtibhnjnfifpepaaRot
namespace Go.Proofs.Ytibhnjnfifpepaa
open Go.RowKit Go.Maps

def opVal (o : OpV) : Value := .agg #[.int .i64 o.k, .int .i64 o.i, .int .i64 o.bit, .string o.t, .slice o.A o.n o.c]
def doS (S : St) (o : OpV) : St :=
  if o.k = 1 then writeS S o.i (padB o.t.data.toList) else if o.k = 3 then flushS S else if o.k = 4 then { S with left := o.i } else if o.k = 5 then mountS S o.ps
  else if o.k = 6 then rotS S o.i o.bit else if o.k = 7 then wearS S o.i else S
def doE (S : St) (o : OpV) : Int :=
  if o.k = 1 then writeE S o.i (padB o.t.data.toList) else if o.k = 2 then checkE S o.i else if o.k = 3 then flushE S else if o.k = 6 then rotE S o.i o.bit else if o.k = 7 then wearE S o.i else 0
def doT (S : St) (o : OpV) : Bs := if o.k = 2 then readB S o.i else []

/-- what the op's own copy holds -/
def fiveOp (W : World) (b : Nat) (o : OpV) : Prop :=
  W.cell? ⟨b, 0, none⟩ = some (.int .i64 o.k) ∧ W.cell? ⟨b, 1, none⟩ = some (.int .i64 o.i) ∧ W.cell? ⟨b, 2, none⟩ = some (.int .i64 o.bit) ∧ W.cell? ⟨b, 3, none⟩ = some (.string o.t) ∧ W.cell? ⟨b, 4, none⟩ = some (.slice o.A o.n o.c)


theorem do_post {w w2 : World} {g gb gp gw K K' : Nat} {S S' : St} {b : Bs} {e : Int} (o : Obj) (hS : S = S') (hK : K ≤ K') (h : DiskAt w2 g gb gp gw K S) (k : Keep [g, gb, gp, gw] (w.alloc o) w2) : DPost (StrErr b e) g gb gp gw K' S' w (.returned (.tuple #[.string ⟨b.toArray⟩, .int .i64 e])) w2 := by
  rw [← hS]
  exact ⟨rfl, h.mono hK, ((Keep.refl _ w).alloc o).trans k⟩

set_option maxHeartbeats 2000000 in
set_option maxRecDepth 100000 in
theorem do_flush (w : World) (g gb gp gw K : Nat) (S : St) (h : DiskAt w g gb gp gw K S) (hK : K ≤ 100000) (hP : PendOK S) (o : OpV) (ho : OpAt w w.heap.size o) (hpF : 0 < o.n → ∀ b x, o.A = some ⟨b, x, none⟩ → b ∉ [g, gb, gp, gw]) (hk : o.k = 3) :
    Calls Try.prog 20 #[.pointer (some ⟨g, 0, none⟩), opVal o] w (DPost (StrErr (doT S o) (doE S o)) g gb gp gw (K + 1) (doS S o) w) := by
  obtain ⟨k, i, bit, t, A, n, c, ps⟩ := o
  obtain rfl : k = 3 := hk
  obtain ⟨_, _, i1, i2, b1, b2, t2, n2, hr⟩ := ho
  dsimp only at i1 i2 b1 b2 t2 n2 hr hpF
  have H := Lib.hid (h.below (below_new w (.cells #[.int .i64 3, .int .i64 i, .int .i64 bit, .string t, .slice A n c] 44)))
  have HI1 := Lib.hid i1
  have HI2 := Lib.hid i2
  have HT := Lib.hid t2
  have HN := Lib.hid n2
  have HR := Lib.hid (hr.below (below_new w (.cells #[.int .i64 3, .int .i64 i, .int .i64 bit, .string t, .slice A n c] 44)))
  have e1 : doT S ⟨3, i, bit, t, A, n, c, ps⟩ = [] := rfl
  have e2 : doE S ⟨3, i, bit, t, A, n, c, ps⟩ = flushE S := rfl
  have e3 : doS S ⟨3, i, bit, t, A, n, c, ps⟩ = flushS S := rfl
  rw [e1, e2, e3]
  unfold opVal
  clear h e1 e2 e3 i1 i2 b1 b2 t2 n2 hr
  go_enter Try.func20, Try.ntmps20
  go_wp2_with fail
  refine (flush_any _ g gb gp gw K S H.out hK hP).mono ?_
  rintro e w2 ⟨rfl, h2, k2⟩
  have H2 := Lib.hid h2
  have K2 := Lib.hid k2
  clear h2 k2
  go_wp2_with fail
  go_ret2
  exact do_post _ rfl (by omega) H2.out K2.out
set_option maxHeartbeats 2000000 in
set_option maxRecDepth 100000 in
theorem do_trip (w : World) (g gb gp gw K : Nat) (S : St) (h : DiskAt w g gb gp gw K S) (_hK : K ≤ 100000) (_hP : PendOK S) (o : OpV) (ho : OpAt w w.heap.size o) (hpF : 0 < o.n → ∀ b x, o.A = some ⟨b, x, none⟩ → b ∉ [g, gb, gp, gw]) (hk : o.k = 4) :
    Calls Try.prog 20 #[.pointer (some ⟨g, 0, none⟩), opVal o] w (DPost (StrErr (doT S o) (doE S o)) g gb gp gw (K + 1) (doS S o) w) := by
  obtain ⟨k, i, bit, t, A, n, c, ps⟩ := o
  obtain rfl : k = 4 := hk
  obtain ⟨_, _, i1, i2, b1, b2, t2, n2, hr⟩ := ho
  dsimp only at i1 i2 b1 b2 t2 n2 hr hpF
  have H := Lib.hid (h.below (below_new w (.cells #[.int .i64 4, .int .i64 i, .int .i64 bit, .string t, .slice A n c] 44)))
  have HI1 := Lib.hid i1
  have HI2 := Lib.hid i2
  have HT := Lib.hid t2
  have HN := Lib.hid n2
  have HR := Lib.hid (hr.below (below_new w (.cells #[.int .i64 4, .int .i64 i, .int .i64 bit, .string t, .slice A n c] 44)))
  have e1 : doT S ⟨4, i, bit, t, A, n, c, ps⟩ = [] := rfl
  have e2 : doE S ⟨4, i, bit, t, A, n, c, ps⟩ = 0 := rfl
  have e3 : doS S ⟨4, i, bit, t, A, n, c, ps⟩ = { S with left := i } := rfl
  rw [e1, e2, e3]
  unfold opVal
  clear h e1 e2 e3 i1 i2 b1 b2 t2 n2 hr
  go_enter Try.func20, Try.ntmps20
  go_wp2_with fail
  refine (trip_any _ g gb gp gw K S H.out i HI1.out HI2.out).mono ?_
  rintro e w2 ⟨rfl, h2, k2⟩
  have H2 := Lib.hid h2
  have K2 := Lib.hid k2
  clear h2 k2
  go_wp2_with fail
  go_ret2
  exact do_post _ rfl (by omega) H2.out K2.out
set_option maxHeartbeats 2000000 in
set_option maxRecDepth 100000 in
theorem do_mount (w : World) (g gb gp gw K : Nat) (S : St) (h : DiskAt w g gb gp gw K S) (hK : K ≤ 100000) (hP : PendOK S) (o : OpV) (ho : OpAt w w.heap.size o) (hpF : 0 < o.n → ∀ b x, o.A = some ⟨b, x, none⟩ → b ∉ [g, gb, gp, gw]) (hk : o.k = 5) :
    Calls Try.prog 20 #[.pointer (some ⟨g, 0, none⟩), opVal o] w (DPost (StrErr (doT S o) (doE S o)) g gb gp gw (K + 1) (doS S o) w) := by
  obtain ⟨k, i, bit, t, A, n, c, ps⟩ := o
  obtain rfl : k = 5 := hk
  obtain ⟨_, _, i1, i2, b1, b2, t2, n2, hr⟩ := ho
  dsimp only at i1 i2 b1 b2 t2 n2 hr hpF
  have H := Lib.hid (h.below (below_new w (.cells #[.int .i64 5, .int .i64 i, .int .i64 bit, .string t, .slice A n c] 44)))
  have HI1 := Lib.hid i1
  have HI2 := Lib.hid i2
  have HT := Lib.hid t2
  have HN := Lib.hid n2
  have HR := Lib.hid (hr.below (below_new w (.cells #[.int .i64 5, .int .i64 i, .int .i64 bit, .string t, .slice A n c] 44)))
  have e1 : doT S ⟨5, i, bit, t, A, n, c, ps⟩ = [] := rfl
  have e2 : doE S ⟨5, i, bit, t, A, n, c, ps⟩ = 0 := rfl
  have e3 : doS S ⟨5, i, bit, t, A, n, c, ps⟩ = mountS S ps := rfl
  rw [e1, e2, e3]
  unfold opVal
  clear h e1 e2 e3 i1 i2 b1 b2 t2 n2 hr
  go_enter Try.func20, Try.ntmps20
  go_wp2_with fail
  refine (mount_gen _ g gb gp gw K S H.out hK hP A n c ps (HR.out.more (by simp)) HN.out hpF).mono ?_
  rintro e w2 ⟨rfl, h2, k2⟩
  have H2 := Lib.hid h2
  have K2 := Lib.hid k2
  clear h2 k2
  go_wp2_with fail
  go_ret2
  exact do_post _ rfl (by omega) H2.out K2.out
set_option maxHeartbeats 2000000 in
set_option maxRecDepth 100000 in
theorem do_rot (w : World) (g gb gp gw K : Nat) (S : St) (h : DiskAt w g gb gp gw K S) (_hK : K ≤ 100000) (_hP : PendOK S) (o : OpV) (ho : OpAt w w.heap.size o) (hpF : 0 < o.n → ∀ b x, o.A = some ⟨b, x, none⟩ → b ∉ [g, gb, gp, gw]) (hk : o.k = 6) :
    Calls Try.prog 20 #[.pointer (some ⟨g, 0, none⟩), opVal o] w (DPost (StrErr (doT S o) (doE S o)) g gb gp gw (K + 1) (doS S o) w) := by
  obtain ⟨k, i, bit, t, A, n, c, ps⟩ := o
  obtain rfl : k = 6 := hk
  obtain ⟨_, _, i1, i2, b1, b2, t2, n2, hr⟩ := ho
  dsimp only at i1 i2 b1 b2 t2 n2 hr hpF
  have H := Lib.hid (h.below (below_new w (.cells #[.int .i64 6, .int .i64 i, .int .i64 bit, .string t, .slice A n c] 44)))
  have HI1 := Lib.hid i1
  have HI2 := Lib.hid i2
  have HT := Lib.hid t2
  have HN := Lib.hid n2
  have HR := Lib.hid (hr.below (below_new w (.cells #[.int .i64 6, .int .i64 i, .int .i64 bit, .string t, .slice A n c] 44)))
  have e1 : doT S ⟨6, i, bit, t, A, n, c, ps⟩ = [] := rfl
  have e2 : doE S ⟨6, i, bit, t, A, n, c, ps⟩ = rotE S i bit := rfl
  have e3 : doS S ⟨6, i, bit, t, A, n, c, ps⟩ = rotS S i bit := rfl
  rw [e1, e2, e3]
  unfold opVal
  clear h e1 e2 e3 i1 i2 b1 b2 t2 n2 hr
  go_enter Try.func20, Try.ntmps20
  go_wp2_with fail
  refine (rot_any _ g gb gp gw K S H.out i bit).mono ?_
  rintro e w2 ⟨rfl, h2, k2⟩
  have H2 := Lib.hid h2
  have K2 := Lib.hid k2
  clear h2 k2
  go_wp2_with fail
  go_ret2
  exact do_post _ rfl (by omega) H2.out K2.out
set_option maxHeartbeats 2000000 in
set_option maxRecDepth 100000 in
theorem do_wear (w : World) (g gb gp gw K : Nat) (S : St) (h : DiskAt w g gb gp gw K S) (hK : K ≤ 100000) (_hP : PendOK S) (o : OpV) (ho : OpAt w w.heap.size o) (hpF : 0 < o.n → ∀ b x, o.A = some ⟨b, x, none⟩ → b ∉ [g, gb, gp, gw]) (hk : o.k = 7) :
    Calls Try.prog 20 #[.pointer (some ⟨g, 0, none⟩), opVal o] w (DPost (StrErr (doT S o) (doE S o)) g gb gp gw (K + 1) (doS S o) w) := by
  obtain ⟨k, i, bit, t, A, n, c, ps⟩ := o
  obtain rfl : k = 7 := hk
  obtain ⟨_, _, i1, i2, b1, b2, t2, n2, hr⟩ := ho
  dsimp only at i1 i2 b1 b2 t2 n2 hr hpF
  have H := Lib.hid (h.below (below_new w (.cells #[.int .i64 7, .int .i64 i, .int .i64 bit, .string t, .slice A n c] 44)))
  have HI1 := Lib.hid i1
  have HI2 := Lib.hid i2
  have HT := Lib.hid t2
  have HN := Lib.hid n2
  have HR := Lib.hid (hr.below (below_new w (.cells #[.int .i64 7, .int .i64 i, .int .i64 bit, .string t, .slice A n c] 44)))
  have e1 : doT S ⟨7, i, bit, t, A, n, c, ps⟩ = [] := rfl
  have e2 : doE S ⟨7, i, bit, t, A, n, c, ps⟩ = wearE S i := rfl
  have e3 : doS S ⟨7, i, bit, t, A, n, c, ps⟩ = wearS S i := rfl
  rw [e1, e2, e3]
  unfold opVal
  clear h e1 e2 e3 i1 i2 b1 b2 t2 n2 hr
  go_enter Try.func20, Try.ntmps20
  go_wp2_with fail
  refine (wear_any _ g gb gp gw K S H.out hK i HI1.out HI2.out).mono ?_
  rintro e w2 ⟨rfl, h2, k2⟩
  have H2 := Lib.hid h2
  have K2 := Lib.hid k2
  clear h2 k2
  go_wp2_with fail
  go_ret2
  exact do_post _ rfl (by omega) H2.out K2.out
set_option maxHeartbeats 2000000 in
set_option maxRecDepth 100000 in
theorem do_read (w : World) (g gb gp gw K : Nat) (S : St) (h : DiskAt w g gb gp gw K S) (_hK : K ≤ 100000) (_hP : PendOK S) (o : OpV) (ho : OpAt w w.heap.size o) (hpF : 0 < o.n → ∀ b x, o.A = some ⟨b, x, none⟩ → b ∉ [g, gb, gp, gw]) (hk : o.k = 2) :
    Calls Try.prog 20 #[.pointer (some ⟨g, 0, none⟩), opVal o] w (DPost (StrErr (doT S o) (doE S o)) g gb gp gw (K + 1) (doS S o) w) := by
  obtain ⟨k, i, bit, t, A, n, c, ps⟩ := o
  obtain rfl : k = 2 := hk
  obtain ⟨_, _, i1, i2, b1, b2, t2, n2, hr⟩ := ho
  dsimp only at i1 i2 b1 b2 t2 n2 hr hpF
  have H := Lib.hid (h.below (below_new w (.cells #[.int .i64 2, .int .i64 i, .int .i64 bit, .string t, .slice A n c] 44)))
  have HI1 := Lib.hid i1
  have HI2 := Lib.hid i2
  have HT := Lib.hid t2
  have HN := Lib.hid n2
  have HR := Lib.hid (hr.below (below_new w (.cells #[.int .i64 2, .int .i64 i, .int .i64 bit, .string t, .slice A n c] 44)))
  have e1 : doT S ⟨2, i, bit, t, A, n, c, ps⟩ = readB S i := rfl
  have e2 : doE S ⟨2, i, bit, t, A, n, c, ps⟩ = checkE S i := rfl
  have e3 : doS S ⟨2, i, bit, t, A, n, c, ps⟩ = S := rfl
  rw [e1, e2, e3]
  unfold opVal
  clear h e1 e2 e3 i1 i2 b1 b2 t2 n2 hr
  go_enter Try.func20, Try.ntmps20
  go_wp2_with fail
  refine (read_any _ g gb gp gw K S H.out i HI1.out HI2.out).mono ?_
  rintro e w2 ⟨rfl, b2⟩
  have H2 := Lib.hid (H.out.below b2)
  have K2 := Lib.hid (Keep.of_below b2 [g, gb, gp, gw])
  clear b2
  unfold StrErr
  go_wp2_with fail
  go_ret2
  exact do_post _ rfl (by omega) H2.out K2.out
theorem cells5 {W W' : World} {b : Nat} {u0 u1 u2 u3 u4 : Value} (hk : ∀ p : Addr, p.block = b → W'.cell? p = W.cell? p) (f0 : W.cell? ⟨b, 0, none⟩ = some u0) (f1 : W.cell? ⟨b, 1, none⟩ = some u1) (f2 : W.cell? ⟨b, 2, none⟩ = some u2) (f3 : W.cell? ⟨b, 3, none⟩ = some u3) (f4 : W.cell? ⟨b, 4, none⟩ = some u4) :
    W'.cell? ⟨b, 0, none⟩ = some u0 ∧ W'.cell? ⟨b, 1, none⟩ = some u1 ∧ W'.cell? ⟨b, 2, none⟩ = some u2 ∧ W'.cell? ⟨b, 3, none⟩ = some u3 ∧ W'.cell? ⟨b, 4, none⟩ = some u4 :=
  ⟨(hk _ rfl).trans f0, (hk _ rfl).trans f1, (hk _ rfl).trans f2, (hk _ rfl).trans f3, (hk _ rfl).trans f4⟩
theorem padB_size (t : ByteArray) (h : t.size ≤ 9223372036854775807) : (⟨(padB t.data.toList).toArray⟩ : ByteArray).size ≤ 9223372036854775807 := by
  have e : (⟨(padB t.data.toList).toArray⟩ : ByteArray).size = (padB t.data.toList).length := by simp [ByteArray.size]
  rw [e, padB]
  have hl : t.data.toList.length = t.size := by simp
  split
  · omega
  · rw [padJ, List.length_append, List.length_replicate]; omega

set_option maxHeartbeats 4000000 in
set_option maxRecDepth 100000 in
theorem do_write (w : World) (g gb gp gw K : Nat) (S : St) (h : DiskAt w g gb gp gw K S) (hK : K ≤ 100000) (o : OpV) (ho : OpAt w w.heap.size o) (hk : o.k = 1) :
    Calls Try.prog 20 #[.pointer (some ⟨g, 0, none⟩), opVal o] w (DPost (StrErr (doT S o) (doE S o)) g gb gp gw (K + 1) (doS S o) w) := by
  obtain ⟨k, i, bit, t, A, n, c, ps⟩ := o
  obtain rfl : k = 1 := hk
  obtain ⟨_, _, i1, i2, _, _, t2, _, _⟩ := ho
  dsimp only at i1 i2 t2
  obtain ⟨w1, hw1⟩ : ∃ w1, w1 = w.alloc (.cells #[.int .i64 1, .int .i64 i, .int .i64 bit, .string t, .slice A n c] 44) := ⟨_, rfl⟩
  have hlt := h.lt
  have hb1 : Below w.heap.size w w1 := by rw [hw1]; exact below_new w _
  have H := Lib.hid ((h.below hb1).same (w' := w1.drew) rfl rfl rfl rfl)
  have HB1 := Lib.hid hb1
  have HI1 := Lib.hid i1
  have HI2 := Lib.hid i2
  have HT := Lib.hid t2
  have hB := Blk.new w 44 #[.int .i64 1, .int .i64 i, .int .i64 bit, .string t, .slice A n c]
  rw [← hw1] at hB
  have f0 : w1.cell? ⟨w.heap.size, 0, none⟩ = some (.int .i64 1) := hB.cell 0
  have f1 : w1.cell? ⟨w.heap.size, 1, none⟩ = some (.int .i64 i) := hB.cell 1
  have f2 : w1.cell? ⟨w.heap.size, 2, none⟩ = some (.int .i64 bit) := hB.cell 2
  have f3 : w1.cell? ⟨w.heap.size, 3, none⟩ = some (.string t) := hB.cell 3
  have f4 : w1.cell? ⟨w.heap.size, 4, none⟩ = some (.slice A n c) := hB.cell 4
  have HL := Lib.hid hlt
  have e1 : doT S ⟨1, i, bit, t, A, n, c, ps⟩ = [] := rfl
  have e2 : doE S ⟨1, i, bit, t, A, n, c, ps⟩ = writeE S i (padB t.data.toList) := rfl
  have e3 : doS S ⟨1, i, bit, t, A, n, c, ps⟩ = writeS S i (padB t.data.toList) := rfl
  rw [e1, e2, e3]
  unfold opVal
  clear h e1 e2 e3 i1 i2 t2 hlt hb1 hB
  go_enter Try.func20, Try.ntmps20
  go_wp2_with fail
  rw [← hw1]
  have HZ := Lib.hid (show w.heap.size < w1.drew.heap.size by rw [hw1]; simp [World.drew])
  clear hw1
  go_region_held3 (fun W => W.cell? ⟨w.heap.size, 0, none⟩ = some (.int .i64 1) ∧ W.cell? ⟨w.heap.size, 1, none⟩ = some (.int .i64 i) ∧ W.cell? ⟨w.heap.size, 2, none⟩ = some (.int .i64 bit) ∧ W.cell? ⟨w.heap.size, 3, none⟩ = some (.string t) ∧ W.cell? ⟨w.heap.size, 4, none⟩ = some (.slice A n c))
    (first | exact ⟨f0, f1, f2, f3, f4⟩ | exact F3.out | exact F4.out | go_keep)
    (first
      | (go_at_call 21
         refine (text_any _ 1 i bit t _ HT.out).mono ?_
         rintro e w3 ⟨rfl, b3⟩
         have D3 := Lib.hid (H.out.below b3)
         have Z3 := Lib.hid (Nat.lt_of_lt_of_le HZ.out b3.size)
         have F3 := Lib.hid (cells5 (W := w1.drew) (fun p hp => b3.cell (by rw [hp]; exact HZ.out)) f0 f1 f2 f3 f4)
         have B3 := Lib.hid b3
         clear b3)
      | (go_at_call 12
         refine (write_any _ g gb gp gw K S D3.out hK i HI1.out HI2.out ⟨(padB t.data.toList).toArray⟩ (padB_size t HT.out)).mono ?_
         rintro e w4 ⟨rfl, d4, k4⟩
         have D4 := Lib.hid d4
         have F4 := Lib.hid (cells5 (W := w3) (fun p hp => k4.cell (by rw [hp]; exact Z3.out) (by rw [hp]; have := HL.out; simp; omega)) F3.out.1 F3.out.2.1 F3.out.2.2.1 F3.out.2.2.2.1 F3.out.2.2.2.2)
         have K4 := Lib.hid k4
         clear d4 k4))
  go_wp2_with fail
  go_ret2
  exact ⟨rfl, D4.out, (((Keep.of_below HB1.out _).drew).trans (Keep.of_below B3.out _)).trans K4.out⟩

set_option maxHeartbeats 2000000 in
set_option maxRecDepth 100000 in
theorem do_other (w : World) (g gb gp gw K : Nat) (S : St) (h : DiskAt w g gb gp gw K S) (o : OpV) (hk : o.k < 1 ∨ 7 < o.k) :
    Calls Try.prog 20 #[.pointer (some ⟨g, 0, none⟩), opVal o] w (DPost (StrErr (doT S o) (doE S o)) g gb gp gw (K + 1) (doS S o) w) := by
  have q1 : o.k ≠ 1 := by omega
  have q2 : o.k ≠ 2 := by omega
  have q3 : o.k ≠ 3 := by omega
  have q4 : o.k ≠ 4 := by omega
  have q5 : o.k ≠ 5 := by omega
  have q6 : o.k ≠ 6 := by omega
  have q7 : o.k ≠ 7 := by omega
  have e1 : doT S o = [] := by rw [doT, if_neg q2]
  have e2 : doE S o = 0 := by rw [doE, if_neg q1, if_neg q2, if_neg q3, if_neg q6, if_neg q7]
  have e3 : doS S o = S := by rw [doS, if_neg q1, if_neg q3, if_neg q4, if_neg q5, if_neg q6, if_neg q7]
  rw [e1, e2, e3]
  clear e1 e2 e3
  obtain ⟨k, i, bit, t, A, n, c, ps⟩ := o
  dsimp only at q1 q2 q3 q4 q5 q6 q7 hk
  have p1 := beq_eq_false_iff_ne.2 q1
  have p2 := beq_eq_false_iff_ne.2 q2
  have p3 := beq_eq_false_iff_ne.2 q3
  have p4 := beq_eq_false_iff_ne.2 q4
  have p5 := beq_eq_false_iff_ne.2 q5
  have p6 := beq_eq_false_iff_ne.2 q6
  have p7 := beq_eq_false_iff_ne.2 q7
  have H := Lib.hid (h.below (below_new w (.cells #[.int .i64 k, .int .i64 i, .int .i64 bit, .string t, .slice A n c] 44)))
  unfold opVal
  clear h hk q1 q2 q3 q4 q5 q6 q7
  go_enter Try.func20, Try.ntmps20
  go_wp2_with fail
  go_ret2
  exact ⟨rfl, H.out.mono (by omega), (Keep.refl _ w).alloc _⟩

theorem do_any (w : World) (g gb gp gw K : Nat) (S : St) (h : DiskAt w g gb gp gw K S) (hK : K ≤ 100000) (hP : PendOK S) (o : OpV) (ho : OpAt w w.heap.size o) (hpF : 0 < o.n → ∀ b x, o.A = some ⟨b, x, none⟩ → b ∉ [g, gb, gp, gw]) :
    Calls Try.prog 20 #[.pointer (some ⟨g, 0, none⟩), opVal o] w (DPost (StrErr (doT S o) (doE S o)) g gb gp gw (K + 1) (doS S o) w) := by
  have hc : o.k = 1 ∨ o.k = 2 ∨ o.k = 3 ∨ o.k = 4 ∨ o.k = 5 ∨ o.k = 6 ∨ o.k = 7 ∨ (o.k < 1 ∨ 7 < o.k) := by omega
  rcases hc with hk | hk | hk | hk | hk | hk | hk | hk
  · exact do_write w g gb gp gw K S h hK o ho hk
  · exact do_read w g gb gp gw K S h hK hP o ho hpF hk
  · exact do_flush w g gb gp gw K S h hK hP o ho hpF hk
  · exact do_trip w g gb gp gw K S h hK hP o ho hpF hk
  · exact do_mount w g gb gp gw K S h hK hP o ho hpF hk
  · exact do_rot w g gb gp gw K S h hK hP o ho hpF hk
  · exact do_wear w g gb gp gw K S h hK hP o ho hpF hk
  · exact do_other w g gb gp gw K S h o hk
end Go.Proofs.Ytibhnjnfifpepaa
