/- The walk of JournalSectors. -/
import Derived.Test.YtddpjahoeldleaaDoorJSanity
import Derived.Test.YtddpjahoeldleaaDoorRefPack
import Derived.Test.YtddpjahoeldleaaDoorRefUnpack
import Derived.Laws.StructEq
namespace Go.Proofs.YtddpjahoeldleaaDoor
open Go.RowKit

theorem guard_part (x y : Operand) (xs ys : Array Value) (w : World) : (eqGuard .eql 30 x y (.agg xs) (.agg ys)).run Tryd.prog w = .ok () w :=
  run_eqGuard_agg w .eql 30 x y xs ys (by kernel_rfl)
theorem part_of (t : TypeId) (hc : ∀ w, (isAgg t).run Tryd.prog w = .ok false w) (xs : Array Value) (i : Nat) (v : Value) (h : xs[i]? = some v) (w : World) : (part t xs i).run Tryd.prog w = .ok v w := by
  simp [part, h, hc, go_sem]
theorem fieldsPart : (Tryd.prog.fieldsOf 30).toList.map (fun f => (f.type, f.offset, f.name == "_")) = [(3, 0, false), (3, 1, false), (3, 2, false), (9, 3, false), (4, 4, false)] := by kernel_rfl
theorem eqFields_part (fs : List Field) (h : fs.map (fun f => (f.type, f.offset, f.name == "_")) = [(3, 0, false), (3, 1, false), (3, 2, false), (9, 3, false), (4, 4, false)]) (a b c : Int) (s : ByteArray) (o : Bool) (w : World) :
    (Op.eqFields 9999 #[.int .i64 a, .int .i64 b, .int .i64 c, .string s, .bool o] #[.int .i64 a, .int .i64 b, .int .i64 c, .string s, .bool o] fs).run Tryd.prog w = .ok true w := by
  have hl : fs.length = 5 := by have := congrArg List.length h; simpa using this
  obtain ⟨f1, f2, f3, f4, f5, rfl⟩ : ∃ a b c d e, fs = [a, b, c, d, e] := by
    match fs, hl with
    | [a, b, c, d, e], _ => exact ⟨a, b, c, d, e, rfl⟩
  simp only [List.map_cons, List.map_nil, List.cons.injEq, Prod.mk.injEq, and_true] at h
  obtain ⟨⟨t1, o1, n1⟩, ⟨t2, o2, n2⟩, ⟨t3, o3, n3⟩, ⟨t4, o4, n4⟩, ⟨t5, o5, n5⟩⟩ := h
  have m1 : ¬ f1.name = "_" := by simpa using n1
  have m2 : ¬ f2.name = "_" := by simpa using n2
  have m3 : ¬ f3.name = "_" := by simpa using n3
  have m4 : ¬ f4.name = "_" := by simpa using n4
  have m5 : ¬ f5.name = "_" := by simpa using n5
  have p1 : ∀ w, (part 3 #[.int .i64 a, .int .i64 b, .int .i64 c, .string s, .bool o] 0).run Tryd.prog w = .ok (.int .i64 a) w := fun w => part_of 3 Tryd.isAgg3 _ 0 _ rfl w
  have p2 : ∀ w, (part 3 #[.int .i64 a, .int .i64 b, .int .i64 c, .string s, .bool o] 1).run Tryd.prog w = .ok (.int .i64 b) w := fun w => part_of 3 Tryd.isAgg3 _ 1 _ rfl w
  have p3 : ∀ w, (part 3 #[.int .i64 a, .int .i64 b, .int .i64 c, .string s, .bool o] 2).run Tryd.prog w = .ok (.int .i64 c) w := fun w => part_of 3 Tryd.isAgg3 _ 2 _ rfl w
  have p4 : ∀ w, (part 9 #[.int .i64 a, .int .i64 b, .int .i64 c, .string s, .bool o] 3).run Tryd.prog w = .ok (.string s) w := fun w => part_of 9 Tryd.isAgg9 _ 3 _ rfl w
  have p5 : ∀ w, (part 4 #[.int .i64 a, .int .i64 b, .int .i64 c, .string s, .bool o] 4).run Tryd.prog w = .ok (.bool o) w := fun w => part_of 4 Tryd.isAgg4 _ 4 _ rfl w
  have q1 : ∀ (x : Int) (w : World), (Op.equalIn 9999 3 (.int .i64 x) (.int .i64 x)).run Tryd.prog w = .ok true w := fun x w => by rw [run_equalIn_int w 9998 3 .i64 .i64 x x Tryd.underlying3]; simp
  have q2 : ∀ (x : ByteArray) (w : World), (Op.equalIn 9999 9 (.string x) (.string x)).run Tryd.prog w = .ok true w := fun x w => by rw [run_equalIn_string w 9998 9 x x Tryd.underlying9]; simp
  have q3 : ∀ (x : Bool) (w : World), (Op.equalIn 9999 4 (.bool x) (.bool x)).run Tryd.prog w = .ok true w := fun x w => by rw [run_equalIn_bool' w 9998 4 x x Tryd.underlying4]; simp
  simp only [Op.eqFields, t1, o1, t2, o2, t3, o3, t4, o4, t5, o5, ne_eq, m1, m2, m3, m4, m5, not_false_eq_true, if_true, Sem.run_bind, p1, p2, p3, p4, p5, q1, q2, q3, Result.andThen_ok, Sem.run_ite, Sem.run_pure]
  rfl
theorem eql_part (a b c : Int) (s : ByteArray) (o : Bool) (w : World) : (binOp .eql 30 (.agg #[.int .i64 a, .int .i64 b, .int .i64 c, .string s, .bool o]) (.agg #[.int .i64 a, .int .i64 b, .int .i64 c, .string s, .bool o])).run Tryd.prog w = .ok (.bool true) w := by
  rw [run_eql_struct, run_equalIn_agg w 9999 30 _ _ (by kernel_rfl) (by kernel_rfl), eqFields_part _ fieldsPart, Result.andThen_ok]

set_option maxHeartbeats 4000000 in
set_option maxRecDepth 100000 in
theorem law_sectors (number : Int) (text sector : ByteArray) (w : World) (hk : Consts w) (hr : RConsts w) :
    Calls Tryd.prog 3 #[.int .i64 number, .string text, .string sector] w (RetB (.bool true) w) := by
  have HK := Lib.hid hk
  have HR := Lib.hid hr
  clear hk hr
  by_cases hl : 9000 < text.size
  · have d1 : (9000 : Int) < (text.size : Int) := by omega
    go_enter Tryd.func3, Tryd.ntmps3
    go_wp2_with fail
    refine (sanity_any w HK.out).mono ?_
    rintro e w' ⟨rfl, b⟩
    have B := Lib.hid b
    clear b
    go_wp2_with fail
    go_ret
    exact ⟨rfl, B.out⟩
  · have d1 : ¬ (9000 : Int) < (text.size : Int) := by omega
    obtain ⟨zP, hzP⟩ := zero_of_info infoPart
    obtain ⟨L, hL⟩ : ∃ L, L = packV number text.data.toList := ⟨_, rfl⟩
    obtain ⟨E, hE⟩ : ∃ E, E = packE number text.data.toList := ⟨_, rfl⟩
    obtain ⟨p, hp⟩ : ∃ p, p = unpackB sector.data.toList := ⟨_, rfl⟩
    have PK := Lib.hid (fun W hW => packV_any number text W hW)
    have RPK := Lib.hid (fun W hW => rpackV_any number text W hW)
    have UN := Lib.hid (fun W hW => unpack5_any sector W hW)
    have RUN := Lib.hid (fun W hW => runpack_any sector W hW)
    rw [← hL, ← hE] at PK RPK
    rw [← hp] at UN RUN
    obtain ⟨N, hN⟩ : ∃ N, N = p.number := ⟨_, rfl⟩
    obtain ⟨Q, hQ⟩ : ∃ N, N = p.part := ⟨_, rfl⟩
    obtain ⟨l, hl2⟩ : ∃ N, N = p.left := ⟨_, rfl⟩
    obtain ⟨y, hy⟩ : ∃ y : ByteArray, y = ⟨p.payload.toArray⟩ := ⟨_, rfl⟩
    obtain ⟨o, ho⟩ : ∃ o, o = p.ok := ⟨_, rfl⟩
    rw [← hN, ← hQ, ← hl2, ← ho, show str p.payload = .string y by rw [hy]] at UN
    rw [partRow, ← hN, ← hQ, ← hl2, ← ho, show str p.payload = .string y by rw [hy]] at RUN
    have HLL := Lib.hid (show L.length ≤ 1000 by
      rw [hL, packV]
      split
      · rw [packB, List.length_map, List.length_range]; unfold countN; split
        · omega
        · split <;> omega
      · simp)
    have heq := eql_part (N : Int) (Q : Int) (l : Int) y o
    have hgd := guard_part
    clear hL hE hp hN hQ hl2 hy ho hl
    go_enter Tryd.func3, Tryd.ntmps3
    go_wp2_with fail
    refine (PK.out w HK.out).mono ?_
    rintro e w1 ⟨v1, rfl, own1, b1⟩
    have B1 := Lib.hid b1
    have O1 := Lib.hid own1
    obtain ⟨A1, c1, rfl, -⟩ := own_slice own1
    clear b1 own1
    go_wp2_with fail
    refine (RPK.out w1 (HR.out.below B1.out)).mono ?_
    rintro e w2 ⟨v2, rfl, own2, b2⟩
    have B2 := Lib.hid (below_go B1.out b2)
    have O2 := Lib.hid own2
    have O1 := Lib.hid (own_below O1.out b2)
    obtain ⟨A2, c2, rfl, -⟩ := own_slice own2
    clear b2 own2
    go_wp2_with fail
    refine (UN.out w2 (HK.out.below B2.out)).mono ?_
    rintro e w3 ⟨rfl, b3⟩
    have B3 := Lib.hid (below_go B2.out b3)
    have O2 := Lib.hid (own_below O2.out b3)
    have O1 := Lib.hid (own_below O1.out b3)
    clear b3
    go_wp2_with fail
    refine (RUN.out w3 (HR.out.below B3.out)).mono ?_
    rintro e w4 ⟨rfl, b4⟩
    have B4 := Lib.hid (below_go B3.out b4)
    have O2 := Lib.hid (own_below O2.out b4)
    have O1 := Lib.hid (own_below O1.out b4)
    clear b4
    go_wp2_with fail
    obtain ⟨w5, hw5⟩ : ∃ w5, w5 = w4.alloc (.cells #[.int .i64 N, .int .i64 Q, .int .i64 l, .string y, .bool o] 30) := ⟨_, rfl⟩
    have B45 := Lib.hid (show Below w4.heap.size w4 w5 by rw [hw5]; exact below_new _ _)
    have Q5 := Lib.hid (show Blk w5 w4.heap.size 30 #[.int .i64 N, .int .i64 Q, .int .i64 l, .string y, .bool o] by rw [hw5]; exact Blk.new _ _ _)
    rw [← hw5]
    clear hw5
    have B5 := Lib.hid (below_go B4.out B45.out)
    refine (sanity_any w5 (HK.out.below B5.out)).mono ?_
    rintro e w6 ⟨rfl, b6⟩
    have B6 := Lib.hid (below_go B5.out b6)
    have O2 := Lib.hid (own_below (own_below O2.out B45.out) b6)
    have O1 := Lib.hid (own_below (own_below O1.out B45.out) b6)
    have Q6 := Lib.hid (Q5.out.below b6 Q5.out.lt)
    clear b6 B45
    go_wp2_with fail
    refine (sameTexts_any A1 A2 L.length L.length c1 c2 L L w6 (Rd.of_own O1.out) (Rd.of_own O2.out) rfl rfl (by have := HLL.out; omega) true (Lib.hid (by simp))).mono ?_
    rintro e w7 ⟨rfl, b7⟩
    have B7 := Lib.hid (below_go B6.out b7)
    have Q7 := Lib.hid (Q6.out.below b7 Q6.out.lt)
    clear b7
    obtain ⟨⟨k0, k1, k2, k3, k4⟩, -⟩ := blk5 Q7.out
    go_wp2_with fail
    refine (count_any (text.size : Int) w7).mono ?_
    rintro e w' ⟨rfl, rfl⟩
    go_wp2_with fail
    refine (rcount_any (text.size : Int) _).mono ?_
    rintro e w' ⟨rfl, rfl⟩
    go_wp2_with fail
    refine (count_any number _).mono ?_
    rintro e w' ⟨rfl, rfl⟩
    go_wp2_with fail
    refine (rcount_any number _).mono ?_
    rintro e w' ⟨rfl, rfl⟩
    go_wp2_with fail
    go_ret
    exact ⟨rfl, B7.out⟩
end Go.Proofs.YtddpjahoeldleaaDoor
