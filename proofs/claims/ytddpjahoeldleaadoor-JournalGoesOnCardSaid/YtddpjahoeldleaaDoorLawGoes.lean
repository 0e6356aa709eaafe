/- The walk of JournalGoesOn. -/
import Derived.Test.YtddpjahoeldleaaDoorJSanity
import Derived.Test.YtddpjahoeldleaaDoorJState
import Derived.Test.YtddpjahoeldleaaDoorJSteps
namespace Go.Proofs.YtddpjahoeldleaaDoor
open Go.RowKit Go.Maps

def u8Cells (zs : List Int) : List Value := zs.map (Value.int .u8)
/-- element k of a slice of bytes -/
theorem rd_u8 {w : World} {B : Nat} {A : Option Addr} {n : Nat} {zs : List Int} (h : Rd w B 1 A n (u8Cells zs)) {k : Nat} (hk : k < n) : ∃ b off z, A = some ⟨b, off, none⟩ ∧ b < B ∧ z ∈ zs ∧ w.cell? ⟨b, off + k, none⟩ = some (.int .u8 z) := by
  obtain ⟨b, off, u, e, hb, hu, hc⟩ := h.at1 hk
  rw [u8Cells, List.getElem?_map] at hu
  cases hz : zs[k]? with
  | none => rw [hz] at hu; cases hu
  | some z =>
    rw [hz] at hu
    obtain rfl := Option.some.inj hu
    exact ⟨b, off, z, e, hb, List.mem_of_getElem? hz, hc⟩
/-- element k of a script -/
theorem rd_step {w : World} {B n k : Nat} {A : Option Addr} {os : List StepV} (h : Script w B A n os) (hk : k < n) :
    ∃ b off o, A = some ⟨b, off, none⟩ ∧ b < B ∧ os[k]? = some o ∧ w.cell? ⟨b, off + k * 6, none⟩ = some (.int .i64 o.k) ∧ w.cell? ⟨b, off + k * 6 + 1, none⟩ = some (.int .i64 o.i) ∧ w.cell? ⟨b, off + k * 6 + 2, none⟩ = some (.int .i64 o.bit) ∧ w.cell? ⟨b, off + k * 6 + 3, none⟩ = some (.int .i64 o.size) ∧ w.cell? ⟨b, off + k * 6 + 4, none⟩ = some (.int .u8 (o.fill.toNat : Int)) ∧ w.cell? ⟨b, off + k * 6 + 5, none⟩ = some (.slice o.A o.n o.c) := by
  obtain ⟨b, off, e, hb, hc⟩ := h.rd.2 (by omega)
  have hl := h.len
  have ho : os[k]? = some os[k] := List.getElem?_eq_getElem (by omega)
  have at_ : ∀ j u, (stepCells os[k])[j]? = some u → w.cell? ⟨b, off + k * 6 + j, none⟩ = some u := fun j u hu => by
    have hj : j < 6 := by have := (List.getElem?_eq_some_iff.1 hu).1; simpa [stepCells] using this
    rw [Nat.add_assoc]
    exact hc _ u ((stepsCells_at os k j _ ho hj).trans hu)
  exact ⟨b, off, os[k], e, hb, ho, at_ 0 _ rfl, at_ 1 _ rfl, at_ 2 _ rfl, at_ 3 _ rfl, at_ 4 _ rfl, at_ 5 _ rfl⟩

theorem app_at2 {w0 W : World} {j g gb gp gw K : Nat} {vn vb vt : Value} {J : JV} {S : Dk.St} (h : JD w0 W j g gb gp gw K vn vb vt J S) (hk : Consts w0) (hK : K + 200 ≤ 100000) (s : ByteArray) (t : Bs) (hs : s.data.toList = t) (hx1 : 1 ≤ J.next) (f0 : 0 ≤ J.fin) (f1 : J.fin ≤ 4096) (hn : J.nums.length ≤ 90000) (ht : J.texts.length ≤ 90000) :
    Calls Tryd.prog 16 #[.pointer (some ⟨j, 0, none⟩), .string s] W (fun e W' => ∃ vn' vt', e = .returned (.tuple #[.int .i64 (appR J S t).n, .int .i64 (appR J S t).err]) ∧ JD w0 W' j g gb gp gw (K + 200) vn' vb vt' (appR J S t).J (appR J S t).S ∧ Keep (j :: (ob vn ++ ob vt ++ [g, gb, gp, gw])) W W' ∧ Aged W vn vn' ∧ Aged W vt vt') := by
  subst hs
  exact (app_any W j g vn vb vt J gb gp gw K S h.jat h.dd.disk h.dd.pend (hk.below h.dd.below) hK s hx1 f0 f1 hn ht).mono fun e W' hp => h.app2 hp
/-- what Append has left, in brief -/
theorem goes_app {J : JV} {S : Dk.St} {T : Dk.RSt} {R : List (Nat × Bs)} {m : Nat} (hG : Goes J T R m) (hS : Dk.Sim S T) (hm : m ≤ 4000) (t : Bs) :
    ((appR J S t).err = 0 ∧ (appR J S t).n = (m : Int) + 1 ∧ ∃ T', Dk.Sim (appR J S t).S T' ∧ Goes (appR J S t).J T' (R ++ [(m + 1, t)]) (m + 1)) ∨
    (∃ (er n : Int) (m' : Nat) (T' : Dk.RSt), (appR J S t).err = er ∧ (appR J S t).n = n ∧ (er = 25 ∨ er = 23 ∨ er = 4) ∧ m ≤ m' ∧ m' ≤ m + 1 ∧ Dk.Sim (appR J S t).S T' ∧ Goes (appR J S t).J T' R m') := by
  obtain ⟨a1, a2, a3, a4⟩ := sim_app hS J t
  rcases goes_step hG hm t with ⟨b1, b2, b3⟩ | ⟨b1, m', b2, b3, b4⟩
  · exact .inl ⟨a2.trans b1, a1.trans b2, _, a4, by rw [a3]; exact b3⟩
  · exact .inr ⟨_, _, m', _, rfl, rfl, by rw [a2]; exact b1, b2, b3, a4, by rw [a3]; exact b4⟩
theorem goes_bounds {J : JV} {S : Dk.St} {T : Dk.RSt} {R : List (Nat × Bs)} {m : Nat} (hG : Goes J T R m) (hS : Dk.Sim S T) {N : Nat} (hN : S.bl.length = N) (h2 : N ≤ 4096) : 1 ≤ J.next ∧ 0 ≤ J.fin ∧ J.fin ≤ 4096 ∧ J.nums.length = R.length ∧ J.texts.length = R.length := by
  obtain ⟨pre, post, hs, hf, _⟩ := hG.place
  have hl := hS.len
  rw [hs, List.length_append] at hl
  refine ⟨by rw [hG.next]; omega, by rw [hf]; omega, by rw [hf]; omega, by rw [hG.nums, List.length_map], by rw [hG.texts, List.length_map]⟩

theorem own_up {w : World} {base e s n : Nat} {v : Value} {xs : List Value} (h : w.ownsRow 0 e s v n xs) (hb : ∀ k, v.ownBlock = some k → base ≤ k) : w.ownsRow base e s v n xs := by
  refine ⟨h.1, ?_⟩
  rcases h.2 with hn | ⟨g, cap, cur, rfl, _, hg, rest⟩
  · exact .inl hn
  · exact .inr ⟨g, cap, cur, rfl, hb g (by simp [Value.ownBlock]), hg, rest⟩
theorem blk6 {w : World} {b : Nat} {ty : TypeId} {a0 a1 a2 a3 a4 a5 : Value} (h : Blk w b ty #[a0, a1, a2, a3, a4, a5]) : w.cell? ⟨b, 0, none⟩ = some a0 ∧ w.cell? ⟨b, 1, none⟩ = some a1 ∧ w.cell? ⟨b, 2, none⟩ = some a2 ∧ w.cell? ⟨b, 3, none⟩ = some a3 ∧ w.cell? ⟨b, 4, none⟩ = some a4 ∧ w.cell? ⟨b, 5, none⟩ = some a5 :=
  ⟨h.cell 0, h.cell 1, h.cell 2, h.cell 3, h.cell 4, h.cell 5⟩

set_option maxHeartbeats 16000000 in
set_option maxRecDepth 100000 in
theorem law_goes (sectors : Int) (n1 : -9223372036854775808 ≤ sectors) (n2 : sectors ≤ 9223372036854775807) (Al : Option Addr) (nl cl : Nat) (os : List StepV) (Aw : Option Addr) (nw cw : Nat) (ws : List Int) (w : World)
    (hs : Script w w.heap.size Al nl os) (hl : nl ≤ 9223372036854775807) (hw : Rd w w.heap.size 1 Aw nw (u8Cells ws)) (hwb : ∀ z ∈ ws, 0 ≤ z ∧ z ≤ 255) (hw2 : nw ≤ 9223372036854775807) (hk : Consts w) :
    Calls Tryd.prog 4 #[.int .i64 sectors, .slice Al nl cl, .slice Aw nw cw] w (RetB (.bool true) w) := by
  have HK := Lib.hid hk
  have HS := Lib.hid hs
  have HW := Lib.hid hw
  have HWB := Lib.hid hwb
  clear hk hs hw hwb
  by_cases h1 : 200 < sectors
  · go_enter Tryd.func4, Tryd.ntmps4
    go_wp2_with fail
    refine (sanity_any w HK.out).mono ?_
    rintro e w' ⟨rfl, b⟩
    have B := Lib.hid b
    clear b
    go_wp2_with fail
    go_ret
    exact ⟨rfl, B.out⟩
  · by_cases h2 : 20 < nl
    · have d2 : (20 : Int) < (nl : Int) := by omega
      go_enter Tryd.func4, Tryd.ntmps4
      go_wp2_with fail
      refine (sanity_any w HK.out).mono ?_
      rintro e w' ⟨rfl, b⟩
      have B := Lib.hid b
      clear b
      go_wp2_with fail
      go_ret
      exact ⟨rfl, B.out⟩
    · have d2 : ¬ (20 : Int) < (nl : Int) := by omega
      by_cases h3 : 8 < nw
      · have d3 : (8 : Int) < (nw : Int) := by omega
        go_enter Tryd.func4, Tryd.ntmps4
        go_wp2_with fail
        refine (sanity_any w HK.out).mono ?_
        rintro e w' ⟨rfl, b⟩
        have B := Lib.hid b
        clear b
        go_wp2_with fail
        go_ret
        exact ⟨rfl, B.out⟩
      · have d3 : ¬ (8 : Int) < (nw : Int) := by omega
        by_cases h4 : sectors < 1
        · go_enter Tryd.func4, Tryd.ntmps4
          go_wp2_with fail
          refine (Dk.new_bad w sectors n1 n2 (.inl h4)).mono ?_
          rintro e w' ⟨rfl, rfl⟩
          go_wp2_with fail
          refine (sanity_any w HK.out).mono ?_
          rintro e w' ⟨rfl, b⟩
          have B := Lib.hid b
          clear b
          go_wp2_with fail
          go_ret
          exact ⟨rfl, B.out⟩
        · obtain ⟨N, rfl⟩ : ∃ N : Nat, sectors = (N : Int) := ⟨sectors.toNat, by omega⟩
          have N1 : 1 ≤ N := by omega
          have N2 : N ≤ 200 := by omega
          clear n1 n2 h1 h2 h3 h4
          go_enter Tryd.func4, Tryd.ntmps4
          go_wp2_with fail
          refine (Dk.new_any w N N1 (by omega)).mono ?_
          rintro e w1 hn
          obtain ⟨g, gb, gp, gw, rfl, d1⟩ := dd_new hn
          have D1 := Lib.hid d1
          have S1 := Lib.hid (Dk.sim_new N N [] N1)
          clear d1 hn
          go_wp2_with fail
          go_loopw [49] (fun x wr => ∃ (k : Nat) (S : Dk.St) (T : Dk.RSt), k ≤ nw ∧ x = .int .i64 k ∧ Hid (DD w wr g gb gp gw k S) ∧ Hid (Dk.Sim S T) ∧ Hid (Void T) ∧ Hid (S.bl.length = N)) (fun x _ => nw - (intOf x).toNat)
          case atStart => exact ⟨0, _, _, by omega, rfl, D1, S1, Lib.hid (void_new N N []), Lib.hid (by show (List.replicate N Dk.zeroBs).length = N; simp)⟩
          case round =>
            obtain ⟨k, S, T, hk, rfl, D, SM, V, L⟩ := hrel
            by_cases hlt : k < nw
            · obtain ⟨b, off, z, rfl, hbl, hz, hc⟩ := rd_u8 (HW.out.below D.out.below) hlt
              have hzb := HWB.out z hz
              have j1 : (k : Int) < (nw : Int) := by omega
              have j0 : (0 : Int) ≤ (k : Int) := by omega
              clear hz hbl
              go_wp2_with fail
              have z1 : 0 ≤ z % (N : Int) := Int.emod_nonneg _ (by omega)
              have z2 : z % (N : Int) < (N : Int) := Int.emod_lt_of_pos _ (by omega)
              refine (Dk.wear_any wr g gb gp gw k S D.out.disk (by omega) (z % (N : Int)) (by omega) (by omega)).mono ?_
              rintro e w2 hp
              obtain ⟨rfl, d2⟩ := D.out.post hp (Dk.tame_wear _ _)
              have D2 := Lib.hid d2
              have SM2 := Lib.hid (SM.out.wear (z % (N : Int)))
              have V2 := Lib.hid (V.out.wear (z % (N : Int)))
              have L2 := Lib.hid ((Dk.tame_wear S (z % (N : Int))).len.trans L.out)
              clear d2 hp
              go_wp2_with fail
              go_roundw
              case rel => exact ⟨k + 1, _, _, by omega, by go_num, D2, SM2, V2, L2⟩
              case measure => simp [intOf]; omega
            · obtain rfl : k = nw := by omega
              have HC0 := Lib.hid (check0 SM.out V.out.off)
              have HG := Lib.hid (V.out.goes SM.out).1
              go_wp2_with fail
              refine (open_any wr g gb gp gw k S D.out.disk (HK.out.below D.out.below)).mono ?_
              rintro e w2 hp
              obtain ⟨j, vn, vb, vt, rfl, j2⟩ := D.out.open_ hp HC0.out
              have J2 := Lib.hid j2
              obtain ⟨J, hJ⟩ : ∃ J, J = openJ S := ⟨_, rfl⟩
              rw [← hJ] at J2 HG
              clear j2 hp hJ D HC0 V
              go_wp2_with fail
              go_loopw [13, 14, 15, 73] (fun aN aT la x wr => ∃ (i m : Nat) (R : List (Nat × Bs)) (J : JV) (S : Dk.St) (T : Dk.RSt) (vn vt vN vT : Value) (last : Nat), i ≤ nl ∧ m ≤ i ∧ R.length ≤ i ∧ last ≤ m ∧ x = .int .i64 i ∧ vN = aN ∧ vT = aT ∧ la = .int .i64 (last : Int) ∧ Hid (JD w wr j g gb gp gw (k + 200 * i) vn vb vt J S) ∧ Hid (Dk.Sim S T) ∧ Hid (Goes J T R m) ∧ Hid (Own2 w wr vN vT R vn vb vt) ∧ Hid (S.bl.length = N)) (fun _ _ _ x _ => nl - (intOf x).toNat)
              case atStart => exact ⟨0, 0, [], J, S, T, vn, vt, _, _, 0, by omega, by omega, Nat.le_refl _, by omega, rfl, rfl, rfl, rfl, J2, SM, HG, Lib.hid ⟨World.ownsRow_nil _ _ _ _, World.ownsRow_nil _ _ _ _, fun k hk => by simp [Value.ownBlock] at hk, fun k hk => by simp [Value.ownBlock] at hk, fun k hk => by simp [Value.ownBlock] at hk⟩, L⟩
              case round =>
                obtain ⟨i, m, R, J, S, T, vn, vt, vN, vT, last, hi, hm, hR, hlast, rfl, rfl, rfl, rfl, JX, SM, HG, HO, L⟩ := hrel
                by_cases hlt : i < nl
                · obtain ⟨b, off, o, rfl, hbl, ho, x0, x1, x2, x3, x4, x5⟩ := rd_step (HS.out.keep (fun p hp => JX.out.dd.below.cell hp)) hlt
                  obtain ⟨ok, hok⟩ : ∃ x, x = o.k := ⟨_, rfl⟩
                  obtain ⟨oi, hoi⟩ : ∃ x, x = o.i := ⟨_, rfl⟩
                  obtain ⟨ob_, hob⟩ : ∃ x, x = o.bit := ⟨_, rfl⟩
                  obtain ⟨osz, hos⟩ : ∃ x, x = o.size := ⟨_, rfl⟩
                  obtain ⟨of_, hof⟩ : ∃ x, x = o.fill := ⟨_, rfl⟩
                  obtain ⟨oA, hoA⟩ : ∃ x, x = o.A := ⟨_, rfl⟩
                  obtain ⟨on, hon⟩ : ∃ x, x = o.n := ⟨_, rfl⟩
                  obtain ⟨oc, hoc⟩ : ∃ x, x = o.c := ⟨_, rfl⟩
                  rw [← hok] at x0
                  rw [← hoi] at x1
                  rw [← hob] at x2
                  rw [← hos] at x3
                  rw [← hof] at x4
                  rw [← hoA, ← hon, ← hoc] at x5
                  clear hok hoi hob hos hof hoA hon hoc ho hbl
                  have j1 : (i : Int) < (nl : Int) := by omega
                  have j0 : (0 : Int) ≤ (i : Int) := by omega
                  go_wp2_with fail
                  obtain ⟨w1, hw1⟩ : ∃ w1, w1 = wr.alloc (.cells #[.int .i64 ok, .int .i64 oi, .int .i64 ob_, .int .i64 osz, .int .u8 (of_.toNat : Int), .slice oA on oc] 46) := ⟨_, rfl⟩
                  have B1 := Lib.hid (show Below wr.heap.size wr w1 by rw [hw1]; exact below_new _ _)
                  have Q1 := Lib.hid (show Blk w1 wr.heap.size 46 #[.int .i64 ok, .int .i64 oi, .int .i64 ob_, .int .i64 osz, .int .u8 (of_.toNat : Int), .slice oA on oc] by rw [hw1]; exact Blk.new _ _ _)
                  rw [← hw1]
                  clear hw1 x0 x1 x2 x3 x4 x5
                  refine (rtext_any ok oi ob_ osz of_ oA on oc w1).mono ?_
                  rintro e w2 ⟨rfl, b2⟩
                  obtain ⟨t, ht⟩ : ∃ t, t = stepT osz of_ := ⟨_, rfl⟩
                  obtain ⟨s, hs⟩ : ∃ s : ByteArray, s = ⟨t.toArray⟩ := ⟨_, rfl⟩
                  rw [← ht, show str t = .string s by rw [hs]]
                  have HT := Lib.hid (show stepT osz of_ = t from ht.symm)
                  have HSS := Lib.hid (show str t = .string s by rw [hs])
                  have HSD := Lib.hid (show s.data.toList = t by rw [hs])
                  have B2 := Lib.hid (below_go B1.out b2)
                  have J2 := Lib.hid (JX.out.go B2.out)
                  have O2 := Lib.hid (HO.out.below B2.out)
                  have Q2 := Lib.hid (Q1.out.below b2 Q1.out.lt)
                  have HBD := Lib.hid (goes_bounds HG.out SM.out L.out (by omega))
                  clear ht hs b2 B1
                  go_wp2_with fail
                  refine (app_at2 J2.out HK.out (by omega) s t HSD.out HBD.out.1 HBD.out.2.1 HBD.out.2.2.1 (by have := HBD.out.2.2.2.1; omega) (by have := HBD.out.2.2.2.2; omega)).mono ?_
                  rintro e w3 ⟨vn', vt', rfl, j3, k3, ag1, ag2⟩
                  have J3 := Lib.hid j3
                  have O3 := Lib.hid (O2.out.app J2.out k3 ag1 ag2)
                  have Q3 := Lib.hid (show Blk w3 wr.heap.size 46 _ from (k3.block _ Q2.out.lt (fun hm => by have := JX.out.far _ hm; omega)).trans Q2.out)
                  have L3 := Lib.hid ((tame_appR J S t).len.trans L.out)
                  clear j3 k3 ag1 ag2 HBD
                  rcases goes_app HG.out SM.out (by omega) t with ⟨e0, en, T', hS', hG'⟩ | ⟨er, n, m', T', e0, en, her, hm1, hm2, hS', hG'⟩
                  · rw [e0, en]
                    have S3 := Lib.hid hS'
                    have G3 := Lib.hid hG'
                    clear e0 en hS' hG'
                    have lm : (last : Int) < (m : Int) + 1 := by omega
                    have lm2 : ¬ (m : Int) + 1 ≤ (last : Int) := by omega
                    have HTX := Lib.hid (show ∀ W, Calls Tryd.prog 17 #[.agg #[.int .i64 ok, .int .i64 oi, .int .i64 ob_, .int .i64 osz, .int .u8 (of_.toNat : Int), .slice oA on oc]] W (RetB (.string s) W) from fun W => by
                      have h := rtext_any ok oi ob_ osz of_ oA on oc W
                      rwa [HT.out, HSS.out] at h)
                    obtain ⟨nn, hnn⟩ : ∃ nn : Nat, nn = m + 1 := ⟨_, rfl⟩
                    have HNN := Lib.hid hnn
                    rw [show (m : Int) + 1 = (nn : Int) by rw [hnn]; omega] at lm lm2 ⊢
                    clear hnn
                    have Q3d : Blk w3.drew wr.heap.size 46 _ := Q3.out
                    obtain ⟨y0, y1, y2, y3, y4, y5⟩ := blk6 Q3d
                    have Q3a : Blk (w3.alloc (.cells #[.int .i64 (nn : Int)] 3)).drew wr.heap.size 46 _ := Q3.out.below (below_drewN' (below_new w3 _) 1) Q3.out.lt
                    obtain ⟨z0, z1, z2, z3, z4, z5⟩ := blk6 Q3a
                    have mI : (w3.alloc (.cells #[.int .i64 (nn : Int)] 3)).drew.cell? ⟨w3.heap.size, 0, none⟩ = some (.int .i64 (nn : Int)) := (Blk.new w3 3 #[.int .i64 (nn : Int)]).cell 0
                    have HRL := Lib.hid (show (R.map fun x => (x.1 : Int)).length = R.length by rw [List.length_map])
                    clear Q3d Q3a
                    go_wp2_with fail
                    go_region_held3 (fun W => W.cell? ⟨wr.heap.size, 0, none⟩ = some (.int .i64 ok) ∧ W.cell? ⟨wr.heap.size, 1, none⟩ = some (.int .i64 oi) ∧ W.cell? ⟨wr.heap.size, 2, none⟩ = some (.int .i64 ob_) ∧ W.cell? ⟨wr.heap.size, 3, none⟩ = some (.int .i64 osz) ∧ W.cell? ⟨wr.heap.size, 4, none⟩ = some (.int .u8 (of_.toNat : Int)) ∧ W.cell? ⟨wr.heap.size, 5, none⟩ = some (.slice oA on oc))
                      (first | exact blk6 Q11.out | exact blk6 Q10.out | exact blk6 Q9.out | exact blk6 Q8.out | exact ⟨z0, z1, z2, z3, z4, z5⟩ | exact ⟨y0, y1, y2, y3, y4, y5⟩ | go_keep)
                      (first
                      | (refine step_appI (by rfl) _ _ (by rfl) (by rfl) vN R.length (R.map fun x => (x.1 : Int)) (by rfl) (by exact (own_weak O3.out.nums).alloc _) (nn : Int) _ (by rfl) (by exact mI) (by omega) ?_; intro A8 c8 w8 o8 g8 h8; have G8 := Lib.hid (grew (w := w3) (below_drewN' (below_new w3 _) 1) g8 h8); have O8 := Lib.hid o8; have Q8 := Lib.hid (show Blk w8 wr.heap.size 46 _ from (G8.out.keep.block _ Q3.out.lt (blk_ne Q3.out O3.out.nums (by decide))).trans Q3.out); clear o8 g8 h8)
                      | (go_at_call 17; refine (HTX.out _).mono ?_; rintro e w9 ⟨rfl, b9⟩; have B9 := Lib.hid b9; have Q9 := Lib.hid (Q8.out.below b9 Q8.out.lt); have Q10 := Lib.hid (Q9.out.below (below_new w9 (.cells #[.string s] 9)) Q9.out.lt); have nA : (w9.alloc (.cells #[.string s] 9)).cell? ⟨w9.heap.size, 0, none⟩ = some (.string s) := (Blk.new w9 9 #[.string s]).cell 0; have T9 := Lib.hid (own_below (own_keepF O3.out.texts G8.out.keep (types_ne O3.out.texts O3.out.nums (by decide))) b9); clear b9)
                      | (refine step_appS (by rfl) _ _ (by rfl) (by rfl) vT R.length (R.map Prod.snd) (by rfl) (by exact (own_weak T9.out).alloc _) t _ (by rfl) (by rw [HSS.out]; exact nA) (by omega) ?_; intro A10 c10 w10 o10 g10 h10; have G10 := Lib.hid (grew (w := w9) (below_new w9 _) g10 h10); have O10 := Lib.hid o10; have Q11 := Lib.hid (show Blk w10 wr.heap.size 46 _ from (G10.out.keep.block _ Q9.out.lt (blk_ne Q9.out T9.out (by decide))).trans Q9.out); clear o10 g10 h10))
                    have hs0 : w.heap.size ≤ w3.heap.size := J3.out.dd.below.size
                    have K10 := Lib.hid (O3.out.grow J3.out (x := nn) (t := t) G8.out (own_up O8.out (fun q hq => by
                      rcases G8.out.aged q hq with h | h
                      · exact (O3.out.nums.lt q h).1
                      · omega)) B9.out G10.out (own_up O10.out (fun q hq => by
                      rcases G10.out.aged q hq with h | h
                      · exact (O3.out.texts.lt q h).1
                      · have := G8.out.keep.size; have := B9.out.size; omega)))
                    have J10 := Lib.hid (J3.out.lists O3.out K10.out.1)
                    obtain rfl := HNN.out
                    go_wp2_with fail
                    go_roundw
                    case rel => exact ⟨i + 1, m + 1, R ++ [(m + 1, t)], _, _, T', _, _, _, _, m + 1, by omega, by omega, by rw [List.length_append, List.length_singleton]; omega, Nat.le_refl _, by go_num, rfl, rfl, rfl, Lib.hid (J10.out.mono (by omega)), S3, G3, Lib.hid K10.out.2, L3⟩
                    case measure => simp [intOf]; omega
                  · rw [e0, en]
                    have S3 := Lib.hid hS'
                    have G3 := Lib.hid hG'
                    clear e0 en hS' hG'
                    rcases her with rfl | rfl | rfl
                    · go_wp2_with fail
                      go_roundw
                      case rel => exact ⟨i + 1, m', R, _, _, T', _, _, _, _, last, by omega, by omega, by omega, by omega, by go_num, rfl, rfl, rfl, Lib.hid (J3.out.mono (by omega)), S3, G3, O3, L3⟩
                      case measure => simp [intOf]; omega
                    · go_wp2_with fail
                      go_roundw
                      case rel => exact ⟨i + 1, m', R, _, _, T', _, _, _, _, last, by omega, by omega, by omega, by omega, by go_num, rfl, rfl, rfl, Lib.hid (J3.out.mono (by omega)), S3, G3, O3, L3⟩
                      case measure => simp [intOf]; omega
                    · go_wp2_with fail
                      go_roundw
                      case rel => exact ⟨i + 1, m', R, _, _, T', _, _, _, _, last, by omega, by omega, by omega, by omega, by go_num, rfl, rfl, rfl, Lib.hid (J3.out.mono (by omega)), S3, G3, O3, L3⟩
                      case measure => simp [intOf]; omega
                · obtain rfl : i = nl := by omega
                  have HC0 := Lib.hid (check0 SM.out HG.out.off)
                  have HOP := Lib.hid (goes_open HG.out SM.out)
                  have HBD := Lib.hid (goes_bounds HG.out SM.out L.out (by omega))
                  go_wp2_with fail
                  refine (open_any wr g gb gp gw _ S JX.out.dd.disk (HK.out.below JX.out.dd.below)).mono ?_
                  rintro e w2 hp
                  obtain ⟨hb2, hp2⟩ := hp
                  rcases hp2 with ⟨hn, -⟩ | ⟨-, q, un, ub, ut, rfl, jq, -⟩
                  · exact absurd HC0.out hn
                  have Q2 := Lib.hid jq
                  have J2 := Lib.hid (JX.out.go hb2)
                  have O2 := Lib.hid (HO.out.below hb2)
                  have HON := Lib.hid HOP.out.1
                  have HOT := Lib.hid HOP.out.2
                  clear jq hb2
                  go_wp2_with fail
                  refine (sanity_any w2 (HK.out.below J2.out.dd.below)).mono ?_
                  rintro e w3 ⟨rfl, b3⟩
                  have J3 := Lib.hid (J2.out.go b3)
                  have O3 := Lib.hid (O2.out.below b3)
                  have Q3 := Lib.hid (Q2.out.below b3)
                  clear b3
                  obtain ⟨AN, cN, rfl, -⟩ := own_slice O3.out.nums
                  obtain ⟨AT, cT, rfl, -⟩ := own_slice O3.out.texts
                  have HNL := Lib.hid HBD.out.2.2.2.1
                  have HTL := Lib.hid HBD.out.2.2.2.2
                  go_wp2_with fail
                  refine (numbers_any w3 j g vn vb vt J J3.out.jat (by have := HNL.out; omega)).mono ?_
                  rintro e w4 ⟨v4, rfl, own4, b4⟩
                  have J4 := Lib.hid (J3.out.go b4)
                  have O4 := Lib.hid (O3.out.below b4)
                  have Q4 := Lib.hid (Q3.out.below b4)
                  obtain ⟨A4, c4, rfl, -⟩ := own_slice own4
                  have X4 := Lib.hid own4
                  clear own4 b4
                  go_wp2_with fail
                  refine (sameInts_any A4 AN _ _ c4 cN J.nums (R.map fun x => (x.1 : Int)) w4 (Rd.of_own X4.out) (Rd.of_own O4.out.nums) HG.out.nums (by have := HNL.out; omega)).mono ?_
                  rintro e w5 ⟨rfl, b5⟩
                  have J5 := Lib.hid (J4.out.go b5)
                  have O5 := Lib.hid (O4.out.below b5)
                  have Q5 := Lib.hid (Q4.out.below b5)
                  clear b5 X4
                  go_wp2_with fail
                  refine (jtexts_any w5 j g vn vb vt J J5.out.jat (by have := HTL.out; omega)).mono ?_
                  rintro e w6 ⟨v6, rfl, own6, b6⟩
                  have J6 := Lib.hid (J5.out.go b6)
                  have O6 := Lib.hid (O5.out.below b6)
                  have Q6 := Lib.hid (Q5.out.below b6)
                  obtain ⟨A6, c6, rfl, -⟩ := own_slice own6
                  have X6 := Lib.hid own6
                  clear own6 b6
                  go_wp2_with fail
                  refine (sameTexts_any A6 AT _ _ c6 cT J.texts (R.map Prod.snd) w6 (Rd.of_own X6.out) (Rd.of_own O6.out.texts) rfl (by rw [List.length_map]) (by have := HTL.out; omega) true (Lib.hid (decide_eq_true HG.out.texts))).mono ?_
                  rintro e w7 ⟨rfl, b7⟩
                  have J7 := Lib.hid (J6.out.go b7)
                  have O7 := Lib.hid (O6.out.below b7)
                  have Q7 := Lib.hid (Q6.out.below b7)
                  clear b7 X6
                  go_wp2_with fail
                  refine (numbers_any w7 q g un ub ut (openJ S) Q7.out (by rw [HON.out]; have := HNL.out; omega)).mono ?_
                  rintro e w8 ⟨v8, rfl, own8, b8⟩
                  have J8 := Lib.hid (J7.out.go b8)
                  have O8 := Lib.hid (O7.out.below b8)
                  have Q8 := Lib.hid (Q7.out.below b8)
                  obtain ⟨A8, c8, rfl, -⟩ := own_slice own8
                  have X8 := Lib.hid own8
                  clear own8 b8
                  go_wp2_with fail
                  refine (sameInts_any A8 AN _ _ c8 cN (openJ S).nums (R.map fun x => (x.1 : Int)) w8 (Rd.of_own X8.out) (Rd.of_own O8.out.nums) (HON.out.trans HG.out.nums) (by rw [HON.out]; have := HNL.out; omega)).mono ?_
                  rintro e w9 ⟨rfl, b9⟩
                  have J9 := Lib.hid (J8.out.go b9)
                  have O9 := Lib.hid (O8.out.below b9)
                  have Q9 := Lib.hid (Q8.out.below b9)
                  clear b9 X8
                  go_wp2_with fail
                  refine (jtexts_any w9 q g un ub ut (openJ S) Q9.out (by rw [HOT.out]; have := HTL.out; omega)).mono ?_
                  rintro e w10 ⟨v10, rfl, own10, b10⟩
                  have J10 := Lib.hid (J9.out.go b10)
                  have O10 := Lib.hid (O9.out.below b10)
                  obtain ⟨A10, c10, rfl, -⟩ := own_slice own10
                  have X10 := Lib.hid own10
                  clear own10 b10
                  go_wp2_with fail
                  refine (sameTexts_any A10 AT _ _ c10 cT (openJ S).texts (R.map Prod.snd) w10 (Rd.of_own X10.out) (Rd.of_own O10.out.texts) rfl (by rw [List.length_map]) (by rw [HOT.out]; have := HTL.out; omega) true (Lib.hid (decide_eq_true (HOT.out.trans HG.out.texts)))).mono ?_
                  rintro e w11 ⟨rfl, b11⟩
                  have J11 := Lib.hid (J10.out.go b11)
                  clear b11 X10
                  go_wp2_with fail
                  go_ret
                  exact ⟨rfl, J11.out.dd.below⟩
end Go.Proofs.YtddpjahoeldleaaDoor
