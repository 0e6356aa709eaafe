/- The program's fine. -/
import Derived.Test.YtflfachkoffiiaaTable
namespace Go.Proofs.Ytflfachkoffiiaa
open Go.RowKit Go.Maps

theorem eg53 : ∀ args w, (callFunc 53 args).run Try.prog w = .ok (.enter 53 args) w := enters_of Try.func53 (by kernel_rfl) rfl
theorem eg52 : ∀ args w, (callFunc 52 args).run Try.prog w = .ok (.enter 52 args) w := enters_of Try.func52 (by kernel_rfl) rfl
theorem fol_any (x : Bs) (P F n : Nat) (fs : List Bs) (w : World) (h : Set_ w F n fs) (hc : w.cell? ⟨P, 0, none⟩ = some (.map (some F))) (hx : x.length ≤ 9223372036854775807) :
    Calls Try.prog 53 #[str x, .pointer (some ⟨P, 0, none⟩)] w (RetB (.bool (fs.contains x)) w) := by
  have hl := h.look (s := ⟨x.toArray⟩) (by rw [mk_size]; exact hx)
  rw [mk_list] at hl
  obtain ⟨p, hp⟩ : ∃ p, fs.contains x = p := ⟨_, rfl⟩
  rw [hp] at hl ⊢
  unfold str
  clear hp h
  go_enter Try.func53, Try.ntmps53
  go_wp2_with fail
  go_ret
  exact RetB.of rfl (Below.refl _ _)
def hitB (l : List ClV) (fs : List Bs) (i : Int) : Bool := match clOf l i with
  | some c => c.nots.any (fun s => fs.contains s)
  | none => false
theorem hit_any (A1 : Option Addr) (n1 c1 : Nat) (l : List ClV) (L P F n : Nat) (fs : List Bs) (i : Nat) (w : World) (h1 : Cls w w.heap.size A1 n1 l) (h : Set_ w F n fs) (hL : w.cell? ⟨L, 0, none⟩ = some (.slice A1 n1 c1)) (hP : w.cell? ⟨P, 0, none⟩ = some (.map (some F))) (hPw : P < w.heap.size)
    (hi : i < n1) : Calls Try.prog 52 #[.int .i64 i, .pointer (some ⟨L, 0, none⟩), .pointer (some ⟨P, 0, none⟩)] w (RetB (.bool (hitB l fs i)) w) := by
  obtain ⟨b1, o1, x, rfl, _, hx, hxa, y0, y1, y2⟩ := h1.at_ hi
  have l2 := hxa.l2
  have r2 := hxa.r2
  have m2 := hxa.m2
  have f2 := hxa.f2
  obtain ⟨nm, Am, nq, cq, must, Bm, nr, cr, nots⟩ := x
  dsimp only at l2 r2 y0 y1 y2 m2 f2
  have hh : hitB l fs i = nots.any (fun s => fs.contains s) := by unfold hitB; rw [clOf_nat hx]
  obtain ⟨p, hp⟩ : ∃ p, nots.any (fun s => fs.contains s) = p := ⟨_, rfl⟩
  rw [hh, hp]
  have HP := Lib.hid hp
  have R2 := Lib.hid r2
  have H := Lib.hid h
  have HPw := Lib.hid hPw
  have F2 := Lib.hid f2
  have HC := Lib.hid hP
  have j1 : (i : Int) < (n1 : Int) := by omega
  have j0 : (0 : Int) ≤ (i : Int) := by omega
  clear hx hxa y0 y1 l2 r2 hh hp h hP f2
  go_enter Try.func52, Try.ntmps52
  go_wp2_with fail
  refine (containsS_any 53 #[.pointer (some ⟨P, 0, none⟩)] eg53 (fun s => fs.contains s) Bm nr cr nots w R2.out m2 (fun W x hx hb => fol_any x P F n fs W (H.out.below hb) ((hb.cell (p := ⟨P, 0, none⟩) HPw.out).trans HC.out) (F2.out x hx)) p HP).mono ?_
  rintro e w1 ⟨rfl, b1⟩
  go_wp2_with fail
  go_ret
  exact RetB.of rfl b1
theorem fine_of {l : List ClV} {sel : List Int} {fs : List Bs} (h : ∀ s, s ∈ fs ↔ Der (mustsB l sel) s) : (!sel.any (hitB l fs)) = fineB l sel := by
  rw [Bool.eq_iff_iff, fineB_iff, Bool.not_eq_true', List.any_eq_false]
  constructor
  · intro hf i hi c hc s hs hd
    refine hf i hi ?_
    unfold hitB
    rw [hc]
    exact any_hit (List.getElem?_eq_getElem (List.getElem_of_mem hs).choose_spec.choose) (by rw [(List.getElem_of_mem hs).choose_spec.choose_spec]; exact List.contains_iff_mem.2 ((h s).2 hd))
  · intro hf i hi hh
    unfold hitB at hh
    cases hc : clOf l i with
    | none => rw [hc] at hh; cases hh
    | some c =>
      rw [hc] at hh
      obtain ⟨s, hs, hq⟩ := List.any_eq_true.1 hh
      exact hf i hi c hc s hs ((h s).1 (List.contains_iff_mem.1 hq))

theorem grp_len (ms : List Bs) (o : Option Bs) : (strCells (grpB ms o)).length ≤ ms.length := by
  rw [strCells, List.length_map]
  cases o with
  | none => exact facts_len ms
  | some a => exact next_len ms a
/-- the first phase's state -/
structure Ph (w3 wr : World) (N base : Nat) (ms : List Bs) (val : Option Bs → Value) (nN : Nat) : Prop where
  gr : Grps wr base val (grpB ms)
  hd : Hdrs wr N nN val
  le : nN ≤ ms.length
  bl : Below w3.heap.size w3 wr
  nn : w3.heap.size = N
  nb : base = N + 1
  bs : base ≤ wr.heap.size
theorem Ph.below {w3 wr w' : World} {N base nN : Nat} {ms : List Bs} {val : Option Bs → Value} (h : Ph w3 wr N base ms val nN) (hb : Below wr.heap.size wr w') : Ph w3 w' N base ms val nN :=
  ⟨h.gr.below hb, h.hd.below hb, h.le, below_go h.bl hb, h.nn, h.nb, Nat.le_trans h.bs hb.size⟩
theorem Ph.grow_bl {w3 wr w' : World} {N base nN : Nat} {ms : List Bs} {val : Option Bs → Value} (h : Ph w3 wr N base ms val nN) {o : Option Bs} (hg : wr.grownBy w' (val o).ownBlock) : Below w3.heap.size w3 w' :=
  h.bl.grown hg h.bl.size (fun k hk => by have := ((h.gr.row o).lt hk).1; have := h.nn; have := h.nb; omega)
theorem Ph.hd_keep {w3 wr w' : World} {N base nN : Nat} {ms : List Bs} {val : Option Bs → Value} (h : Ph w3 wr N base ms val nN) {o : Option Bs} (hg : wr.grownBy w' (val o).ownBlock) : Hdrs w' N nN val :=
  h.hd.kept hg (fun e => by have := ((h.gr.row o).lt e.symm).1; have := h.nb; omega)
theorem Ph.fact {w3 w1 w' : World} {N base nN : Nat} {ms : List Bs} {val : Option Bs → Value} (h : Ph w3 w1 N base ms val nN) {m : Bs} (hc : cutB m = none) {v' : Value}
    (hq : QAt w' base v' (strCells (grpB ms none) ++ [str m])) (hg : w1.grownBy w' (val none).ownBlock) (hl : v'.ownBlock = (val none).ownBlock ∨ ∃ k, v'.ownBlock = some k ∧ w1.heap.size ≤ k) : Ph w3 w' N base (ms ++ [m]) (upd val none v') nN := by
  refine ⟨?_, (h.hd_keep hg).list v', by have := h.le; simp; omega, h.grow_bl hg, h.nn, h.nb, Nat.le_trans h.bs hg.size⟩
  rw [grp_fact hc]
  exact h.gr.upd hg (by rw [strCells_snoc]; exact hq) hl
theorem Ph.rule {w3 w1 w' w2 : World} {N base nN : Nat} {ms : List Bs} {val : Option Bs → Value} (h : Ph w3 w1 N base ms val nN) {m a b : Bs} (hc : cutB m = some (a, b)) {v' : Value}
    (hq : QAt w' base v' (strCells (grpB ms (some a)) ++ [str b])) (hg : w1.grownBy w' (val (some a)).ownBlock) (hl : v'.ownBlock = (val (some a)).ownBlock ∨ ∃ k, v'.ownBlock = some k ∧ w1.heap.size ≤ k)
    {D : Dt} (hD : ∀ k, D.atKey (.string k) .nil = hdr (val (some k))) (hm : IsMap D) (ho : w2.ownsMap Try.prog 9 hdrR N (nN + 1) (D.put (.string a) (hdr v'))) (hg2 : w'.grownBy w2 (some N)) : Ph w3 w2 N base (ms ++ [m]) (upd val (some a) v') (nN + 1) := by
  refine ⟨?_, ⟨_, ho, fun k => hdr_put hm hD k⟩, by have := h.le; simp; omega, (h.grow_bl hg).grown hg2 (h.grow_bl hg).size (fun k hk => by injection hk with hk; have := h.nn; omega), h.nn, h.nb, Nat.le_trans h.bs (Nat.le_trans hg.size hg2.size)⟩
  rw [grp_rule hc]
  exact (h.gr.upd hg (by rw [strCells_snoc]; exact hq) hl).kept hg2 (fun g e => by injection e with e; have := h.nb; omega)
/-- .. at the list v -/
def Ph1 (w3 wr : World) (N base : Nat) (ms : List Bs) (v : Value) : Prop := ∃ val nN, v = val none ∧ Ph w3 wr N base ms val nN
theorem Ph1.bl {w3 wr : World} {N base : Nat} {ms : List Bs} {v : Value} (h : Ph1 w3 wr N base ms v) : Below w3.heap.size w3 wr := by obtain ⟨_, _, _, h⟩ := h; exact h.bl
theorem Ph1.start (w3 : World) : Ph1 w3 (w3.alloc (.map #[] 0)) w3.heap.size (w3.heap.size + 1) [] (.slice none 0 0) :=
  ⟨fun _ => .slice none 0 0, 0, rfl, ⟨fun o => by cases o <;> exact QAt.nil _ _, fun _ _ _ => .inl rfl⟩, ⟨.map [], World.ownsMap_made w3 Try.prog 9 hdrR, fun _ => rfl⟩, Nat.le_refl _, below_new w3 _, rfl, rfl, by simp⟩

theorem cutB_len {m a b : Bs} (h : cutB m = some (a, b)) : b.length ≤ m.length := by
  unfold cutB at h
  split at h
  · cases h
  · injection h with h; injection h with _ h; rw [← h, List.length_drop]; omega
theorem der_len {ms : List Bs} {n : Nat} (h : ∀ m ∈ ms, m.length ≤ n) {s : Bs} (hd : Der ms s) : s.length ≤ n := by
  induction hd with
  | fact hm _ => exact h _ hm
  | rule hm hc _ _ => exact Nat.le_trans (cutB_len hc) (h _ hm)
theorem keep_new {Fs : List Nat} {w w1 w2 : World} {row : Option Nat} (h : Keep Fs w w1) (hg : w1.grownBy w2 row) (hr : ∀ k, row = some k → w.heap.size ≤ k) : Keep Fs w w2 :=
  ⟨hg.os.trans h.os, hg.tape.trans h.tape, hg.output.trans h.output, Nat.le_trans h.size hg.size, fun i hi hF => (hg.block i (Nat.lt_of_lt_of_le hi h.size) (fun e => by have := hr i e.symm; omega)).trans (h.block i hi hF)⟩
theorem grown_refl (w : World) (row : Option Nat) : w.grownBy w row := ⟨rfl, rfl, rfl, Nat.le_refl _, fun _ _ _ => rfl⟩
theorem upd_upd {α : Type} (f : Option Bs → α) (o : Option Bs) (x y : α) : upd (upd f o x) o y = upd f o y := by
  funext o'; unfold upd; split <;> rfl
/-- the second phase's state -/
structure Ph2 (w3 wr : World) (F N base : Nat) (ms list fs : List Bs) (val : Option Bs → Value) (nN nF m : Nat) : Prop where
  gr : Grps wr base val (upd (grpB ms) none list)
  hd : Hdrs wr N nN val
  st : Set_ wr F nF fs
  wl : Wl ms list fs
  hm : m = list.length + pendB ms fs
  le : nF + m ≤ 100000
  kp : Keep [F] w3 wr
  nn : w3.heap.size = N
  nb : base = N + 1
  ff : F < N
  bs : base ≤ wr.heap.size
theorem Ph2.start {w3 wr : World} {F N base nN : Nat} {ms : List Bs} {val : Option Bs → Value} (h : Ph w3 wr N base ms val nN) (hst : Set_ w3 F 0 []) (hF : F < N) (hl : ms.length ≤ 8000) : Ph2 w3 wr F N base ms (grpB ms none) [] val nN 0 ((grpB ms none).length + pendB ms []) := by
  have e : upd (grpB ms) none (grpB ms none) = grpB ms := by funext o; unfold upd; split <;> simp_all
  have h1 := facts_len ms
  have h2 : pendB ms [] ≤ ms.length := List.length_filter_le _ _
  exact ⟨by rw [e]; exact h.gr, h.hd, hst.below h.bl, Wl.start ms, rfl, by have : grpB ms none = factsB ms := rfl; rw [this]; omega, Keep.of_below h.bl _, h.nn, h.nb, hF, h.bs⟩
theorem Ph2.skip {w3 wr : World} {F N base nN nF m : Nat} {ms rest fs : List Bs} {s : Bs} {val : Option Bs → Value} (h : Ph2 w3 wr F N base ms (s :: rest) fs val nN nF m) (hs : fs.contains s = true) {v2 : Value}
    (hq : QAt wr base v2 (strCells rest)) (hb : v2.ownBlock = (val none).ownBlock) : Ph2 w3 wr F N base ms rest fs (upd val none v2) nN nF (m - 1) := by
  have hm := h.hm
  rw [List.length_cons] at hm
  have hg := h.gr.upd (o := none) (g' := rest) (grown_refl wr _) hq (.inl hb)
  rw [upd_upd] at hg
  exact ⟨hg, h.hd.list v2, h.st, h.wl.skip (List.contains_iff_mem.1 hs), by omega, by have := h.le; omega, h.kp, h.nn, h.nb, h.ff, h.bs⟩
theorem Ph2.take {w3 wr w1 w2 : World} {F N base nN nF m : Nat} {ms rest fs : List Bs} {s : Bs} {val : Option Bs → Value} (h : Ph2 w3 wr F N base ms (s :: rest) fs val nN nF m) (hs : fs.contains s = false) {v2 : Value}
    (h1 : Set_ w1 F (nF + 1) (s :: fs)) (hg1 : wr.grownBy w1 (some F)) (hg2 : w1.grownBy w2 (val none).ownBlock)
    (hq : QAt w2 base v2 (strCells (rest ++ nextB ms s))) (hb : v2.ownBlock = (val none).ownBlock ∨ ∃ k, v2.ownBlock = some k ∧ w1.heap.size ≤ k) : Ph2 w3 w2 F N base ms (rest ++ nextB ms s) (s :: fs) (upd val none v2) nN (nF + 1) (m - 1) := by
  have hm := h.hm
  have hff := h.ff
  have hnb := h.nb
  have hnn := h.nn
  rw [List.length_cons] at hm
  have hrow : ∀ k, (val none).ownBlock = some k → base ≤ k := fun k hk => ((h.gr.row none).lt hk).1
  have g1 := h.gr.kept hg1 (fun g e => by injection e with e; omega)
  have hg := g1.upd (o := none) (g' := rest ++ nextB ms s) hg2 hq hb
  rw [upd_upd] at hg
  have hp := pend_take fs s hs ms
  refine ⟨hg, ((h.hd.kept hg1 (fun e => by injection e with e; omega)).kept hg2 (fun e => by have := hrow N e.symm; omega)).list v2, h1.kept hg2 (fun e => by have := hrow F e.symm; omega), h.wl.take,
    by rw [List.length_append]; omega, by have := h.le; omega, keep_new (h.kp.grown hg1 (by simp)) hg2 (fun k hk => by have := hrow k hk; omega), h.nn, h.nb, h.ff, Nat.le_trans h.bs (Nat.le_trans hg1.size hg2.size)⟩
/-- .. at the list v, m steps ahead of its end -/
def Ph2M (w3 : World) (F N base : Nat) (ms : List Bs) (v : Value) (wr : World) (m : Nat) : Prop := ∃ list fs val nN nF, v = val none ∧ Ph2 w3 wr F N base ms list fs val nN nF m

set_option maxHeartbeats 8000000 in
set_option maxRecDepth 100000 in
theorem fine_any (A1 : Option Addr) (n1 c1 : Nat) (l : List ClV) (A : Option Addr) (n c : Nat) (sel : List Int) (w : World) (h1 : Cls w w.heap.size A1 n1 l) (h2 : Rd w w.heap.size 1 A n (intCells sel)) (hs : Small l) (hn : n ≤ 1000) (hr : ∀ i ∈ sel, 0 ≤ i ∧ i < n1) :
    Calls Try.prog 36 #[.slice A1 n1 c1, .slice A n c] w (RetB (.bool (fineB l sel)) w) := by
  have HL := Lib.hid h1.len
  have HS := Lib.hid (int_len h2)
  have H1 := Lib.hid h1
  have H2 := Lib.hid h2
  have HM : ∀ s : List Int, (mustsB l s).length ≤ 8 * s.length := musts_len (fun c hc => (hs.2 c hc).1)
  have h32 : n1 ≤ 32 := by have := hs.1; have := h1.len; omega
  have HM := Lib.hid HM
  have HSm := Lib.hid hs
  have HR := Lib.hid hr
  clear h1 h2 hs hr
  have hmm := @run_makeMap Try.prog
  go_enter Try.func36, Try.ntmps36
  go_wp2_with fail
  clear hmm
  obtain ⟨w3, hw3⟩ : ∃ w3, w3 = ((w.alloc (.cells #[.slice A1 n1 c1] 23)).alloc (.map #[] 0)).alloc (.cells #[.map (some (w.heap.size + 1))] 63) := ⟨_, rfl⟩
  have s3 : w3.heap.size = w.heap.size + 1 + 1 + 1 := by rw [hw3]; simp
  have hb3 : Below w.heap.size w w3 := by rw [hw3]; exact ((below_new w _).alloc (by simp) _).alloc (by simp; omega) _
  have cL : w3.cell? ⟨w.heap.size, 0, none⟩ = some (.slice A1 n1 c1) := by
    have b1 : Below (w.heap.size + 1) (w.alloc (.cells #[.slice A1 n1 c1] 23)) w3 := by rw [hw3]; exact ((Below.refl (w.heap.size + 1) (w.alloc (.cells #[.slice A1 n1 c1] 23))).alloc (by simp) _).alloc (by simp) _
    rw [b1.cell (p := ⟨w.heap.size, 0, none⟩) (by simp), World.cell?_alloc_at _ _ _ _ rfl]; rfl
  have cP : w3.cell? ⟨w.heap.size + 1 + 1, 0, none⟩ = some (.map (some (w.heap.size + 1))) := by
    rw [hw3, World.cell?_alloc_at _ _ _ _ (by simp)]; rfl
  have sF : Set_ w3 (w.heap.size + 1) 0 [] := by
    rw [hw3]
    have hm := World.ownsMap_made (H := Unit) (w.alloc (.cells #[.slice A1 n1 c1] 23)) Try.prog 9 (plainElem Try.prog 4)
    rw [show (w.alloc (.cells #[.slice A1 n1 c1] 23)).heap.size = w.heap.size + 1 by simp] at hm
    exact ⟨_, hm.alloc _, fun _ => rfl⟩
  have CL := Lib.hid cL
  have CP := Lib.hid cP
  have SF := Lib.hid sF
  have PH := Lib.hid (Ph1.start w3)
  rw [s3] at PH
  rw [← hw3]
  have HB3 := Lib.hid hb3
  have S3 := Lib.hid s3
  have HCl := Lib.hid (H1.out.go hb3)
  have HSel := Lib.hid (H2.out.go hb3)
  clear hw3 s3 hb3 cL cP sF
  go_loopw [7, 20] (fun v x wr => ∃ k : Nat, k ≤ n ∧ x = .int .i64 k ∧ Hid (Ph1 w3 wr (w.heap.size + 1 + 1 + 1) (w.heap.size + 1 + 1 + 1 + 1) (mustsB l (sel.take k)) v)) (fun _ x _ => n - (intOf x).toNat)
  case atStart => exact ⟨0, by omega, rfl, PH⟩
  case round =>
    obtain ⟨k, hk, rfl, Q⟩ := hrel
    clear PH
    by_cases hlt : k < n
    · have HBL := Lib.hid Q.out.bl
      obtain ⟨b2, o2, rfl, _, x1⟩ := (HSel.out.below HBL.out).int hlt
      have hkl : k < sel.length := by have := HS.out; omega
      have j1 : (k : Int) < (n : Int) := by omega
      have j0 : (0 : Int) ≤ (k : Int) := by omega
      have hz : sel.getD k 0 = sel[k] := by rw [List.getD_eq_getElem?_getD, List.getElem?_eq_getElem hkl]; rfl
      rw [hz] at x1
      obtain ⟨i, hzi⟩ : ∃ i : Nat, sel[k] = i := ⟨sel[k].toNat, by have := HR.out _ (List.getElem_mem hkl); omega⟩
      rw [hzi] at x1
      have hi : i < n1 := by have := HR.out _ (List.getElem_mem hkl); rw [hzi] at this; omega
      have HT := Lib.hid (musts_step (l := l) hkl)
      rw [hzi] at HT
      clear hz hzi
      obtain ⟨b1, o1, x, rfl, hbb, hx, hxa, y0, y1, y2⟩ := (HCl.out.keep (w' := wr) (fun p hp => HBL.out.cell hp)).at_ hi
      have HT2 := Lib.hid (HT.out.trans (by rw [mustOf_in hx]))
      have HM2 := Lib.hid (HM.out (sel.take (k + 1)))
      rw [HT2.out] at HM2
      have l1 := hxa.l1
      have r1 := hxa.r1
      have f1 := hxa.f1
      obtain ⟨nm, Am, nq, cq, must, Bm, nr, cr, nots⟩ := x
      have m1 := hxa.m1
      dsimp only at l1 r1 y0 y1 y2 m1 f1 HT2 HM2
      have L1 := Lib.hid l1
      have R1 := Lib.hid r1
      have F1 := Lib.hid f1
      have jL := (HBL.out.cell (p := ⟨w.heap.size, 0, none⟩) (by show w.heap.size < _; rw [S3.out]; omega)).trans CL.out
      obtain ⟨M0, hM0⟩ : ∃ M0, M0 = mustsB l (sel.take k) := ⟨_, rfl⟩
      rw [← hM0] at HT2 HM2 Q
      have hml : (M0 ++ must).length ≤ 8000 := by have := HM2.out; rw [List.length_take] at this; omega
      have HML := Lib.hid hml
      have jj1 : (i : Int) < (n1 : Int) := by omega
      have jj0 : (0 : Int) ≤ (i : Int) := by omega
      clear hxa y0 y2 l1 r1 f1 hx HT hM0 HM2 hml
      have Q0 := Lib.hid (show Ph1 w3 wr (w.heap.size + 1 + 1 + 1) (w.heap.size + 1 + 1 + 1 + 1) (M0 ++ must.take 0) u7 by rw [List.take_zero, List.append_nil]; exact Q.out)
      clear Q
      obtain ⟨wm, rfl⟩ : ∃ wm, wm = wr := ⟨_, rfl⟩
      go_wp2_with fail
      go_loopw [7, 30] (fun v x wq => ∃ q : Nat, q ≤ nq ∧ x = .int .i64 q ∧ Hid (Ph1 w3 wq (w.heap.size + 1 + 1 + 1) (w.heap.size + 1 + 1 + 1 + 1) (M0 ++ must.take q) v)) (fun _ x _ => nq - (intOf x).toNat)
      case atStart => exact ⟨0, by omega, rfl, Q0⟩
      case round =>
        obtain ⟨q, hq, rfl, Q⟩ := hrel
        clear Q0
        by_cases hql : q < nq
        · obtain ⟨b3, o3, rfl, _, y3⟩ := (R1.out.keep (w' := wr) (fun p hp => (Q.out.bl.cell hp).trans (HBL.out.cell hp).symm)).str L1.out hql
          have hml : q < must.length := by have := L1.out; omega
          have i1 : (q : Int) < (nq : Int) := by omega
          have i0 : (0 : Int) ≤ (q : Int) := by omega
          have hTk : M0 ++ must.take (q + 1) = M0 ++ must.take q ++ [must[q]] := by rw [List.take_succ_eq_append_getElem hml, List.append_assoc]
          have hMl : (M0 ++ must.take q).length ≤ 8000 := by have := HML.out; rw [List.length_append] at this ⊢; rw [List.length_take]; omega
          obtain ⟨sp, hsp⟩ : ∃ sp : ByteArray, sp = ⟨must[q].toArray⟩ := ⟨_, rfl⟩
          have hspl : must[q] = sp.data.toList := by rw [hsp]
          have zs : sp.size ≤ 9223372036854775807 := by rw [← list_size, ← hspl]; exact F1.out _ (List.getElem_mem hml)
          rw [← hsp] at y3
          rw [hspl] at hTk
          have HTK := Lib.hid hTk
          obtain ⟨ms, hms⟩ : ∃ ms, ms = M0 ++ must.take q := ⟨_, rfl⟩
          rw [← hms] at HTK hMl Q
          clear hsp hspl hTk hms
          obtain ⟨val, nN, rfl, P⟩ := Q.out
          have HP := Lib.hid P
          clear P Q
          by_cases hg : gtI sp.data.toList < 0
          · have HV := Lib.hid (cutV_none hg)
            have HCut := Lib.hid (cutB_none hg)
            clear hg
            go_wp2_with fail
            refine (cut_any sp wr zs).mono ?_
            rintro e w1 ⟨rfl, b1⟩
            rw [HV.out]
            have HP1 := Lib.hid (HP.out.below b1)
            have hol : (strCells (grpB ms none)).length + 1 ≤ 1000000 := by have := grp_len ms none; omega
            clear b1
            go_wp2_with (at_builtin; refine wpList_append_q _ rfl _ _ rfl rfl (w.heap.size + 1 + 1 + 1 + 1) _ _ rfl (HP1.out.below (below_new w1 _) |>.gr.row none) ?h1 _ 1 _ rfl (src_one _ sp.data.toList _) hol ?_)
            case h1 => exact (HP1.out.below (below_new w1 _)).bs
            intro v' w2 hq hgr hloc
            have HP2 := Lib.hid ((HP1.out.below (below_new w1 _)).fact HCut.out hq hgr (hloc.imp id (fun e => ⟨_, e, by simp⟩)))
            clear hq hgr hloc
            go_wp2_with fail
            go_roundw
            case rel => exact ⟨q + 1, by omega, by go_num, Lib.hid ⟨_, _, (upd_same _ _ _).symm, by rw [HTK.out]; exact HP2.out⟩⟩
            case measure => simp [intOf]; omega
          · obtain ⟨g, hgi⟩ : ∃ k : Nat, gtI sp.data.toList = k := ⟨(gtI sp.data.toList).toNat, by omega⟩
            have HV := Lib.hid (cutV_some hgi)
            obtain ⟨a, ha⟩ : ∃ a, a = sp.extract 0 g := ⟨_, rfl⟩
            obtain ⟨d, hd⟩ : ∃ d, d = sp.extract (g + 1) sp.size := ⟨_, rfl⟩
            rw [← ha, ← hd] at HV
            have hcut : cutB sp.data.toList = some (a.data.toList, d.data.toList) := by
              rw [cutB, if_neg (by omega), hgi, Int.toNat_natCast, ha, hd, extract_list, extract_list, List.drop_zero, Nat.sub_zero]
              congr 2
              rw [List.take_of_length_le]
              rw [List.length_drop, list_size]; omega
            have za : a.size ≤ 9223372036854775807 := by rw [ha, ByteArray.size_extract]; omega
            have HCut := Lib.hid hcut
            clear hcut ha hd hg hgi
            go_wp2_with fail
            refine (cut_any sp wr zs).mono ?_
            rintro e w1 ⟨rfl, b1⟩
            rw [HV.out]
            have HP1 := Lib.hid (HP.out.below b1)
            clear b1
            have hrun := HP1.out.hd.look HP1.out.gr za
            have HPA := Lib.hid (HP1.out.below (below_new w1 (.cells #[.string d] 9)))
            have hol : (strCells (grpB ms (some a.data.toList))).length + 1 ≤ 1000000 := by have := grp_len ms (some a.data.toList); omega
            generalize hv0 : val (some a.data.toList) = v0 at *
            have HV0 := Lib.hid hv0
            clear hv0
            go_wp2_with (at_builtin; refine wpList_append_q _ rfl _ _ rfl rfl (w.heap.size + 1 + 1 + 1 + 1) _ _ rfl (by rw [← HV0.out]; exact HPA.out.gr.row (some a.data.toList)) HPA.out.bs _ 1 _ rfl (src_one _ d.data.toList _) hol ?_)
            intro v' w2 hq hgr hloc
            have HQ := Lib.hid hq
            rw [← HV0.out] at hgr hloc
            have HGR := Lib.hid hgr
            have HLOC := Lib.hid hloc
            obtain ⟨D, ho, hD⟩ := HPA.out.hd_keep hgr
            have HO := Lib.hid ho
            have HD := Lib.hid hD
            have hnN : nN < maxLen := by have := HPA.out.le; unfold maxLen; omega
            clear hq hgr hloc ho hD
            go_wp2_with (at_mapUpdate; refine wpList_mapUpdate_own _ rfl _ _ _ 64 rfl 9 34 law9 Try.underlying64 hdrR _ nN D rfl HO.out hnN (.string a) v' (.string a.data.toList) rfl rfl (key_s za) (hdr v') [] (hdr_of HQ.out) ?_)
            intro w4 hown4 hgr4
            have HP2 := Lib.hid (HPA.out.rule HCut.out HQ.out HGR.out (HLOC.out.imp id (fun e => ⟨_, e, by simp⟩)) HD.out (own_isMap HO.out) hown4 hgr4)
            clear hown4 hgr4
            go_wp2_with fail
            go_roundw
            case rel => exact ⟨q + 1, by omega, by go_num, Lib.hid ⟨_, _, (upd_other val v' (show (none : Option Bs) ≠ some a.data.toList from fun h => nomatch h)).symm, by rw [HTK.out]; exact HP2.out⟩⟩
            case measure => simp [intOf]; omega
        · obtain rfl : q = nq := by omega
          have Q2 := Lib.hid (show Ph1 w3 wr (w.heap.size + 1 + 1 + 1) (w.heap.size + 1 + 1 + 1 + 1) (mustsB l (sel.take (k + 1))) u7 by rw [HT2.out]; have := Q.out; rwa [List.take_of_length_le (by have := L1.out; omega)] at this)
          clear Q
          go_wp2_with fail
          go_roundw
          case rel => exact ⟨k + 1, by omega, by go_num, Q2⟩
          case measure => simp [intOf]; omega
    · obtain rfl : k = n := by omega
      have Q2 := Lib.hid (show Ph1 w3 wr (w.heap.size + 1 + 1 + 1) (w.heap.size + 1 + 1 + 1 + 1) (mustsB l sel) u7 by have := Q.out; rwa [List.take_of_length_le (by have := HS.out; omega)] at this)
      have hml : (mustsB l sel).length ≤ 8000 := by have := HM.out sel; have := HS.out; omega
      have HF := Lib.hid (show ∀ m ∈ mustsB l sel, m.length ≤ 9223372036854775807 from musts_each (fun c hc => (H1.out.all c hc).f1))
      have HFin := Lib.hid (fun fs : List Bs => fine_of (l := l) (sel := sel) (fs := fs))
      obtain ⟨ms, hms⟩ : ∃ ms, ms = mustsB l sel := ⟨_, rfl⟩
      rw [← hms] at Q2 hml HF HFin
      have QM := Lib.hid (show ∃ m, Ph2M w3 (w.heap.size + 1) (w.heap.size + 1 + 1 + 1) (w.heap.size + 1 + 1 + 1 + 1) ms u7 wr m from by
        obtain ⟨val, nN, hv, h⟩ := Q2.out
        exact ⟨_, _, _, val, nN, 0, hv, Ph2.start h SF.out (by omega) hml⟩)
      clear Q Q2 hms hml HM SF
      go_wp2_with fail
      go_loopw [7] (fun v wq => ∃ m, Ph2M w3 (w.heap.size + 1) (w.heap.size + 1 + 1 + 1) (w.heap.size + 1 + 1 + 1 + 1) ms v wq m) (fun v wq => gmeas (Ph2M w3 (w.heap.size + 1) (w.heap.size + 1 + 1 + 1) (w.heap.size + 1 + 1 + 1 + 1) ms v wq))
      case atStart => exact QM.out
      case round =>
        clear QM
        have hgm := gmeas_spec hrel
        clear hrel
        obtain ⟨m, hm⟩ : ∃ m, gmeas (Ph2M w3 (w.heap.size + 1) (w.heap.size + 1 + 1 + 1) (w.heap.size + 1 + 1 + 1 + 1) ms u7 wr) = m := ⟨_, rfl⟩
        rw [hm] at hgm
        have HG := Lib.hid hm
        clear hm
        obtain ⟨list, fs, val, nN, nF, hv, P⟩ := hgm
        have hq := P.gr.row none
        rw [upd_same, ← hv] at hq
        have jP := (P.kp.cell (p := ⟨w.heap.size + 1 + 1, 0, none⟩) (by show w.heap.size + 1 + 1 < _; rw [S3.out]; omega) (by simp)).trans CP.out
        have HP := Lib.hid P
        have HVal := Lib.hid hv
        clear P hv
        obtain ⟨A', c', rfl, hcc, _⟩ := hq.rd
        cases list with
        | nil =>
          clear hq hcc
          have jL := Lib.hid ((HP.out.kp.cell (p := ⟨w.heap.size, 0, none⟩) (by show w.heap.size < _; rw [S3.out]; omega) (by simp)).trans CL.out)
          have JP := Lib.hid jP
          have HBw := Lib.hid (HB3.out.trans (HP.out.kp.below (B := w.heap.size) HB3.out.size (by intro k hk; simp at hk; omega)))
          have HW := Lib.hid HP.out.wl
          have HST := Lib.hid HP.out.st
          obtain ⟨r, hr⟩ : ∃ r, sel.any (hitB l fs) = r := ⟨_, rfl⟩
          have HRr := Lib.hid hr
          have hPlt : w.heap.size + 1 + 1 < wr.heap.size := by have := HP.out.bs; omega
          clear hr jP
          go_wp2_with fail
          refine (containsI_any 52 #[.pointer (some ⟨w.heap.size, 0, none⟩), .pointer (some ⟨w.heap.size + 1 + 1, 0, none⟩)] eg52 (hitB l fs) A k c sel wr (H2.out.go HBw.out) (by omega) (fun W x hx hb => ?_) r HRr).mono ?_
          · obtain ⟨x0, x1⟩ := HR.out x hx
            obtain ⟨i, rfl⟩ : ∃ i : Nat, x = i := ⟨x.toNat, by omega⟩
            exact hit_any A1 n1 c1 l w.heap.size (w.heap.size + 1 + 1) (w.heap.size + 1) nF fs i W ((H1.out.go HBw.out).go hb) (HST.out.below hb) ((hb.cell (p := ⟨w.heap.size, 0, none⟩) (by show w.heap.size < _; omega)).trans jL.out) ((hb.cell (p := ⟨w.heap.size + 1 + 1, 0, none⟩) hPlt).trans JP.out) (Nat.lt_of_lt_of_le hPlt hb.size) (by omega)
          · rintro e w' ⟨rfl, hb⟩
            go_wp2_with fail
            go_ret
            refine RetB.of ?_ (below_go HBw.out hb)
            have := HFin.out fs (fun s => HW.out.done s)
            rw [HRr.out] at this
            rw [← this]; rfl
        | cons s rest =>
          obtain ⟨g, off, rfl, hn', _, y1, htl⟩ := QAt.tail (x := str s) (xs := strCells rest) hq
          rw [hn'] at hcc
          have hmm := HP.out.hm
          rw [List.length_cons] at hmm
          have hd : Der ms s := HP.out.wl.sound s (.inl List.mem_cons_self)
          have zl := der_len HF.out hd
          obtain ⟨rl, hrl⟩ : ∃ rl, rl = (strCells rest).length := ⟨_, rfl⟩
          rw [show (strCells (s :: rest)).length = rl + 1 by rw [hrl]; simp [strCells]] at *
          rw [← hrl] at htl
          have HRL := Lib.hid (show rl = rest.length by rw [hrl]; simp [strCells])
          have HTL := Lib.hid htl
          have HM2 := Lib.hid hmm
          clear hq hn' hd htl hmm hrl
          obtain ⟨sp, hsp⟩ : ∃ sp : ByteArray, sp = ⟨s.toArray⟩ := ⟨_, rfl⟩
          have hspl : s = sp.data.toList := by rw [hsp]
          have zs : sp.size ≤ 9223372036854775807 := by rw [← list_size, ← hspl]; exact zl
          rw [show str s = .string sp by rw [hsp]] at y1
          have hrun := HP.out.st.look zs
          rw [← hspl] at hrun
          obtain ⟨p, hp⟩ : ∃ p, fs.contains s = p := ⟨_, rfl⟩
          rw [hp] at hrun
          have HPp := Lib.hid hp
          have HSP := Lib.hid hspl
          clear hp hsp hspl
          cases p
          · obtain ⟨Df, ho, hD⟩ := HP.out.st
            have HO := Lib.hid ho
            have HD := Lib.hid hD
            have hnF : nF < maxLen := by have := HP.out.le; unfold maxLen; omega
            clear ho hD
            go_wp2_with (at_mapUpdate; refine wpList_mapUpdate_own _ rfl _ _ _ 63 rfl 9 4 law9 Try.underlying63 (plainElem Try.prog 4) _ nF Df rfl HO.out hnF (.string sp) (.bool true) (.string sp.data.toList) rfl rfl (key_s zs) (.lit (.bool true)) [] (plainElem_bool Try.underlying4 true) ?_)
            intro w1 hown1 hgr1
            have HSt := Lib.hid (show Set_ w1 (w.heap.size + 1) (nF + 1) (s :: fs) from ⟨_, hown1, fun x => by rw [← HSP.out]; exact set_put (own_isMap HO.out) HD.out x⟩)
            have HGR1 := Lib.hid hgr1
            have HB1 := Lib.hid (show w.heap.size + 1 + 1 + 1 + 1 ≤ w1.heap.size from Nat.le_trans HP.out.bs hgr1.size)
            have hgk := HP.out.gr.kept hgr1 (fun g e => by injection e with e; omega)
            have HRow := Lib.hid (show QAt w1 (w.heap.size + 1 + 1 + 1 + 1) (.slice (some ⟨g, off, none⟩) (rl + 1) c') (strCells (s :: rest)) by have := hgk.row none; rw [upd_same, ← HVal.out] at this; exact this)
            have hrun2 := (HP.out.hd.kept hgr1 (fun e => by injection e with e; omega)).look hgk zs
            rw [← HSP.out] at hrun2
            have hr0 := hgk.row (some s)
            rw [upd_other _ _ (by simp)] at hr0
            obtain ⟨A0, c0, hv0, hc0, hr0⟩ := hr0.rd
            rw [hv0] at hrun2
            have hsrc := Lib.hid (src_rd (c := c0) (show Rd w1 w1.heap.size 1 A0 (strCells (nextB ms s)).length (strCells (nextB ms s)) from hr0))
            obtain ⟨nl, hnl⟩ : ∃ nl, nl = (strCells (nextB ms s)).length := ⟨_, rfl⟩
            rw [show grpB ms (some s) = nextB ms s from rfl, ← hnl] at hrun2
            rw [← hnl] at hsrc
            have hol : (strCells (s :: rest)).length + nl ≤ 1000000 := by
              have h1 := HP.out.le
              have h2 := HM2.out
              have h3 := pend_take fs s HPp.out ms
              rw [hnl, strCells, strCells, List.length_map, List.length_map, List.length_cons]
              omega
            clear hown1 hgr1 hgk hr0 hv0 hc0 hnl hrun
            go_wp2_with (at_builtin; refine wpList_append_q _ rfl _ _ rfl rfl (w.heap.size + 1 + 1 + 1 + 1) _ _ rfl HRow.out HB1.out _ nl _ rfl hsrc.out hol ?_)
            intro v' w2 hq hgr hloc
            rw [show strCells (s :: rest) ++ strCells (nextB ms s) = str s :: strCells (rest ++ nextB ms s) by simp [strCells]] at hq
            obtain ⟨A', c2, rfl, hcc2, _⟩ := hq.rd
            obtain ⟨g2, off2, rfl, _, _, _, htl⟩ := QAt.tail (x := str s) (xs := strCells (rest ++ nextB ms s)) hq
            have HN := Lib.hid (show ∀ v2, QAt w2 (w.heap.size + 1 + 1 + 1 + 1) v2 (strCells (rest ++ nextB ms s)) → v2.ownBlock = some g2 → Ph2M w3 (w.heap.size + 1) (w.heap.size + 1 + 1 + 1) (w.heap.size + 1 + 1 + 1 + 1) ms v2 w2 (m - 1) from
              fun v2 hq hb => ⟨_, _, _, nN, nF + 1, (upd_same _ _ _).symm, HP.out.take HPp.out HSt.out HGR1.out (by rw [← HVal.out]; exact hgr) hq (by rw [hb, ← HVal.out]; exact hloc.imp id (fun e => ⟨_, e, Nat.le_refl _⟩))⟩)
            obtain ⟨ln, hln⟩ : ∃ ln, ln = (strCells (rest ++ nextB ms s)).length := ⟨_, rfl⟩
            rw [List.length_cons, ← hln] at hcc2
            rw [← hln] at htl
            rw [show (str s :: strCells (rest ++ nextB ms s)).length = ln + 1 by rw [List.length_cons, hln]]
            have HTL2 := Lib.hid htl
            clear hq hgr hloc htl hln
            by_cases hc1 : c2 = 1
            · subst hc1
              obtain rfl : ln = 0 := by omega
              have HN2 := Lib.hid (HN.out _ HTL2.out rfl)
              go_wp2_with fail
              exact ⟨⟨_, HN2.out⟩, by rw [HG.out]; exact Nat.lt_of_le_of_lt (gmeas_le HN2.out) (by have := HM2.out; omega)⟩
            · have HN2 := Lib.hid (HN.out _ HTL2.out (by rw [if_neg hc1]; rfl))
              rw [if_neg hc1] at HN2
              have hc2 : ¬ c2 = 0 := by omega
              go_wp2_with fail
              exact ⟨⟨_, HN2.out⟩, by rw [HG.out]; exact Nat.lt_of_le_of_lt (gmeas_le HN2.out) (by have := HM2.out; omega)⟩
          · have HN := Lib.hid (show ∀ v2, QAt wr (w.heap.size + 1 + 1 + 1 + 1) v2 (strCells rest) → v2.ownBlock = some g → Ph2M w3 (w.heap.size + 1) (w.heap.size + 1 + 1 + 1) (w.heap.size + 1 + 1 + 1 + 1) ms v2 wr (m - 1) from
              fun v2 hq hb => ⟨rest, fs, _, nN, nF, (upd_same _ _ _).symm, HP.out.skip HPp.out hq (by rw [hb, ← HVal.out]; rfl)⟩)
            by_cases hc1 : c' = 1
            · subst hc1
              obtain rfl : rl = 0 := by omega
              have HN2 := Lib.hid (HN.out _ HTL.out rfl)
              go_wp2_with fail
              exact ⟨⟨_, HN2.out⟩, by rw [HG.out]; exact Nat.lt_of_le_of_lt (gmeas_le HN2.out) (by have := HM2.out; omega)⟩
            · have HN2 := Lib.hid (HN.out _ HTL.out (by rw [if_neg hc1]; rfl))
              rw [if_neg hc1] at HN2
              have hc2 : ¬ c' = 0 := by omega
              go_wp2_with fail
              exact ⟨⟨_, HN2.out⟩, by rw [HG.out]; exact Nat.lt_of_le_of_lt (gmeas_le HN2.out) (by have := HM2.out; omega)⟩
end Go.Proofs.Ytflfachkoffiiaa
