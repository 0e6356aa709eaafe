/- Read and Image. -/
import Derived.Test.YtddpjahoeldleaaGreatDoorDKeys
import Derived.Deep.WholeRow
import Derived.Lib.ConvBytes
import Derived.Lib.SlBytesRow
namespace Go.Proofs.YtddpjahoeldleaaGreatDoor.Dk
open Go.RowKit Go.Maps

def zeroBs : Bs := List.replicate 64 0
theorem info70 : (Tryz.prog.info? 99).map (fun i => (i.zero, i.size)) = some (some (encB zeroBs), 64) := by kernel_rfl
theorem law3 : Keyed Tryz.prog 3 := int_keyed Tryz.underlying3
def kI (i : Int) : Lit := .int .i64 i
theorem key_i {i : Int} (h1 : -9223372036854775808 ≤ i) (h2 : i ≤ 9223372036854775807) : keyOf Tryz.prog 3 (.int .i64 i) = some (kI i) := keyOf_int_mk Tryz.underlying3 (WalkArith.wf_i64 (by omega))
/-- what the map of pending blocks gives -/
def pendB (D : Dt) (i : Int) : Bs := match D.atKey (kI i) (.lit (.string zeroBs)) with
  | .lit (.string b) => b
  | _ => zeroBs
theorem look_pend {w : World} {gp K : Nat} {D : Dt} (h : w.ownsMap Tryz.prog 3 blockR gp K D) {i : Int} (h1 : -9223372036854775808 ≤ i) (h2 : i ≤ 9223372036854775807) :
    (pendB D i).length = 64 ∧ (Instr.lookup 90 (.map (some gp)) (.int .i64 i) true).run Tryz.prog w = .ok (.tuple #[encB (pendB D i), .bool (Maps.has D (kI i))]) w ∧ (Instr.lookup 90 (.map (some gp)) (.int .i64 i) false).run Tryz.prog w = .ok (encB (pendB D i)) w := by
  obtain ⟨hz, _⟩ := zero_of_info info70
  obtain ⟨v, ps, hr, hv⟩ := h.look_ok law3 Tryz.underlying90 (hz w) (blockR_enc (b := zeroBs) rfl) (key_i h1 h2)
  obtain ⟨v', ps', hr', hv'⟩ := h.lookup law3 Tryz.underlying90 (hz w) (blockR_enc (b := zeroBs) rfl) (key_i h1 h2)
  obtain ⟨b, hb, rfl, hd, _⟩ := blockR_inv hv
  obtain ⟨b', hb', rfl, hd', _⟩ := blockR_inv hv'
  have e : pendB D i = b := by unfold pendB; rw [hd]
  have e' : pendB D i = b' := by unfold pendB; rw [hd']
  exact ⟨by rw [e]; exact hb, by rw [e]; exact hr, by rw [e']; exact hr'⟩
/-- the bytes of 64 cells as a string -/
theorem conv_bytes (W : World) (g o : Nat) (b : Bs) (hb : b.length = 64) (hc : ∀ k, k < 64 → W.cell? ⟨g, o + k, none⟩ = some (.int .u8 ((b.getD k 0).toNat : Int))) (C : Nat) :
    (convert 84 9 (.slice (some ⟨g, o, none⟩) 64 C)).run Tryz.prog W = .ok (.string ⟨b.toArray⟩) W := by
  have hs : (⟨b.toArray⟩ : ByteArray).size = 64 := by simp [ByteArray.size, hb]
  have := Lib.run_convert_whole W 84 5 9 Tryz.underlying84 Tryz.underlying5 Tryz.underlying9 g o ⟨b.toArray⟩ (fun i hi => by
    have hi' : i < 64 := by rw [← hs]; exact hi
    rw [hc i hi']
    simp only [List.getD_eq_getElem?_getD]
    rw [List.getElem?_eq_getElem (by omega)]
    rfl) C
  rwa [hs] at this
theorem new_cells (w : World) (b : Bs) (hb : b.length = 64) (k : Nat) (hk : k < 64) : (w.alloc (.cells (cellsOfB b).toArray 99)).cell? ⟨w.heap.size, 0 + k, none⟩ = some (.int .u8 ((b.getD k 0).toNat : Int)) := by
  rw [Nat.zero_add, World.cell?_alloc_at _ _ _ _ rfl]
  simp [cellsOfB, hb, hk]
theorem one_cells (b : Bs) : (cellsOfB b).toArray.all (·.oneCell') = true := by
  simp [cellsOfB, Value.oneCell']
theorem size_cells (b : Bs) (hb : b.length = 64) : (cellsOfB b).toArray.size = 64 := by simp [cellsOfB, hb]

def StrErr (b : Bs) (e : Int) : Value := .tuple #[.string ⟨b.toArray⟩, .int .i64 e]
def readB (S : St) (i : Int) : Bs := if checkE S i ≠ 0 then [] else if Maps.has S.pend (kI i) = true then pendB S.pend i else S.bl.getD i.toNat []
theorem RetB.tup {a b : Bs} {e : Int} {w w' : World} (h : a = b) (hb : Below w.heap.size w w') : RetB (StrErr b e) w (.returned (.tuple #[.string ⟨a.toArray⟩, .int .i64 e])) w' := by rw [h]; exact ⟨rfl, hb⟩

set_option maxHeartbeats 2000000 in
set_option maxRecDepth 100000 in
theorem read_any (w : World) (g gb gp gw K : Nat) (S : St) (h : DiskAt w g gb gp gw K S) (i : Int) (h1 : -9223372036854775808 ≤ i) (h2 : i ≤ 9223372036854775807) :
    Calls Tryz.prog 44 #[.pointer (some ⟨g, 0, none⟩), .int .i64 i] w (RetB (StrErr (readB S i) (checkE S i)) w) := by
  by_cases hc : checkE S i = 0
  · have hi : 0 ≤ i ∧ i < S.bl.length := by
      unfold checkE at hc
      split at hc
      · cases hc
      · split at hc
        · assumption
        · cases hc
    obtain ⟨b64, hl, _⟩ := look_pend h.pend h1 h2
    obtain ⟨c0, c1, c2, c3, c4⟩ := h.cells
    have HC := Lib.hid hc
    have H := Lib.hid h
    cases hh : Maps.has S.pend (kI i)
    · rw [hh] at hl
      obtain ⟨n, rfl⟩ := Int.eq_ofNat_of_zero_le hi.1
      have hn : n < S.bl.length := by omega
      have hn2 := h.n2
      have HB : Hid (S.bl.getD n [] = readB S n) := Lib.hid (by rw [readB, if_neg (by simp [hc]), if_neg (by rw [hh]; simp)]; rfl)
      have hbb : (S.bl.getD n []).length = 64 := by
        rw [List.getD_eq_getElem?_getD, List.getElem?_eq_getElem hn, Option.getD_some]
        exact h.b64 _ (List.getElem_mem hn)
      have hby := fun k hk => h.byte hn (k := k) hk
      generalize S.bl.getD n [] = bb at *
      generalize pendB S.pend (n : Int) = b at *
      obtain ⟨C, hC⟩ : ∃ C, C = (cellsOfB b).toArray := ⟨_, rfl⟩
      obtain ⟨Z, hZ⟩ : ∃ Z, Z = (cellsOfB zeroBs).toArray := ⟨_, rfl⟩
      have sC : C.size = 64 := by rw [hC]; exact size_cells b b64
      have sZ : Z.size = 64 := by rw [hZ]; rfl
      have hcv := conv_bytes (w.alloc (.cells C 99)) gb (n * 64) bb hbb (fun k hk => by
        rw [World.cell?_alloc_lt w _ ⟨gb, n * 64 + k, none⟩ h.lt.2.1]
        exact hby k hk) 64
      obtain ⟨hz, hsz⟩ := zero_of_info info70
      have hst := run_storeCells_new (P := Tryz.prog) w 99 Z C (by rw [sC]; exact hsz) (by rw [sC, sZ]) (by rw [hC]; exact one_cells b)
      rw [show encB b = .agg C from by rw [hC]; rfl] at hl
      rw [show encB zeroBs = .agg Z from by rw [hZ]; rfl] at hz
      obtain ⟨N, hN⟩ : ∃ N, N = S.bl.length := ⟨_, rfl⟩
      rw [← hN] at c0 hn hn2
      have c0' : (w.alloc (.cells C 99)).cell? ⟨g, 0, none⟩ = some (.slice (some ⟨gb, 0, none⟩) N S.cap) := (World.cell?_alloc_lt w _ ⟨g, 0, none⟩ h.lt.1).trans c0
      have hi1 : (n : Int) < (N : Int) := by omega
      have hi0 : (0 : Int) ≤ (n : Int) := by omega
      clear hh hc h hC hZ hsz hby hN hi h1
      go_enter Tryz.func44, Tryz.ntmps44
      go_wp2_with fail
      refine (check_any w g gb gp gw K S H.out n 0 HC).mono ?_
      rintro e w' ⟨rfl, rfl⟩
      go_wp2_with fail
      go_ret2
      rw [HC.out]
      exact RetB.tup HB.out (below_new w _)
    · rw [hh] at hl
      have HB : Hid (pendB S.pend i = readB S i) := Lib.hid (by rw [readB, if_neg (by simp [hc]), if_pos hh])
      generalize pendB S.pend i = b at *
      obtain ⟨C, hC⟩ : ∃ C, C = (cellsOfB b).toArray := ⟨_, rfl⟩
      obtain ⟨Z, hZ⟩ : ∃ Z, Z = (cellsOfB zeroBs).toArray := ⟨_, rfl⟩
      have sC : C.size = 64 := by rw [hC]; exact size_cells b b64
      have sZ : Z.size = 64 := by rw [hZ]; rfl
      have hcv := conv_bytes (w.alloc (.cells (cellsOfB b).toArray 99)) w.heap.size 0 b b64 (new_cells w b b64) 64
      obtain ⟨hz, hsz⟩ := zero_of_info info70
      have hst := run_storeCells_new (P := Tryz.prog) w 99 Z C (by rw [sC]; exact hsz) (by rw [sC, sZ]) (by rw [hC]; exact one_cells b)
      rw [show encB b = .agg C from by rw [hC]; rfl] at hl
      rw [show encB zeroBs = .agg Z from by rw [hZ]; rfl] at hz
      rw [← hC] at hcv
      clear hh hc h hC hZ hsz
      go_enter Tryz.func44, Tryz.ntmps44
      go_wp2_with fail
      refine (check_any w g gb gp gw K S H.out i 0 HC).mono ?_
      rintro e w' ⟨rfl, rfl⟩
      go_wp2_with fail
      go_ret2
      rw [HC.out]
      exact RetB.tup HB.out (below_new w _)
  · have HE := Lib.hid (show [] = readB S i by rw [readB, if_pos hc])
    have H := Lib.hid h
    clear h
    obtain ⟨E, hE⟩ : ∃ E, E = checkE S i := ⟨_, rfl⟩
    rw [← hE] at hc ⊢
    have HE2 := Lib.hid hE
    have hb : (E == 0) = false := beq_eq_false_iff_ne.2 hc
    clear hE
    go_enter Tryz.func44, Tryz.ntmps44
    go_wp2_with fail
    refine (check_any w g gb gp gw K S H.out i E (Lib.hid HE2.out.symm)).mono ?_
    rintro e w' ⟨rfl, rfl⟩
    go_wp2_with fail
    go_ret2
    exact RetB.tup HE.out (Below.refl _ _)
end Go.Proofs.YtddpjahoeldleaaGreatDoor.Dk
