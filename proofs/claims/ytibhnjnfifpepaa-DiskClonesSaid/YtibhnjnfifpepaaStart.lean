/- start: the disks of the program and of the reference. -/
import Derived.Test.YtibhnjnfifpepaaRefMem
namespace Go.Proofs.Ytibhnjnfifpepaa
open Go.RowKit Go.Maps

def StartPost (n : Nat) (w : World) (e : Ending) (w' : World) : Prop :=
  ∃ g gb gp gw r gs cap ext, e = .returned (.tuple #[.pointer (some ⟨g, 0, none⟩), .pointer (some ⟨r, 0, none⟩), .bool true]) ∧ DiskAt w' g gb gp gw 0 (newS n) ∧ RefAt w' r gs (newR n cap ext) ∧ Below w.heap.size w w' ∧
    (w.heap.size ≤ g ∧ w.heap.size ≤ gb ∧ w.heap.size ≤ gp ∧ w.heap.size ≤ gw) ∧ (g < r ∧ gb < r ∧ gp < r ∧ gw < r) ∧ (g < gs ∧ gb < gs ∧ gp < gs ∧ gw < gs)

theorem start_bad (w : World) (i : Int) (h1 : -9223372036854775808 ≤ i) (h2 : i ≤ 9223372036854775807) (h : i < 1 ∨ 64 < i) : Calls Try.prog 19 #[.int .i64 i] w (Ret (.tuple #[.pointer none, .pointer none, .bool false]) w) := by
  rcases h with h | h
  · go_enter Try.func19, Try.ntmps19
    go_wp2_with fail
    go_ret3
    exact Ret.mk
  · go_enter Try.func19, Try.ntmps19
    go_wp2_with fail
    go_ret3
    exact Ret.mk

set_option maxHeartbeats 2000000 in
set_option maxRecDepth 100000 in
theorem start_any (w : World) (n : Nat) (h1 : 1 ≤ n) (h2 : n ≤ 64) : Calls Try.prog 19 #[.int .i64 (n : Int)] w (StartPost n w) := by
  go_enter Try.func19, Try.ntmps19
  go_wp2_with fail
  refine (new_any w n h1 (by omega)).mono ?_
  rintro e w1 ⟨g, gb, gp, gw, rfl, hD, hb, q1, q2, q3, q4⟩
  have HD := Lib.hid hD
  have HB := Lib.hid hb
  have HQ := Lib.hid (And.intro q1 (And.intro q2 (And.intro q3 q4)))
  clear hD hb q1 q2 q3 q4
  go_wp2_with fail
  refine (newR_any w1 n h1 (by omega)).mono ?_
  rintro e w2 ⟨r, gs, cap, ext, rfl, hR, hb2, q5, q6⟩
  have HR := Lib.hid hR
  have HB2 := Lib.hid hb2
  have HQ2 := Lib.hid (And.intro q5 q6)
  clear hR hb2 q5 q6
  go_wp2_with fail
  go_ret3
  have hl := HD.out.lt
  have hq := HQ.out
  have hq2 := HQ2.out
  exact ⟨g, gb, gp, gw, r, gs, cap, ext, rfl, HD.out.below HB2.out, HR.out, HB.out.trans (HB2.out.mono HB.out.size), hq, ⟨by omega, by omega, by omega, by omega⟩, ⟨by omega, by omega, by omega, by omega⟩⟩
end Go.Proofs.Ytibhnjnfifpepaa
