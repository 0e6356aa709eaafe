/- Append: every case. -/
import Derived.Test.YtddpjahoeldleaaDoorJAppend
namespace Go.Proofs.YtddpjahoeldleaaDoor
open Go.RowKit Go.Maps
theorem app_any (w : World) (j g : Nat) (vn vb vt : Value) (J : JV) (gb gp gw K : Nat) (S : Dk.St) (hJ : JAt w j g vn vb vt J) (hd : Dk.DiskAt w g gb gp gw K S) (hP : Dk.PendOK S) (hk : Consts w) (hK : K + 200 ≤ 100000) (s : ByteArray) (hx1 : 1 ≤ J.next) (f0 : 0 ≤ J.fin) (f1 : J.fin ≤ 4096) (hn : J.nums.length ≤ 90000) (ht : J.texts.length ≤ 90000) :
    Calls Tryd.prog 16 #[.pointer (some ⟨j, 0, none⟩), .string s] w (ApPost (appR J S s.data.toList) w j g gb gp gw (K + 200) vn vb vt) := by
  cases hc : J.closed with
  | true => exact app_closed w j g vn vb vt J gb gp gw K S hJ hd s hc
  | false =>
    by_cases hl : 8000 < s.size ∨ 4096 < J.next
    · exact app_limit w j g vn vb vt J gb gp gw K S hJ hd s hc hl
    · by_cases hf : (S.bl.length : Int) - J.fin < (countN s.size : Int)
      · exact app_full w j g vn vb vt J gb gp gw K S hJ hd s hc (by omega) (by omega) f0 f1 hf
      · exact app_main w j g vn vb vt J gb gp gw K S hJ hd hP hk hK s hc (by omega) hx1 (by omega) f0 f1 hf hn ht
end Go.Proofs.YtddpjahoeldleaaDoor
