/- Unpack: what a good sector says, as five results. -/
import Derived.Test.YtddpjahoeldleaaDoorUnpack
namespace Go.Proofs.YtddpjahoeldleaaDoor
open Go.RowKit

theorem results_tmp5 {fn : Func} {a b c d e : Tmp} (h : fn.results = #[.tmp a, .tmp b, .tmp c, .tmp d, .tmp e]) (tmps : Array Value) (P : Program) (w : World) :
    (results fn tmps).run P w = .ok (.tuple #[tmps.getD a undef, tmps.getD b undef, tmps.getD c undef, tmps.getD d undef, tmps.getD e undef]) w := by
  simp [results, h]

set_option maxHeartbeats 1000000 in
theorem unpack5_any (s : ByteArray) (w : World) (hk : Consts w) :
    Calls Tryd.prog 8 #[.string s] w (RetB (.tuple #[.int .i64 ((unpackB s.data.toList).number : Int), .int .i64 ((unpackB s.data.toList).part : Int), .int .i64 ((unpackB s.data.toList).left : Int), str (unpackB s.data.toList).payload, .bool (unpackB s.data.toList).ok]) w) := by
  obtain ⟨hz, hsz⟩ := zero_of_info infoJpart
  have HC := Lib.hid (unpack_any s w hk)
  obtain ⟨p, hp⟩ : ∃ p, p = unpackB s.data.toList := ⟨_, rfl⟩
  rw [← hp] at HC ⊢
  obtain ⟨y, hy⟩ : ∃ y : ByteArray, y = ⟨p.payload.toArray⟩ := ⟨_, rfl⟩
  rw [partRow, show str p.payload = .string y by rw [hy]] at HC
  rw [show str p.payload = .string y by rw [hy]]
  obtain ⟨n, hn⟩ : ∃ n, n = p.number := ⟨_, rfl⟩
  obtain ⟨k, hk'⟩ : ∃ n, n = p.part := ⟨_, rfl⟩
  obtain ⟨l, hl⟩ : ∃ n, n = p.left := ⟨_, rfl⟩
  obtain ⟨b, hb⟩ : ∃ n, n = p.ok := ⟨_, rfl⟩
  rw [← hn, ← hk', ← hl, ← hb] at HC ⊢
  clear hk hp hy hn hk' hl hb
  go_enter Tryd.func8, Tryd.ntmps8
  go_wp2_with fail
  refine HC.out.mono ?_
  rintro e w2 ⟨rfl, b2⟩
  have HB2 := Lib.hid b2
  clear b2
  go_wp2_with fail
  have q0 := (Blk.new w2 65 #[.int .i64 n, .int .i64 k, .int .i64 l, .string y, .bool b]).cell 0
  have q1 := (Blk.new w2 65 #[.int .i64 n, .int .i64 k, .int .i64 l, .string y, .bool b]).cell 1
  have q2 := (Blk.new w2 65 #[.int .i64 n, .int .i64 k, .int .i64 l, .string y, .bool b]).cell 2
  have q3 := (Blk.new w2 65 #[.int .i64 n, .int .i64 k, .int .i64 l, .string y, .bool b]).cell 3
  have q4 := (Blk.new w2 65 #[.int .i64 n, .int .i64 k, .int .i64 l, .string y, .bool b]).cell 4
  simp only [List.getElem?_toArray, List.getElem?_cons_zero, List.getElem?_cons_succ] at q0 q1 q2 q3 q4
  go_quiet (fail)
  go_wp2_with fail
  (try simp only [Exit.inBlock, Exit.then])
  refine bodyPost_ret (results_tmp5 rfl _ _ _) rfl ?_
  exact ⟨rfl, below_drewN (below_alloc' HB2.out _) _⟩
end Go.Proofs.YtddpjahoeldleaaDoor
