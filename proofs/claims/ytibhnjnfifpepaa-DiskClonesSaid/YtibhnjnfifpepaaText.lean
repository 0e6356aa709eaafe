/- Text: the sector that an operation writes. -/
import Derived.Test.YtibhnjnfifpepaaNew
import Derived.Lib.IndexBytes
namespace Go.Proofs.Ytibhnjnfifpepaa
open Go.RowKit Go.Maps

def lastB (t : Bs) : UInt8 := t.getD (t.length - 1) 0
def padJ (t : Bs) (j : Nat) : Bs := t ++ List.replicate j (lastB t)
/-- a sector that begins with t and goes on with its last byte -/
def padB (t : Bs) : Bs := if t.length = 0 then t else padJ t (64 - t.length)
theorem padJ_last (t : Bs) (h : 0 < t.length) (j : Nat) : (padJ t j).drop (t.length + j - 1) = [lastB t] := by
  rcases Nat.eq_zero_or_pos j with rfl | hj
  · rw [padJ, List.replicate_zero, List.append_nil, Nat.add_zero, List.drop_eq_getElem_cons (by omega), List.drop_eq_nil_of_le (by omega)]
    rw [lastB, List.getD_eq_getElem?_getD, List.getElem?_eq_getElem (by omega)]; rfl
  · rw [padJ, List.drop_append, List.drop_eq_nil_of_le (by omega), List.nil_append, List.drop_replicate, show j - (t.length + j - 1 - t.length) = 1 by omega]; rfl
theorem padJ_step (t : Bs) (h : 0 < t.length) (j : Nat) : padJ t j ++ (padJ t j).drop (t.length + j - 1) = padJ t (j + 1) := by
  rw [padJ_last t h, padJ, padJ, List.append_assoc, List.replicate_succ']

theorem str_of {s : ByteArray} {b : Bs} (h : s.data.toList = b) : Value.string s = str b := by
  subst h
  cases s
  simp [str]

set_option maxHeartbeats 1000000 in
theorem text_any (w : World) (k i bit : Int) (t : ByteArray) (v : Value) (ht : t.size ≤ 9223372036854775807) :
    Calls Try.prog 21 #[.agg #[.int .i64 k, .int .i64 i, .int .i64 bit, .string t, v]] w (RetB (str (padB t.data.toList)) w) := by
  obtain ⟨l, hl⟩ : ∃ l, l = t.data.toList := ⟨_, rfl⟩
  have hn : t.size = l.length := by rw [hl]; simp
  have HT := Lib.hid hl
  rw [← hl]
  clear hl
  go_enter Try.func21, Try.ntmps21
  go_wp2_with fail
  go_loopw [3] (fun x wr => ∃ (j : Nat) (s : ByteArray), x = .string s ∧ Hid (s.data.toList = padJ l j) ∧ s.size = l.length + j ∧ (j = 0 ∨ (0 < l.length ∧ l.length + j ≤ 64)) ∧ Below w.heap.size w wr) (fun x _ => 64 - (match x with | .string s => s.size | _ => 0))
  case atStart => exact ⟨0, t, rfl, Lib.hid (by rw [← HT.out]; simp [padJ]), by omega, .inl rfl, below_new _ _⟩
  case round =>
    obtain ⟨j, s, rfl, hs, hz, hj, hb⟩ := hrel
    have HJ := Lib.hid hj
    have HB := Lib.hid hb
    have HN := Lib.hid hn
    have HZ := Lib.hid hz
    clear hj hb hn
    go_wp2_with fail
    · rename_i h1 h2
      have hn := HN.out
      have hz := HZ.out
      have sz : (s ++ s.extract (l.length + j - 1) (l.length + j)).size = l.length + (j + 1) := by
        rw [ByteArray.size_append, ByteArray.size_extract]; omega
      refine ⟨⟨j + 1, _, rfl, Lib.hid ?_, sz, .inr ⟨by rcases HJ.out with h | h <;> omega, by omega⟩, HB.out⟩, ?_⟩
      · rw [← padJ_step l (by rcases HJ.out with h | h <;> omega) j, ByteArray.data_append, Array.toList_append, ← hz, Lib.extract_to_end, hs.out]
      · show 64 - (s ++ s.extract (l.length + j - 1) (l.length + j)).size < 64 - s.size
        rw [sz, hz]; omega
    · rename_i h1 h2
      have hn := HN.out
      have hz := HZ.out
      go_ret
      refine ⟨congrArg Ending.returned (str_of ?_), HB.out⟩
      rw [hs.out, padB, if_neg (by rcases HJ.out with h | h <;> omega), show 64 - l.length = j by rcases HJ.out with h | h <;> omega]
    · rename_i h1
      have hn := HN.out
      have hz := HZ.out
      go_ret
      refine ⟨congrArg Ending.returned (str_of ?_), HB.out⟩
      rw [hs.out, padB, if_pos (by omega), show j = 0 by omega, padJ, List.replicate_zero, List.append_nil]
end Go.Proofs.Ytibhnjnfifpepaa
