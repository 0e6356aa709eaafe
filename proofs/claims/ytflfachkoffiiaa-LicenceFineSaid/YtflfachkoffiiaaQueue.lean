/- A slice of strings of the call's own that may start anywhere in its block. -/
import Derived.Test.YtflfachkoffiiaaDer
import Derived.Deep.Upon
namespace Go.Proofs.Ytflfachkoffiiaa
open Go.RowKit

/-- v is a slice of strings of the call's own that holds xs -/
def QAt (w : World) (base : Nat) (v : Value) (xs : List Value) : Prop :=
  (v = .slice none 0 0 ∧ xs = []) ∨ ∃ g off cap, v = .slice (some ⟨g, off, none⟩) xs.length cap ∧ base ≤ g ∧ g < w.heap.size ∧ xs.length ≤ cap ∧ cap ≤ maxLen ∧
    (∀ j, j < cap → (w.cell? ⟨g, off + j, none⟩).isSome = true ∧ w.frozen? ⟨g, off + j, none⟩ = false) ∧ (∀ j u, xs[j]? = some u → w.cell? ⟨g, off + j, none⟩ = some u)

section
variable {w w' : World} {base : Nat} {v : Value} {xs : List Value}
theorem QAt.nil (w : World) (base : Nat) : QAt w base (.slice none 0 0) [] := .inl ⟨rfl, rfl⟩
theorem QAt.lt (h : QAt w base v xs) {k : Nat} (hk : v.ownBlock = some k) : base ≤ k ∧ k < w.heap.size := by
  rcases h with ⟨rfl, _⟩ | ⟨g, off, cap, rfl, h1, h2, _⟩
  · cases hk
  · injection hk with hk; subst hk; exact ⟨h1, h2⟩
theorem QAt.kept {row : Option Nat} (h : QAt w base v xs) (hg : w.grownBy w' row) (hne : v.ownBlock = none ∨ v.ownBlock ≠ row) : QAt w' base v xs := by
  rcases h with h | ⟨g, off, cap, rfl, h1, h2, h3, h4, h5, h6⟩
  · exact .inl h
  · have hb : w'.heap[g]? = w.heap[g]? := hg.block g h2 (hne.elim (fun h => nomatch h) id)
    exact .inr ⟨g, off, cap, rfl, h1, Nat.lt_of_lt_of_le h2 hg.size, h3, h4,
      fun j hj => ⟨by rw [World.cell?_of_block (a := ⟨g, off + j, none⟩) hb]; exact (h5 j hj).1, by rw [World.frozen?_of_block (a := ⟨g, off + j, none⟩) hb]; exact (h5 j hj).2⟩,
      fun j u hu => by rw [World.cell?_of_block (a := ⟨g, off + j, none⟩) hb]; exact h6 j u hu⟩
theorem QAt.below {B : Nat} (h : QAt w base v xs) (hb : Below B w w') (hB : w.heap.size ≤ B) : QAt w' base v xs := by
  rcases h with h | ⟨g, off, cap, rfl, h1, h2, h3, h4, h5, h6⟩
  · exact .inl h
  · have hb' : w'.heap[g]? = w.heap[g]? := hb.block g (by omega)
    exact .inr ⟨g, off, cap, rfl, h1, Nat.lt_of_lt_of_le h2 hb.size, h3, h4,
      fun j hj => ⟨by rw [World.cell?_of_block (a := ⟨g, off + j, none⟩) hb']; exact (h5 j hj).1, by rw [World.frozen?_of_block (a := ⟨g, off + j, none⟩) hb']; exact (h5 j hj).2⟩,
      fun j u hu => by rw [World.cell?_of_block (a := ⟨g, off + j, none⟩) hb']; exact h6 j u hu⟩
theorem QAt.base_le {base' : Nat} (h : QAt w base v xs) (hb : base' ≤ base) : QAt w base' v xs := by
  rcases h with h | ⟨g, off, cap, rfl, h1, h⟩
  · exact .inl h
  · exact .inr ⟨g, off, cap, rfl, Nat.le_trans hb h1, h⟩
/-- .. as a list that reads -/
theorem QAt.rd (h : QAt w base v xs) : ∃ A c, v = .slice A xs.length c ∧ xs.length ≤ c ∧ Rd w w.heap.size 1 A xs.length xs := by
  rcases h with ⟨rfl, rfl⟩ | ⟨g, off, cap, rfl, h1, h2, h3, h4, h5, h6⟩
  · exact ⟨none, 0, rfl, Nat.le_refl _, Rd.nil⟩
  · exact ⟨_, cap, rfl, h3, by simp, fun _ => ⟨g, off, rfl, h2, h6⟩⟩
/-- 'v[1:]' -/
theorem QAt.tail {x : Value} {A : Option Addr} {n c : Nat} (h : QAt w base (.slice A n c) (x :: xs)) :
    ∃ g off, A = some ⟨g, off, none⟩ ∧ n = xs.length + 1 ∧ n ≤ c ∧ w.cell? ⟨g, off, none⟩ = some x ∧ QAt w base (.slice (if c = 1 then some ⟨g, off, none⟩ else some ⟨g, off + 1, none⟩) xs.length (c - 1)) xs := by
  rcases h with ⟨_, h⟩ | ⟨g, off, cap, hv, h1, h2, h3, h4, h5, h6⟩
  · cases h
  · injection hv with e1 e2 e3
    subst e1 e2 e3
    refine ⟨g, off, rfl, rfl, h3, h6 0 x rfl, ?_⟩
    rw [List.length_cons] at h3
    by_cases hc : c = 1
    · rw [if_pos hc]
      have hx : xs = [] := List.eq_nil_of_length_eq_zero (by omega)
      subst hx
      exact .inr ⟨g, off, c - 1, rfl, h1, h2, by simp, by omega, fun j hj => by omega, fun j u hu => by simp at hu⟩
    · rw [if_neg hc]
      exact .inr ⟨g, off + 1, c - 1, rfl, h1, h2, by omega, by omega, fun j hj => by rw [Nat.add_assoc]; exact h5 (1 + j) (by omega),
        fun j u hu => by rw [Nat.add_assoc, Nat.add_comm 1 j]; exact h6 (j + 1) u (by simpa using hu)⟩

theorem tape_setCells (g : Nat) : ∀ (vs : List Value) (o : Nat) (w : World), (w.setCells g o vs).tape = w.tape
  | [], _, _ => rfl
  | _ :: vs, o, _ => (tape_setCells g vs (o + 1) _).trans rfl
theorem run_append_q (w : World) (base : Nat) (v : Value) (xs : List Value) (h : QAt w base v xs) (hbase : base ≤ w.heap.size) (x : Value) (n : Nat) (news : List Value) (hs : Src Try.prog 1 34 x n news w) (hn : xs.length + n ≤ 1000000) :
    ∃ v' w', (Builtin.append_ #[34, 34] 34 #[v, x]).run Try.prog w = .ok v' w' ∧ QAt w' base v' (xs ++ news) ∧ w.grownBy w' v.ownBlock ∧ (v'.ownBlock = v.ownBlock ∨ v'.ownBlock = some w.heap.size) := by
  obtain ⟨i0, hi, hz0, hz1, hz2⟩ := info_parts info9
  have hnl : news.length = n := by have := hs.newsLen; omega
  have hlen : (xs ++ news).length = xs.length + n := by rw [List.length_append, hnl]
  have hs' : Src Try.prog i0.size 34 x n news w := by rw [hz1]; exact hs
  have grow : ∀ (A : Option Addr) (c : Nat), v = .slice A xs.length c → c < xs.length + n → (Builtin.firstCells 1 xs.length (.slice A xs.length c)).run Try.prog w.drew = .ok xs.toArray w.drew →
      ∃ v' w', (Builtin.append_ #[34, 34] 34 #[v, x]).run Try.prog w = .ok v' w' ∧ QAt w' base v' (xs ++ news) ∧ w.grownBy w' v.ownBlock ∧ (v'.ownBlock = v.ownBlock ∨ v'.ownBlock = some w.heap.size) := by
    rintro A c rfl hc hold
    have hrun := run_append_grow_src (P := Try.prog) w 34 34 34 9 i0 _ Try.underlying34 hi hz0 A xs.length c xs (by rw [hz1]; exact hold) x n news hs' hc (by omega) (growslice_fits (by omega) (by rw [hz2]; omega))
    have hge := grownCap_ge w (xs.length + n) c 9
    have hcm := grownCap_le_maxLen w (xs.length + n) c 9 (by unfold maxLen; omega)
    refine ⟨_, _, hrun, .inr ⟨w.heap.size, 0, _, by rw [hlen], hbase, by simp, by rw [hlen]; exact hge, hcm, fun j hj => ?_, fun j u hu => ?_⟩, ⟨rfl, rfl, rfl, by simp, fun k hk _ => heap_alloc_old w.drew _ hk⟩, .inr rfl⟩
    · rw [Nat.zero_add]
      have e1 : (w.drew.alloc (.cells ((xs ++ news).toArray ++ Builtin.zeroCells (Value.string ⟨#[]⟩).cells (grownCap w (xs.length + n) c 9 - (xs.length + n))) 9)).cell? ⟨w.heap.size, j, none⟩ = _ := World.cell?_alloc_new w.drew _ _ j
      refine ⟨?_, World.frozen?_alloc_new w.drew _ _ j⟩
      rw [e1, Array.getElem?_eq_getElem (by
        rw [Array.size_append, List.size_toArray, hlen, size_zeroCells]
        show j < xs.length + n + (grownCap w (xs.length + n) c 9 - (xs.length + n)) * 1
        omega)]
      rfl
    · rw [Nat.zero_add]
      have e1 : (w.drew.alloc (.cells ((xs ++ news).toArray ++ Builtin.zeroCells (Value.string ⟨#[]⟩).cells (grownCap w (xs.length + n) c 9 - (xs.length + n))) 9)).cell? ⟨w.heap.size, j, none⟩ = _ := World.cell?_alloc_new w.drew _ _ j
      have hj : j < (xs ++ news).length := (List.getElem?_eq_some_iff.1 hu).1
      rw [e1, Array.getElem?_append_left (by rw [List.size_toArray]; exact hj), List.getElem?_toArray]
      exact hu
  rcases h with ⟨rfl, rfl⟩ | ⟨g, off, cap, rfl, h1, h2, h3, h4, h5, h6⟩
  · by_cases h0 : n = 0
    · subst h0
      obtain rfl : news = [] := List.eq_nil_of_length_eq_zero hnl
      exact ⟨_, _, run_append_nothing (P := Try.prog) w 34 34 34 9 i0 Try.underlying34 hi none 0 0 (Nat.le_refl _) x hs', QAt.nil _ _, ⟨rfl, rfl, rfl, Nat.le_refl _, fun _ _ _ => rfl⟩, .inl rfl⟩
    · exact grow none 0 rfl (by omega) (by rfl)
  · by_cases hroom : xs.length + n ≤ cap
    · have hsome : ∀ j, j < news.length → (w.cell? ⟨g, off + xs.length * i0.size + j, none⟩).isSome = true := fun j hj => by
        rw [hz1, Nat.mul_one, Nat.add_assoc]; exact (h5 (xs.length + j) (by omega)).1
      have hfr : ∀ j, j < news.length → w.frozen? ⟨g, off + xs.length * i0.size + j, none⟩ = false := fun j hj => by
        rw [hz1, Nat.mul_one, Nat.add_assoc]; exact (h5 (xs.length + j) (by omega)).2
      have hrun := run_append_room_src (P := Try.prog) w 34 34 34 9 i0 Try.underlying34 hi g off xs.length cap x n news hs' hroom hsome hfr
      rw [hz1, Nat.mul_one] at hrun hsome
      have hkb := World.keptBut_setCells g (may := fun p => p.block = g) news (off + xs.length) w (fun _ _ => rfl)
      have hin : ∀ j (hj : j < news.length), (w.setCells g (off + xs.length) news).cell? ⟨g, off + xs.length + j, none⟩ = some (news[j]'hj) := fun j hj => World.cell?_setCells_in g news (off + xs.length) w hsome j hj
      have hout : ∀ j, j < xs.length ∨ xs.length + n ≤ j → (w.setCells g (off + xs.length) news).cell? ⟨g, off + j, none⟩ = w.cell? ⟨g, off + j, none⟩ := fun j hj =>
        World.cell?_setCells_out g news (off + xs.length) w ⟨g, off + j, none⟩ (fun _ _ => by show off + j < off + xs.length ∨ off + xs.length + news.length ≤ off + j; omega)
      refine ⟨_, _, hrun, .inr ⟨g, off, cap, by rw [hlen], h1, Nat.lt_of_lt_of_le h2 hkb.size, by rw [hlen]; exact hroom, h4, fun j hj => ⟨?_, by rw [World.frozen?_setCells]; exact (h5 j hj).2⟩, fun j u hu => ?_⟩,
        ⟨World.os_setCells _ _ _ _, ?_, World.output_setCells _ _ _ _, hkb.size, fun k hk hne => World.heap_setCells_other w g _ news hk (fun e => hne (by rw [e]; rfl))⟩, .inl rfl⟩
      · by_cases hj2 : j < xs.length ∨ xs.length + n ≤ j
        · rw [hout j hj2]; exact (h5 j hj).1
        · have := hin (j - xs.length) (by omega)
          rw [show off + xs.length + (j - xs.length) = off + j by omega] at this
          rw [this]; rfl
      · have hj : j < xs.length + n := by rw [← hlen]; exact (List.getElem?_eq_some_iff.1 hu).1
        by_cases hj2 : j < xs.length
        · rw [hout j (.inl hj2)]
          exact h6 j u (by rwa [List.getElem?_append_left hj2] at hu)
        · have := hin (j - xs.length) (by omega)
          rw [show off + xs.length + (j - xs.length) = off + j by omega] at this
          rw [this]
          rw [List.getElem?_append_right (by omega), List.getElem?_eq_getElem (by omega)] at hu
          exact hu
      · exact tape_setCells _ _ _ _
    · exact grow (some ⟨g, off, none⟩) cap rfl (by omega) (by
        exact run_firstCells_some w.drew 1 xs.length ⟨g, off, none⟩ xs.length cap xs (by omega) (fun j u hu => by rw [Addr.add_lit]; exact h6 j u hu))
end

theorem wpList_append_q (w : World) {ops : Array Oper} {rest : List Oper} {o : Oper} {a : Act} {Q : Exit → Act → World → Prop} (hgd : o.guard = none) (s x : Operand)
    (ho : o.op = .call { callee := .builtin .append, args := #[s, x], argTypes := #[34, 34] }) (hty : o.type = 34)
    (base : Nat) (v : Value) (xs : List Value) (hs : a.eval s = v) (hq : QAt w base v xs) (hbase : base ≤ w.heap.size)
    (xv : Value) (n : Nat) (news : List Value) (hx : a.eval x = xv) (hsrc : Src Try.prog 1 34 xv n news w) (hn : xs.length + n ≤ 1000000)
    (h : ∀ v' w', QAt w' base v' (xs ++ news) → w.grownBy w' v.ownBlock → (v'.ownBlock = v.ownBlock ∨ v'.ownBlock = some w.heap.size) → wpList Try.prog ops Q rest (a.put o.dst v') w') : wpList Try.prog ops Q (o :: rest) a w := by
  refine wpList_plain hgd fun K hK => ?_
  obtain ⟨v', w', hr, h2, h3, h4⟩ := run_append_q w base v xs hq hbase xv n news hsrc hn
  unfold Oper.wp execOp
  simp only [ho, hty, resolve, invoke, builtin, Sem.run_bind, Sem.run_pure, Result.andThen_ok, List.map_toArray, List.map_cons, List.map_nil, hs, hx, hr]
  exact hK _ _ (h v' w' h2 h3 h4)
/-- one string, in a block of its own -/
theorem src_one (w : World) (s : Bs) (e : TypeId) : Src Try.prog 1 34 (.slice (some ⟨w.heap.size, 0, none⟩) 1 1) 1 [str s] (w.alloc (.cells #[str s] e)) :=
  Src.ofSlice _ Try.underlying34 _ 1 1 [str s] rfl (cells_one _ _ _) (by intro u hu; simp at hu; subst hu; rfl)
/-- strings that read -/
theorem src_rd {w : World} {B n c : Nat} {A : Option Addr} {ss : List Bs} (h : Rd w B 1 A n (strCells ss)) : Src Try.prog 1 34 (.slice A n c) n (strCells ss) w := by
  have hl := h.1
  cases A with
  | none =>
    have h0 : n = 0 := by
      rcases Nat.eq_zero_or_pos n with h0 | h0
      · exact h0
      · obtain ⟨_, _, e, _⟩ := h.2 h0; cases e
    subst h0
    have : strCells ss = [] := List.eq_nil_of_length_eq_zero (by omega)
    rw [this]
    exact Src.ofNil _ Try.underlying34 c
  | some a =>
    refine Src.ofSlice _ Try.underlying34 a n c (strCells ss) (by omega) (fun j u hu => ?_) (fun u hu => ?_)
    · have hj := (List.getElem?_eq_some_iff.1 hu).1
      obtain ⟨b, off, e, _, hcell⟩ := h.2 (by omega)
      injection e with e
      subst e
      have := hcell j u hu
      rwa [Addr.add_lit]
    · obtain ⟨s, _, rfl⟩ := List.mem_map.1 hu; rfl
end Go.Proofs.Ytflfachkoffiiaa
