/-
  sennitlaw16.AgesRun, walked.
-/
import Derived.Test.YtlfpchkoeipcdaaAgsB
import Derived.IntWalk
namespace Go.Proofs.Ytlfpchkoeipcdaa
open Go.RowKit
set_option linter.unusedVariables false
set_option linter.unusedSimpArgs false

/-- the ages of a run: so many that are told, each later one so much behind the one 2n ahead of it -/
structure RunL (n : Nat) (A : List Int) : Prop where
  rng : ∀ a ∈ A, 0 ≤ a ∧ a ≤ 549755814887
  lo : ∀ (i : Nat) (a : Int), A[i]? = some a → a ≤ 549755813887 + 2 * n + i
  turn : ∀ (i : Nat) (a : Int), A[i]? = some a → ∀ b, A[i + 2 * n]? = some b → b = a + 2 * n
theorem RunL.nil (n : Nat) : RunL n [] := ⟨by simp, by simp, by simp⟩
theorem ownF_run {n : Nat} (h16 : n ≤ 16) {c : Int} (h0 : 0 ≤ c) (h1 : c ≤ 549755814887) (cold : Int) : ownF n c cold = c + 2 * n := by
  unfold ownF
  have e : okI c = true := by simp [okI]; omega
  rw [e]
  simp only [if_true]
  rw [if_pos (by simp [okI]; omega)]
theorem RunL.push {n : Nat} {A : List Int} (h : RunL n A) {b : Int} (hb0 : 0 ≤ b) (hb : b ≤ 549755813887 + 2 * n + A.length) (hb2 : b ≤ 549755814887) (ht : ∀ a, 2 * n ≤ A.length → A[A.length - 2 * n]? = some a → b = a + 2 * n) : RunL n (A ++ [b]) := by
  have hl : (A ++ [b])[A.length]? = some b := by simp
  refine ⟨fun x hx => ?_, fun i x hi => ?_, fun i x hi y hy => ?_⟩
  · rcases List.mem_append.1 hx with hx | hx
    · exact h.rng x hx
    · simp at hx; subst hx; exact ⟨hb0, hb2⟩
  · by_cases hlt : i < A.length
    · rw [List.getElem?_append_left hlt] at hi
      exact h.lo i x hi
    · have : i = A.length := by have := (List.getElem?_eq_some_iff.1 hi).1; simp at this; omega
      subst this
      rw [hl] at hi; cases hi
      exact hb
  · by_cases hlt : i + 2 * n < A.length
    · rw [List.getElem?_append_left (by omega)] at hi
      rw [List.getElem?_append_left hlt] at hy
      exact h.turn i x hi y hy
    · have : i + 2 * n = A.length := by have := (List.getElem?_eq_some_iff.1 hy).1; simp at this; omega
      by_cases hn0 : n = 0
      · subst hn0
        simp at hi hy this
        rw [hi] at hy; cases hy; simp
      · rw [this, hl] at hy; cases hy
        rw [List.getElem?_append_left (by omega)] at hi
        exact ht x (by omega) (by rw [show A.length - 2 * n = i from by omega]; exact hi)
theorem lastN_snoc_lt {m : Nat} {A : List Int} (h : A.length < m) (b : Int) : lastN m (A ++ [b]) = lastN m A ++ [b] := by
  unfold lastN
  rw [show (A ++ [b]).length - m = 0 from by simp; omega, show A.length - m = 0 from by omega]; simp
theorem lastN_snoc_ge {m : Nat} (hm : 1 ≤ m) {A : List Int} (h : m ≤ A.length) (b : Int) : ∃ a W, A[A.length - m]? = some a ∧ lastN m A = a :: W ∧ W.length = m - 1 ∧ lastN m (A ++ [b]) = W ++ [b] := by
  have hlt : A.length - m < A.length := by omega
  refine ⟨A[A.length - m], A.drop (A.length - m + 1), List.getElem?_eq_getElem hlt, ?_, by rw [List.length_drop]; omega, ?_⟩
  · unfold lastN; exact List.drop_eq_getElem_cons hlt
  · unfold lastN
    rw [show (A ++ [b]).length - m = A.length - m + 1 from by simp; omega, List.drop_append_of_le_length (by omega)]
theorem best_small {n : Nat} (h16 : n ≤ 16) {A : List Int} (h : RunL n A) : bestW (lastN (2 * n) A) ≤ 1099511627776 := by
  have := bestW_le (W := lastN (2 * n) A) (B := 549755814887) (fun a ha => (h.rng a (lastN_mem ha)).2) (by omega)
  rw [lastN_len] at this
  omega
theorem show_run {n : Nat} (h16 : n ≤ 16) {A : List Int} (h : RunL n A) : showF (lastN (2 * n) A) = bestW (lastN (2 * n) A) := by
  unfold showF
  rw [if_pos (best_small h16 h)]
theorem show_next {n : Nat} (h4 : 4 ≤ n) (h16 : n ≤ 16) {A : List Int} {b : Int} (h : RunL n (A ++ [b])) (hA : RunL n A) (hl : 2 * n ≤ A.length) : showF (lastN (2 * n) (A ++ [b])) = showF (lastN (2 * n) A) + 1 := by
  rw [show_run h16 h, show_run h16 hA]
  obtain ⟨a, W, ha, e1, e2, e3⟩ := lastN_snoc_ge (m := 2 * n) (by omega) hl b
  have hb : b = a + 2 * n := h.turn (A.length - 2 * n) a (by rw [List.getElem?_append_left (by omega)]; exact ha) b (by rw [show A.length - 2 * n + 2 * n = A.length from by omega]; simp)
  rw [e1, e3]
  have := bestW_turn a W (hA.rng a (List.mem_of_getElem? ha)).1 (fun x hx => (hA.rng x (lastN_mem (by rw [e1]; simp [hx]))).1) (by intro h0; rw [h0] at e2; simp at e2; omega)
  rw [e2] at this
  rw [← this, hb]
  congr 2
  congr 1
  omega
theorem show_ge {n : Nat} (h4 : 4 ≤ n) (h16 : n ≤ 16) {A : List Int} {b : Int} (h : RunL n (A ++ [b])) : b ≤ showF (lastN (2 * n) (A ++ [b])) := by
  rw [show_run h16 h]
  have hb := (h.rng b (by simp)).1
  have hx : ∃ W, lastN (2 * n) (A ++ [b]) = W ++ [b] := by
    by_cases hl : 2 * n ≤ A.length
    · obtain ⟨a, W, -, -, -, e⟩ := lastN_snoc_ge (m := 2 * n) (by omega) hl b
      exact ⟨W, e⟩
    · exact ⟨_, lastN_snoc_lt (by omega) b⟩
  obtain ⟨W, e⟩ := hx
  rw [e]
  exact bestW_newest hb

/-- the clock of a run, and the list that keeps its ages -/
def RunA (W : World) (n : Nat) (v : Value) (A : List Int) (w : World) : Prop :=
  ∃ v1, CkR W.heap.size W.heap.size n v1 (lastN (2 * n) A) w ∧ RoomV W.heap.size w 2 v (A.map (Value.int .i64)) ∧ (∀ k, v1.ownBlock = some k → v.ownBlock = some k → False) ∧ Below W.heap.size W w
theorem RunA.start (W : World) (n : Nat) : RunA W n (.slice none 0 0) [] (W.alloc (.cells #[.int .i64 n, .slice none 0 0] 68)) :=
  ⟨.slice none 0 0, ⟨Blk.new _ _ _, .inl ⟨rfl, by simp [lastN]⟩⟩, .inl ⟨rfl, rfl⟩, (fun k h => by cases h), (Below.refl _ _).alloc (Nat.le_refl _) _⟩
/-- behind a tick, ahead of the append -/
def RunB (W : World) (n : Nat) (v : Value) (A1 A : List Int) (w : World) : Prop :=
  ∃ v1, CkR W.heap.size W.heap.size n v1 (lastN (2 * n) A1) w ∧ RoomV W.heap.size w 2 v (A.map (Value.int .i64)) ∧ (∀ k, v1.ownBlock = some k → v.ownBlock = some k → False) ∧ Below W.heap.size W w
theorem RunA.step {W : World} {n : Nat} (h4 : 4 ≤ n) (h16 : n ≤ 16) {v : Value} {A : List Int} (hA : RunL n A) {c : Int} (h0 : 0 ≤ c) (h1 : c ≤ 549755814887) {w : World} (h : RunA W n v A w) :
    Calls Try.prog 17 #[.pointer (some ⟨W.heap.size, 0, none⟩), .int .i64 c, .int .i64 (-1)] w fun e w' => e = .returned (.tuple #[.int .i64 (c + 2 * n), .int .i64 (showF (lastN (2 * n) (A ++ [c + 2 * (n : Int)])))]) ∧ RunB W n v (A ++ [c + 2 * (n : Int)]) A w' := by
  obtain ⟨v1, hck, hr, hne, hB⟩ := h
  have hh := ckstep_any W.heap.size W.heap.size n h4 h16 v1 (lastN (2 * n) A) (fun a ha => by have := hA.rng a (lastN_mem ha); omega) (by rw [lastN_len]; omega) c (-1) (by omega) w hck hB.size
  rw [ownF_run h16 h0 h1] at hh
  refine hh.mono ?_
  rintro e w' ⟨rfl, ⟨v1', hck', hv'⟩, hch⟩
  rw [lastN_step (by omega)] at hck' ⊢
  refine ⟨rfl, v1', hck', hr.block (fun k hk => hch.block k (hr.lt k hk).2 ?_), ?_, below_chg hB hch hB.size ?_⟩
  · rintro (h | h)
    · subst h
      exact hr.not_ hck.1 (by decide) hk
    · exact hne k h.symm hk
  · intro k hk1 hk2
    rcases hv' with h | h
    · rw [h] at hk1
      exact hne k hk1 hk2
    · have := h k hk1
      have := (hr.lt k hk2).2
      omega
  · rintro k (h | h)
    · omega
    · exact (hck.2.lt k h.symm).1
/-- .. and behind it -/
theorem RunB.push {W : World} {n : Nat} {v : Value} {A1 A : List Int} {w wm w2 : World} (h : RunB W n v A1 A w) (hm : Below w.heap.size w wm) (hms : wm.heap.size = w.heap.size + 1) {b : Int} {v2 : Value} (hro : RoomV W.heap.size w2 2 v2 (A.map (Value.int .i64) ++ [Value.int .i64 b])) (hg : wm.grownBy w2 v.ownBlock) (hl : v2.ownBlock = v.ownBlock ∨ v2.ownBlock = some wm.heap.size ∨ ∀ k, v2.ownBlock = some k → wm.heap.size ≤ k) (he : A1 = A ++ [b]) : RunA W n v2 A1 w2 := by
  obtain ⟨v1, ⟨hb, hr1⟩, hr, hne, hB⟩ := h
  have keep : ∀ k, k < w.heap.size → some k ≠ v.ownBlock → w2.heap[k]? = w.heap[k]? := fun k hk hn => (hg.block k (by omega) hn).trans (hm.block k hk)
  refine ⟨v1, ⟨(keep _ hb.lt (fun h => hr.not_ hb (by decide) h.symm)).trans hb, hr1.block (fun k hk => keep k (hr1.lt k hk).2 (fun h => hne k hk h.symm))⟩, ?_, ?_, ?_⟩
  · rw [he]; simpa using hro
  · intro k hk1 hk2
    have hlt := (hr1.lt k hk1).2
    rcases hl with h | h | h
    · rw [h] at hk2; exact hne k hk1 hk2
    · rw [h] at hk2; cases hk2; omega
    · have := h k hk2; omega
  · have hB2 : Below W.heap.size W wm := hB.trans (hm.mono hB.size)
    exact hB2.grown hg (Nat.le_trans hB.size (by omega)) (fun k hk => (hr.lt k hk).1)
theorem and_mask (x : Int) : 0 ≤ bits BinOp.and IntKind.i64 x 549755813887 ∧ bits BinOp.and IntKind.i64 x 549755813887 ≤ 549755813887 := by
  have e : bits BinOp.and IntKind.i64 x 549755813887 = IntKind.i64.wrap (((BitVec.ofInt 64 x &&& BitVec.ofInt 64 549755813887).toNat : Nat) : Int) := rfl
  have h2 : (BitVec.ofInt 64 549755813887).toNat = 549755813887 := by decide
  have h1 : (BitVec.ofInt 64 x &&& BitVec.ofInt 64 549755813887).toNat ≤ 549755813887 := by
    rw [BitVec.toNat_and]
    exact Nat.le_trans Nat.and_le_right (by rw [h2]; exact Nat.le_refl _)
  rw [e, IntWalk.i64_in _ (by omega)]
  omega
end Go.Proofs.Ytlfpchkoeipcdaa
