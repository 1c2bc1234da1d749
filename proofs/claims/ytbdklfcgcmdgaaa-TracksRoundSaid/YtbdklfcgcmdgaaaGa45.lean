/-
  A tick of a ring ends: what is said instead of a word.
-/
import Derived.Test.YtbdklfcgcmdgaaaGa44
namespace Go.Proofs.Ytbdklfcgcmdgaaa
open Go.RowKit
set_option linter.unusedVariables false
set_option linter.unusedSimpArgs false

theorem out_round {tag0 tag : Nat → Nat} {w wq w6 : World} {rg : Nat} {av : Value} {R R' : RingM} {own : Nat → Rw} {i k g : Nat} {P : RgP} {N : Nat} (hr : RingAt tag wq rg av R' P) (ho : OutB tag0 w N (R.outK own i k) tag g wq) (hi : i < N) (hk : k < 4) (hb : Below wq.heap.size wq w6)
    {u : Value} (hu : WdAt (fun b => Sn tag wq b ∨ wq.heap.size ≤ b) w6 u (R.outM own i k)) :
    ∃ tag', RingAt tag' (w6.setCell ⟨g, i * 4 + k, none⟩ u) rg av R' P ∧ OutB tag0 w N (R.outK own i (k + 1)) tag' g (w6.setCell ⟨g, i * 4 + k, none⟩ u) ∧ (∀ {v : Value} {l : List Rw}, WdAt (Sn tag wq) wq v l → WdAt (Sn tag' (w6.setCell ⟨g, i * 4 + k, none⟩ u)) (w6.setCell ⟨g, i * 4 + k, none⟩ u) v l) := by
  have hs := hb.size
  have h16 := hr.bd.2
  have r6 := (hr.below hb).seal (tag' := tagR tag wq.heap.size w6.heap.size 0) fun b => by
    by_cases hbb : wq.heap.size ≤ b ∧ b < w6.heap.size
    · exact .inr ⟨hr.tg b hbb.1, tagR_in hbb.1 hbb.2, hbb.2⟩
    · exact .inl (if_neg hbb)
  have o6 := ho.below hb (tag' := tagR tag wq.heap.size w6.heap.size 0) (fun b hb => tagR_lo hb) r6.tg
  have hup : ∀ b, Sn tag wq b → Sn (tagR tag wq.heap.size w6.heap.size 0) w6 b := fun b hb => ⟨by rw [tagR_lo hb.2]; exact hb.1, by have := hb.2; omega⟩
  have hu6 : WdAt (Sn (tagR tag wq.heap.size w6.heap.size 0) w6) w6 u (R.outM own i k) := hu.mono fun b hbl hb => by
    rcases hb with hb | hb
    · exact hup b hb
    · exact ⟨tagR_in hb hbl, hbl⟩
  have hg := o6.tv
  have hc : Chg (· = g) w6 (w6.setCell ⟨g, i * 4 + k, none⟩ u) := (Chg.refl _ _).set_at _ u
  refine ⟨_, r6.chg hc fun b hb => by subst hb; omega, o6.put hi hk hu6 (by unfold RingM.outK; rw [if_pos (by omega)]) fun j q hj hq hne => ?_, fun {v l} hv => ?_⟩
  · unfold RingM.outK
    by_cases h1 : j < i ∨ j = i ∧ q < k
    · rw [if_pos h1, if_pos (by omega)]
    · rw [if_neg h1, if_neg (by omega)]
  · have h1 := (hv.below hb).mono (S' := Sn (tagR tag wq.heap.size w6.heap.size 0) w6) fun b _ hb => hup b hb
    exact (h1.keep hc.size fun b hb hl => hc.block b hl fun e => by subst e; have := hb.1; omega).mono fun b _ hb => ⟨hb.1, by have := hb.2; have := hc.size; omega⟩
theorem word_len {R : RingM} {own : Nat → Rw} {i : Nat} (h : (R.lane i).n ≤ 16) (q : Nat) : (R.word own i q).length ≤ 16 := by
  unfold RingM.word
  split
  · unfold LaneM.out; rw [tab_len, (said_n _ _).1]; exact h
  · simp
theorem outK_out {tag0 tag : Nat → Nat} {w wr : World} {N g : Nat} {R : RingM} {own : Nat → Rw} (h : OutB tag0 w N (R.outK own N 0) tag g wr) : OutB tag0 w N (R.outM own) tag g wr := by
  obtain ⟨cur, b1, b2, b3⟩ := h.b
  refine ⟨⟨cur, b1, b2, fun j q hj hq => ?_⟩, h.tv, h.ge, h.lo, h.hi, h.c⟩
  obtain ⟨u, e1, e2⟩ := b3 j q hj hq
  refine ⟨u, e1, ?_⟩
  have e : R.outK own N 0 j q = R.outM own j q := by unfold RingM.outK; rw [if_pos (.inl hj)]
  rwa [e] at e2
/-- the call that says what goes out, at a node's link -/
theorem said_node {tag : Nat → Nat} {wq w' : World} {rg : Nat} {av : Value} {R : RingM} {own : Nat → Rw} {P : RgP} (hr : RingAt tag wq rg av (R.sayK own R.N) P) (hlen : R.sent.length ≤ 1000000) {i k : Nat} (hi : i < R.N) (hk : k < 4) (hb : Below wq.heap.size wq w')
    {u v : Value} {W O : List Rw} (hu : WdAt (Sn tag wq) wq u W) (hv : WdAt (Sn tag wq) wq v O) (hW : W.length ≤ 16) :
    Calls Try.prog 62 #[.pointer (some ⟨rg, 0, none⟩), .int .i64 i, .int .i64 k, .agg #[u], .agg #[v]] w' (SaidPost (Sn tag wq) (R.saidM i k W O) w') := by
  have h2 := hr.below hb
  obtain ⟨c0, c1, c2, c3, c4, -, -, c7⟩ := h2.cells
  obtain ⟨a, an, ac, rfl, ha, ha1, ha2, ha3⟩ := hr.ac
  exact ringSaid_any (Sn tag wq) rg (R.sayK own R.N) P.sv u v a an ac i k W O w' c0 c1 c2 c3 c4 c7 h2.b.lt hr.bd.1 hr.bd.2 hi hk hr.fl.1 hr.fl.2 (ha.below hb) ha1 ha2 ha3 (hr.s.below hb) hlen (fun b hb' => Nat.lt_of_lt_of_le hb'.2 hb.size) (hu.below hb) (hv.below hb) (by omega)
end Go.Proofs.Ytbdklfcgcmdgaaa
