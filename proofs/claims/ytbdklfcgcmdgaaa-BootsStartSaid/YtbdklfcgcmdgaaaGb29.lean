/-
  What a tick of a ring hands back: plain lemmas of its loop.
-/
import Derived.Test.YtbdklfcgcmdgaaaGb27
import Derived.Test.YtbdklfcgcmdgaaaGb28
namespace Go.Proofs.Ytbdklfcgcmdgaaa
open Go.RowKit
set_option linter.unusedVariables false
set_option linter.unusedSimpArgs false

theorem Chg.trans' {S S' : Nat → Prop} {a b c : World} (h : Chg S a b) (k : Chg S' b c) (hs : ∀ i, i < a.heap.size → S' i → S i) : Chg S a c :=
  ⟨k.os.trans h.os, k.tape.trans h.tape, k.output.trans h.output, Nat.le_trans h.size k.size,
   fun i hi hn => (k.block i (Nat.lt_of_lt_of_le hi h.size) fun hS => hn (hs i hi hS)).trans (h.block i hi hn)⟩
theorem Chg.grown {S : Nat → Prop} {a b c : World} (h : Chg S a b) {o : Option Nat} (hg : b.grownBy c o) (ho : ∀ k, o = some k → S k ∨ a.heap.size ≤ k) : Chg S a c :=
  ⟨hg.os.trans h.os, hg.tape.trans h.tape, hg.output.trans h.output, Nat.le_trans h.size hg.size,
   fun i hi hn => (hg.block i (Nat.lt_of_lt_of_le hi h.size) fun e => by
      rcases ho i e.symm with h1 | h1
      · exact hn h1
      · omega).trans (h.block i hi hn)⟩
/-- lists of rows, one of each node -/
def HeldAt (S : Nat → Prop) (w : World) (v : Value) (N : Nat) (f : Nat → List Rw) : Prop :=
  ∃ g c, v = .slice (some ⟨g, 0, none⟩) N c ∧ S g ∧ g < w.heap.size ∧ N ≤ c ∧ c ≤ maxLen ∧ ∀ i, i < N → ∃ u, w.cell? ⟨g, i, none⟩ = some u ∧ WdAt S w u (f i)
theorem HeldAt.keep {S : Nat → Prop} {w w' : World} {v : Value} {N : Nat} {f : Nat → List Rw} (h : HeldAt S w v N f) (hs : w.heap.size ≤ w'.heap.size) (hk : ∀ b, S b → b < w.heap.size → w'.heap[b]? = w.heap[b]?) : HeldAt S w' v N f := by
  obtain ⟨g, c, h1, h2, h3, h4, h5, h6⟩ := h
  refine ⟨g, c, h1, h2, by omega, h4, h5, fun i hi => ?_⟩
  obtain ⟨u, e1, e2⟩ := h6 i hi
  exact ⟨u, (World.cell?_of_block (hk g h2 h3)).trans e1, e2.keep hs hk⟩
theorem HeldAt.mono {S S' : Nat → Prop} {w : World} {v : Value} {N : Nat} {f : Nat → List Rw} (h : HeldAt S w v N f) (hs : ∀ b, b < w.heap.size → S b → S' b) : HeldAt S' w v N f := by
  obtain ⟨g, c, h1, h2, h3, h4, h5, h6⟩ := h
  refine ⟨g, c, h1, hs g h3 h2, h3, h4, h5, fun i hi => ?_⟩
  obtain ⟨u, e1, e2⟩ := h6 i hi
  exact ⟨u, e1, e2.mono hs⟩
/-- k lists are there, in new blocks of nobody's -/
structure HearB (e : TypeId) (tag0 : Nat → Nat) (w : World) (N k : Nat) (f : Nat → List Rw) (tag : Nat → Nat) (v : Value) (xs : List Value) (wr : World) : Prop where
  own : wr.ownsRow w.heap.size e 1 v k xs
  tv : ∀ g, v.ownBlock = some g → tag g = 98
  he : ∀ j, j < k → ∃ u, xs[j]? = some u ∧ WdAt (fun b => w.heap.size ≤ b ∧ tag b = 98 ∧ some b ≠ v.ownBlock) wr u (f j)
  lo : ∀ b, b < w.heap.size → tag b = tag0 b
  hi : ∀ b, wr.heap.size ≤ b → tag b = 98
  c : Chg (Rgs tag0 N) w wr
section
variable {e : TypeId} {tag0 : Nat → Nat} {w : World} {N k : Nat} {f : Nat → List Rw} {tag : Nat → Nat} {v : Value} {xs : List Value} {wr wm w3 : World}
theorem HearB.start (hlo : ∀ b, w.heap.size ≤ b → tag0 b = 98) : HearB e tag0 w N 0 f tag0 (.slice none 0 0) [] w := ⟨World.ownsRow_nil _ _ _ _, fun g hg => by simp [Value.ownBlock] at hg, fun j hj => absurd hj (by omega), fun _ _ => rfl, hlo, Chg.refl _ _⟩
theorem HearB.move (h : HearB e tag0 w N k f tag v xs wr) (h16 : N ≤ 16) (hc : Chg (Rgs tag N) wr wm) {tag' : Nat → Nat} (ht : ∀ b, b < wr.heap.size → tag' b = tag b) (hi : ∀ b, wm.heap.size ≤ b → tag' b = 98) : HearB e tag0 w N k f tag' v xs wm := by
  have hz := h.c.size
  have hnot : ∀ b, tag b = 98 → ¬ Rgs tag N b := fun b hb hr => by have := hr.2; omega
  refine ⟨own_block h.own fun b hb => hc.block b (h.own.lt b hb).2 (hnot b (h.tv b hb)), fun g hg => by rw [ht g (h.own.lt g hg).2]; exact h.tv g hg, fun j hj => ?_, fun b hb => by rw [ht b (by omega)]; exact h.lo b hb, hi, h.c.trans' hc fun i hi hr => ?_⟩
  · obtain ⟨u, e1, e2⟩ := h.he j hj
    have e3 := e2.mono (S' := fun b => (w.heap.size ≤ b ∧ tag b = 98 ∧ some b ≠ v.ownBlock) ∧ b < wr.heap.size) (fun b hb hs => ⟨hs, hb⟩)
    exact ⟨u, e1, (e3.keep hc.size fun b hb hl => hc.block b hl (hnot b hb.1.2.1)).mono fun b _ hb => ⟨hb.1.1, by rw [ht b hb.2]; exact hb.1.2.1, hb.1.2.2⟩⟩
  · unfold Rgs at hr ⊢
    rwa [h.lo i hi] at hr
theorem HearB.push (h : HearB e tag0 w N k f tag v xs wr) (h16 : N ≤ 16) {u : Value} (hu : WdAt (fun b => w.heap.size ≤ b ∧ tag b = 98 ∧ some b ≠ v.ownBlock) wr u (f k)) {o : Obj} (hg : (wr.alloc o).grownBy w3 v.ownBlock) {g cap : Nat}
    (ho : w3.ownsRow w.heap.size e 1 (.slice (some ⟨g, 0, none⟩) (k + 1) cap) (k + 1) (xs ++ [u])) (hlie : v.ownBlock = some g ∨ g = (wr.alloc o).heap.size) : HearB e tag0 w N (k + 1) f tag (.slice (some ⟨g, 0, none⟩) (k + 1) cap) (xs ++ [u]) w3 := by
  have hz := h.c.size
  have hs2 : (wr.alloc o).heap.size = wr.heap.size + 1 := by simp
  have hs3 := hg.size
  have hxl : xs.length = k := by have := h.own.1; omega
  have hk : ∀ b, b < wr.heap.size → some b ≠ v.ownBlock → w3.heap[b]? = wr.heap[b]? := fun b hb hne => (hg.block b (by omega) hne).trans (Below.heap_alloc _ _ _ hb)
  have hmv : ∀ {u' : Value} {l : List Rw}, WdAt (fun b => w.heap.size ≤ b ∧ tag b = 98 ∧ some b ≠ v.ownBlock) wr u' l → WdAt (fun b => w.heap.size ≤ b ∧ tag b = 98 ∧ some b ≠ (Value.slice (some ⟨g, 0, none⟩) (k + 1) cap).ownBlock) w3 u' l := fun {u' l} h' => by
    have e3 := h'.mono (S' := fun b => (w.heap.size ≤ b ∧ tag b = 98 ∧ some b ≠ v.ownBlock) ∧ b < wr.heap.size) (fun b hb hs => ⟨hs, hb⟩)
    refine (e3.keep (by omega) fun b hb hl => hk b hl hb.1.2.2).mono fun b _ hb => ⟨hb.1.1, hb.1.2.1, ?_⟩
    simp only [Value.ownBlock, ne_eq, Option.some.injEq]
    rintro rfl
    rcases hlie with e | e
    · exact hb.1.2.2 e.symm
    · have := hb.2; omega
  refine ⟨ho, fun g' hg' => ?_, fun j hj => ?_, h.lo, fun b hb => h.hi b (by omega), (h.c.alloc o).grown hg fun q hq => .inr (h.own.lt q hq).1⟩
  · simp only [Value.ownBlock, Option.some.injEq] at hg'
    subst hg'
    rcases hlie with e | e
    · exact h.tv g e
    · exact h.hi g (by omega)
  · by_cases hjk : j < k
    · obtain ⟨u', e1, e2⟩ := h.he j hjk
      exact ⟨u', by rw [List.getElem?_append_left (by omega)]; exact e1, hmv e2⟩
    · have : j = k := by omega
      subst this
      exact ⟨u, by rw [List.getElem?_append_right (by omega), hxl]; simp, hmv hu⟩
theorem HearB.end_ (h : HearB e tag0 w N N f tag v xs wr) (h4 : 0 < N) : HeldAt (fun b => w.heap.size ≤ b ∧ tag b = 98) wr v N f := by
  rcases h.own.2 with ⟨-, h0⟩ | ⟨g, cap, cur, rfl, g1, g2, g3, g4, g5, g6⟩
  · omega
  · refine ⟨g, cap, rfl, ⟨g1, h.tv g rfl⟩, lt_of_some g2, g3, g4, fun i hi => ?_⟩
    obtain ⟨u, e1, e2⟩ := h.he i hi
    refine ⟨u, ?_, e2.mono fun b _ hb => ⟨hb.1, hb.2.1⟩⟩
    rw [cell_of_row wr g _ cur _ (0, 0) g2]
    have e1' : cur[i]? = (cur.toList.take (N * 1))[i]? := by rw [List.getElem?_take, if_pos (by omega)]; simp
    rw [e1', g6, e1]
/-- a list of nobody's grows: the ring stays -/
theorem RingAt.grow {rg : Nat} {av : Value} {R : RingM} {P : RgP} (h : RingAt tag wr rg av R P) {o : Obj} {q : Option Nat} (hg : (wr.alloc o).grownBy w3 q) (hq : ∀ g, q = some g → tag g = 98) : RingAt tag w3 rg av R P := by
  have hs2 : (wr.alloc o).heap.size = wr.heap.size + 1 := by simp
  have hs3 := hg.size
  have hN := h.bd.2
  refine h.keep (by omega) fun b hb ht => (hg.block b (by omega) fun e => ?_).trans (Below.heap_alloc _ _ _ hb)
  have := hq b e.symm
  omega
end
/-- k nodes have heard -/
def RingM.hearK (R : RingM) (on : Nat → Bool) (k : Nat) : RingM :=
  { R with lane := fun i => if i < k then (R.hear on).lane i else R.lane i, on := fun i => if i < k then on i else R.on i }
theorem hearK_zero (R : RingM) (on : Nat → Bool) : R.hearK on 0 = R := by
  unfold RingM.hearK
  simp
theorem hearK_off {R : RingM} {on : Nat → Bool} {k : Nat} (h : on k = false) : { R.hearK on k with on := fun i => if i < k + 1 then on i else R.on i } = R.hearK on (k + 1) := by
  unfold RingM.hearK
  simp only [RingM.mk.injEq, true_and, and_true]
  funext i
  by_cases hi : i < k
  · rw [if_pos hi, if_pos (by omega)]
  · rw [if_neg hi]
    by_cases hik : i = k
    · subst hik; rw [if_pos (by omega)]; unfold RingM.hear; simp [h]
    · rw [if_neg (by omega)]
/-- node k is on, its lane is there -/
def RingM.readyK (R : RingM) (on : Nat → Bool) (k : Nat) : RingM :=
  { R with lane := fun i => if i = k then (if R.on k then R.lane k else LaneM.new R.N k) else (R.hearK on k).lane i, on := fun i => if i < k + 1 then on i else R.on i }
theorem readyK_put {R : RingM} {on : Nat → Bool} {k : Nat} (h : on k = true) : { R.readyK on k with lane := fun i => if i = k then ((R.readyK on k).lane k).put (R.insM k) else (R.readyK on k).lane i } = R.hearK on (k + 1) := by
  unfold RingM.readyK RingM.hearK
  simp only [RingM.mk.injEq, true_and, and_true, if_true]
  funext i
  by_cases hik : i = k
  · subst hik
    have hlt : i < i + 1 := Nat.lt_succ_self i
    unfold RingM.hear
    simp only [h, hlt, if_true]
  · rw [if_neg hik, if_neg hik]
    by_cases hi : i < k
    · rw [if_pos hi, if_pos (by omega)]
    · rw [if_neg hi, if_neg (by omega)]
end Go.Proofs.Ytbdklfcgcmdgaaa
