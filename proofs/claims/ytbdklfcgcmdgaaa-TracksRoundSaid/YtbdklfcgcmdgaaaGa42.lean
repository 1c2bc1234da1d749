/-
  A tick of a ring ends: plain lemmas of its loops.
-/
import Derived.Test.YtbdklfcgcmdgaaaGa41
namespace Go.Proofs.Ytbdklfcgcmdgaaa
open Go.RowKit
set_option linter.unusedVariables false
set_option linter.unusedSimpArgs false

/-- k nodes' words are there: four values each -/
structure SayB (tag0 : Nat → Nat) (w : World) (N k : Nat) (f : WordsM) (tag : Nat → Nat) (v : Value) (xs : List Value) (wr : World) : Prop where
  own : wr.ownsRow w.heap.size 101 4 v k xs
  tv : ∀ g, v.ownBlock = some g → tag g = 98
  he : ∀ j q, j < k → q < 4 → ∃ u, xs[j * 4 + q]? = some u ∧ WdAt (Sn tag wr) wr u (f j q)
  lo : ∀ b, b < w.heap.size → tag b = tag0 b
  hi : ∀ b, wr.heap.size ≤ b → tag b = 98
  c : Chg (Rgs tag0 N) w wr
section
variable {tag0 : Nat → Nat} {w : World} {N k : Nat} {f : WordsM} {tag : Nat → Nat} {v : Value} {xs : List Value} {wr wm w3 : World}
theorem SayB.start (hlo : ∀ b, w.heap.size ≤ b → tag0 b = 98) : SayB tag0 w N 0 f tag0 (.slice none 0 0) [] w := ⟨World.ownsRow_nil _ _ _ _, fun g hg => by simp [Value.ownBlock] at hg, fun j q hj => absurd hj (by omega), fun _ _ => rfl, hlo, Chg.refl _ _⟩
/-- the ring does something, or new blocks are made: what tells 98, 0 stays -/
theorem SayB.move (h : SayB tag0 w N k f tag v xs wr) (h16 : N ≤ 16) (hc : Chg (Rgs tag N) wr wm) {tag' : Nat → Nat} (ht : ∀ b, b < wr.heap.size → tag' b = tag b) (hi : ∀ b, wm.heap.size ≤ b → tag' b = 98) : SayB tag0 w N k f tag' v xs wm := by
  have hz := h.c.size
  have hnot : ∀ b, tag b = 98 ∨ tag b = 0 → ¬ Rgs tag N b := fun b hb hr => by have := hr.2; have := hr.1; omega
  refine ⟨own_block h.own fun b hb => hc.block b (h.own.lt b hb).2 (hnot b (.inl (h.tv b hb))), fun g hg => by rw [ht g (h.own.lt g hg).2]; exact h.tv g hg, fun j q hj hq => ?_, fun b hb => by rw [ht b (by omega)]; exact h.lo b hb, hi, h.c.trans' hc fun i hi hr => ?_⟩
  · obtain ⟨u, e1, e2⟩ := h.he j q hj hq
    exact ⟨u, e1, (e2.keep hc.size fun b hb hl => hc.block b hl (hnot b (.inr hb.1))).mono fun b _ hb => ⟨by rw [ht b hb.2]; exact hb.1, by have := hc.size; have := hb.2; omega⟩⟩
  · unfold Rgs at hr ⊢
    rwa [h.lo i hi] at hr
theorem SayB.push (h : SayB tag0 w N k f tag v xs wr) (h16 : N ≤ 16) {us : List Value} (hul : us.length = 4) (hu : ∀ q, q < 4 → ∃ u, us[q]? = some u ∧ WdAt (Sn tag wr) wr u (f k q)) {o : Obj} (hg : (wr.alloc o).grownBy w3 v.ownBlock) {g cap : Nat}
    (ho : w3.ownsRow w.heap.size 101 4 (.slice (some ⟨g, 0, none⟩) (k + 1) cap) (k + 1) (xs ++ us)) (hlie : v.ownBlock = some g ∨ g = (wr.alloc o).heap.size) : SayB tag0 w N (k + 1) f tag (.slice (some ⟨g, 0, none⟩) (k + 1) cap) (xs ++ us) w3 := by
  have hz := h.c.size
  have hs2 : (wr.alloc o).heap.size = wr.heap.size + 1 := by simp
  have hs3 := hg.size
  have hxl : xs.length = k * 4 := h.own.1
  have hk : ∀ b, b < wr.heap.size → tag b = 0 → w3.heap[b]? = wr.heap[b]? := fun b hb h0 => (hg.block b (by omega) (fun e => by have := h.tv b e.symm; omega)).trans (Below.heap_alloc _ _ _ hb)
  have hmv : ∀ {u' : Value} {l : List Rw}, WdAt (Sn tag wr) wr u' l → WdAt (Sn tag w3) w3 u' l := fun {u' l} h' =>
    (h'.keep (by omega) fun b hb hl => hk b hl hb.1).mono fun b _ hb => ⟨hb.1, by have := hb.2; omega⟩
  refine ⟨ho, fun g' hg' => ?_, fun j q hj hq => ?_, h.lo, fun b hb => h.hi b (by omega), (h.c.alloc o).grown hg fun q hq => .inr (h.own.lt q hq).1⟩
  · simp only [Value.ownBlock, Option.some.injEq] at hg'
    subst hg'
    rcases hlie with e | e
    · exact h.tv g e
    · exact h.hi g (by omega)
  · by_cases hjk : j < k
    · obtain ⟨u', e1, e2⟩ := h.he j q hjk hq
      exact ⟨u', by rw [List.getElem?_append_left (by omega)]; exact e1, hmv e2⟩
    · have : j = k := by omega
      subst this
      obtain ⟨u, e1, e2⟩ := hu q hq
      exact ⟨u, by rw [List.getElem?_append_right (by omega), hxl, show j * 4 + q - j * 4 = q from by omega]; exact e1, hmv e2⟩
end
/-- the words as they are being changed: they lie in one block -/
structure OutB (tag0 : Nat → Nat) (w : World) (N : Nat) (f : WordsM) (tag : Nat → Nat) (g : Nat) (wr : World) : Prop where
  b : ∃ cur : List Value, Blk wr g 101 cur.toArray ∧ N * 4 ≤ cur.length ∧ ∀ j q, j < N → q < 4 → ∃ u, cur[j * 4 + q]? = some u ∧ WdAt (Sn tag wr) wr u (f j q)
  tv : tag g = 98
  ge : w.heap.size ≤ g
  lo : ∀ b, b < w.heap.size → tag b = tag0 b
  hi : ∀ b, wr.heap.size ≤ b → tag b = 98
  c : Chg (Rgs tag0 N) w wr
theorem SayB.out {tag0 : Nat → Nat} {w : World} {N : Nat} {f : WordsM} {tag : Nat → Nat} {v : Value} {xs : List Value} {wr : World} (h : SayB tag0 w N N f tag v xs wr) (h4 : 0 < N) : ∃ g cap, v = .slice (some ⟨g, 0, none⟩) N cap ∧ N ≤ cap ∧ cap ≤ maxLen ∧ OutB tag0 w N f tag g wr := by
  rcases h.own.2 with ⟨-, h0⟩ | ⟨g, cap, cur, rfl, g1, g2, g3, g4, g5, g6⟩
  · omega
  · refine ⟨g, cap, rfl, g3, g4, ⟨cur.toList, (by show wr.heap[g]? = _; simpa using g2), by simp; omega, fun j q hj hq => ?_⟩, h.tv g rfl, g1, h.lo, h.hi, h.c⟩
    obtain ⟨u, e1, e2⟩ := h.he j q hj hq
    refine ⟨u, ?_, e2⟩
    have hin : j * 4 + q < N * 4 := by omega
    rw [← g6, List.getElem?_take, if_pos hin] at e1
    exact e1
section
variable {tag0 : Nat → Nat} {w : World} {N : Nat} {f : WordsM} {tag : Nat → Nat} {g : Nat} {wr wm : World}
theorem OutB.cell (h : OutB tag0 w N f tag g wr) {j q : Nat} (hj : j < N) (hq : q < 4) : ∃ u, wr.cell? ⟨g, j * 4 + q, none⟩ = some u ∧ WdAt (Sn tag wr) wr u (f j q) := by
  obtain ⟨cur, h1, h2, h3⟩ := h.b
  obtain ⟨u, e1, e2⟩ := h3 j q hj hq
  exact ⟨u, by rw [h1.cell]; simpa using e1, e2⟩
theorem OutB.frozen (h : OutB tag0 w N f tag g wr) (i : Nat) : wr.frozen? ⟨g, i, none⟩ = false := by
  obtain ⟨cur, h1, -⟩ := h.b
  exact h1.frozen i
theorem OutB.lt (h : OutB tag0 w N f tag g wr) : g < wr.heap.size := by
  obtain ⟨cur, h1, -⟩ := h.b
  exact h1.lt
/-- new blocks are made; some of them are read alone from now on -/
theorem OutB.below (h : OutB tag0 w N f tag g wr) (hb : Below wr.heap.size wr wm) {tag' : Nat → Nat} (ht : ∀ b, b < wr.heap.size → tag' b = tag b) (hi : ∀ b, wm.heap.size ≤ b → tag' b = 98) : OutB tag0 w N f tag' g wm := by
  have hz := h.c.size
  have hs := hb.size
  obtain ⟨cur, h1, h2, h3⟩ := h.b
  refine ⟨⟨cur, h1.below hb h1.lt, h2, fun j q hj hq => ?_⟩, by rw [ht g h1.lt]; exact h.tv, h.ge, fun b hb => by rw [ht b (by omega)]; exact h.lo b hb, hi, h.c.trans' (Chg.of_below hb (Rgs tag0 N)) fun _ _ h => h⟩
  obtain ⟨u, e1, e2⟩ := h3 j q hj hq
  exact ⟨u, e1, (e2.below hb).mono fun b _ hb => ⟨by rw [ht b hb.2]; exact hb.1, by have := hb.2; omega⟩⟩
/-- one word is put in its place -/
theorem OutB.put (h : OutB tag0 w N f tag g wr) {i k : Nat} (hi : i < N) (hk : k < 4) {u : Value} {l : List Rw} (hu : WdAt (Sn tag wr) wr u l) {f' : WordsM} (h1 : f' i k = l) (h2 : ∀ j q, j < N → q < 4 → ¬ (j = i ∧ q = k) → f' j q = f j q) : OutB tag0 w N f' tag g (wr.setCell ⟨g, i * 4 + k, none⟩ u) := by
  obtain ⟨cur, b1, b2, b3⟩ := h.b
  have hsz : (wr.setCell ⟨g, i * 4 + k, none⟩ u).heap.size = wr.heap.size := by simp
  have hkp : ∀ {u' : Value} {l' : List Rw}, WdAt (Sn tag wr) wr u' l' → WdAt (Sn tag (wr.setCell ⟨g, i * 4 + k, none⟩ u)) (wr.setCell ⟨g, i * 4 + k, none⟩ u) u' l' := fun {u' l'} h' =>
    (h'.keep (by rw [hsz]; exact Nat.le_refl _) fun b hb _ => Below.heap_setCell _ _ _ _ (by rintro rfl; have := hb.1; rw [h.tv] at this; omega)).mono fun b _ hb => ⟨hb.1, by rw [hsz]; exact hb.2⟩
  refine ⟨⟨cur.set (i * 4 + k) u, ?_, by simpa using b2, fun j q hj hq => ?_⟩, h.tv, h.ge, h.lo, fun b hb => h.hi b (by rw [hsz] at hb; exact hb), h.c.setCell (.inr h.ge) u⟩
  · have := b1.set_ (i * 4 + k) u
    rwa [List.setIfInBounds_toArray] at this
  · by_cases he : j = i ∧ q = k
    · obtain ⟨rfl, rfl⟩ := he
      refine ⟨u, by rw [List.getElem?_set, if_pos rfl, if_pos (by omega)], ?_⟩
      rw [h1]
      exact hkp hu
    · obtain ⟨u', e1, e2⟩ := b3 j q hj hq
      refine ⟨u', by rw [List.getElem?_set, if_neg (by omega)]; exact e1, ?_⟩
      rw [h2 j q hj hq he]
      exact hkp e2
end
/-- the words before anything is said wrong -/
noncomputable def RingM.wordsM (R : RingM) (own : Nat → Rw) : WordsM := fun j q => R.word own j (if q < 2 then 0 else 2)
/-- k nodes have said theirs -/
noncomputable def RingM.sayK (R : RingM) (own : Nat → Rw) (k : Nat) : RingM := { R with lane := fun i => if i < k ∧ R.on i = true then (R.lane i).said (own i) else R.lane i }
theorem sayK_zero (R : RingM) (own : Nat → Rw) : R.sayK own 0 = R := by unfold RingM.sayK; simp
theorem sayK_off {R : RingM} {own : Nat → Rw} {k : Nat} (h : R.on k = false) : R.sayK own (k + 1) = R.sayK own k := by
  unfold RingM.sayK
  simp only [RingM.mk.injEq, true_and, and_true]
  funext i
  by_cases hik : i = k
  · subst hik; simp [h]
  · by_cases hi : i < k
    · simp [hi, show i < k + 1 from by omega]
    · simp [hi, show ¬ i < k + 1 from by omega]
theorem sayK_on {R : RingM} {own : Nat → Rw} {k : Nat} (h : R.on k = true) : { R.sayK own k with lane := fun i => if i = k then (R.lane k).said (own k) else (R.sayK own k).lane i } = R.sayK own (k + 1) := by
  unfold RingM.sayK
  simp only [RingM.mk.injEq, true_and, and_true]
  funext i
  by_cases hik : i = k
  · subst hik; simp [h]
  · by_cases hi : i < k
    · simp [hi, hik, show i < k + 1 from by omega]
    · simp [hi, hik, show ¬ i < k + 1 from by omega]
/-- the words, where those of the nodes below i and of i's links below k are said -/
noncomputable def RingM.outK (R : RingM) (own : Nat → Rw) (i k : Nat) : WordsM := fun j q => if j < i ∨ j = i ∧ q < k then R.outM own j q else R.wordsM own j q
theorem outK_zero (R : RingM) (own : Nat → Rw) : R.outK own 0 0 = R.wordsM own := by funext j q; simp [RingM.outK]
theorem outK_next (R : RingM) (own : Nat → Rw) (i : Nat) {tag0 : Nat → Nat} {w : World} {N : Nat} {tag : Nat → Nat} {g : Nat} {wr : World} (h : OutB tag0 w N (R.outK own i 4) tag g wr) : OutB tag0 w N (R.outK own (i + 1) 0) tag g wr := by
  obtain ⟨cur, b1, b2, b3⟩ := h.b
  refine ⟨⟨cur, b1, b2, fun j q hj hq => ?_⟩, h.tv, h.ge, h.lo, h.hi, h.c⟩
  obtain ⟨u, e1, e2⟩ := b3 j q hj hq
  refine ⟨u, e1, ?_⟩
  have e : R.outK own (i + 1) 0 j q = R.outK own i 4 j q := by
    unfold RingM.outK
    by_cases hc : j < i ∨ j = i ∧ q < 4
    · rw [if_pos hc, if_pos (by omega)]
    · rw [if_neg hc, if_neg (by omega)]
  rw [e]; exact e2
end Go.Proofs.Ytbdklfcgcmdgaaa
