/-
  A tick of a ring ends: plain lemmas of its loops. (*sennitlaw14.Ring).Say: what its first loop's round leaves. What was said is put with what was sent. A tick of a ring ends: what is said instead of a word.
-/
import Derived.Test.YtbdklfcgcmdgaaaGb30
namespace Go.Proofs.Ytbdklfcgcmdgaaa
open Go.RowKit
set_option linter.unusedVariables false
set_option linter.unusedSimpArgs false

/-- k nodes' words are there: four values each -/
structure SayB (tag0 : Nat → Nat) (w : World) (N k : Nat) (f : WordsM) (tag : Nat → Nat) (v : Value) (xs : List Value) (wr : World) : Prop where
  own : wr.ownsRow w.heap.size 101 4 v k xs
  tv : ∀ g, v.ownBlock = some g → tag g = 98
  he : ∀ j q, j < k → q < 4 → ∃ u, xs[j * 4 + q]? = some u ∧ WdAt (Sn tag wr) wr u (f j q)
  lo : ∀ b, b < w.heap.size → tag b = tag0 b
  hi : ∀ b, wr.heap.size ≤ b → tag b = 98
  c : Chg (Rgs tag0 N) w wr
section
variable {tag0 : Nat → Nat} {w : World} {N k : Nat} {f : WordsM} {tag : Nat → Nat} {v : Value} {xs : List Value} {wr wm w3 : World}
theorem SayB.start (hlo : ∀ b, w.heap.size ≤ b → tag0 b = 98) : SayB tag0 w N 0 f tag0 (.slice none 0 0) [] w := ⟨World.ownsRow_nil _ _ _ _, fun g hg => by simp [Value.ownBlock] at hg, fun j q hj => absurd hj (by omega), fun _ _ => rfl, hlo, Chg.refl _ _⟩
/-- the ring does something, or new blocks are made: what tells 98, 0 stays -/
theorem SayB.move (h : SayB tag0 w N k f tag v xs wr) (h16 : N ≤ 16) (hc : Chg (Rgs tag N) wr wm) {tag' : Nat → Nat} (ht : ∀ b, b < wr.heap.size → tag' b = tag b) (hi : ∀ b, wm.heap.size ≤ b → tag' b = 98) : SayB tag0 w N k f tag' v xs wm := by
  have hz := h.c.size
  have hnot : ∀ b, tag b = 98 ∨ tag b = 0 → ¬ Rgs tag N b := fun b hb hr => by have := hr.2; have := hr.1; omega
  refine ⟨own_block h.own fun b hb => hc.block b (h.own.lt b hb).2 (hnot b (.inl (h.tv b hb))), fun g hg => by rw [ht g (h.own.lt g hg).2]; exact h.tv g hg, fun j q hj hq => ?_, fun b hb => by rw [ht b (by omega)]; exact h.lo b hb, hi, h.c.trans' hc fun i hi hr => ?_⟩
  · obtain ⟨u, e1, e2⟩ := h.he j q hj hq
    exact ⟨u, e1, (e2.keep hc.size fun b hb hl => hc.block b hl (hnot b (.inr hb.1))).mono fun b _ hb => ⟨by rw [ht b hb.2]; exact hb.1, by have := hc.size; have := hb.2; omega⟩⟩
  · unfold Rgs at hr ⊢
    rwa [h.lo i hi] at hr
theorem SayB.push (h : SayB tag0 w N k f tag v xs wr) (h16 : N ≤ 16) {us : List Value} (hul : us.length = 4) (hu : ∀ q, q < 4 → ∃ u, us[q]? = some u ∧ WdAt (Sn tag wr) wr u (f k q)) {o : Obj} (hg : (wr.alloc o).grownBy w3 v.ownBlock) {g cap : Nat}
    (ho : w3.ownsRow w.heap.size 101 4 (.slice (some ⟨g, 0, none⟩) (k + 1) cap) (k + 1) (xs ++ us)) (hlie : v.ownBlock = some g ∨ g = (wr.alloc o).heap.size) : SayB tag0 w N (k + 1) f tag (.slice (some ⟨g, 0, none⟩) (k + 1) cap) (xs ++ us) w3 := by
  have hz := h.c.size
  have hs2 : (wr.alloc o).heap.size = wr.heap.size + 1 := by simp
  have hs3 := hg.size
  have hxl : xs.length = k * 4 := h.own.1
  have hk : ∀ b, b < wr.heap.size → tag b = 0 → w3.heap[b]? = wr.heap[b]? := fun b hb h0 => (hg.block b (by omega) (fun e => by have := h.tv b e.symm; omega)).trans (Below.heap_alloc _ _ _ hb)
  have hmv : ∀ {u' : Value} {l : List Rw}, WdAt (Sn tag wr) wr u' l → WdAt (Sn tag w3) w3 u' l := fun {u' l} h' =>
    (h'.keep (by omega) fun b hb hl => hk b hl hb.1).mono fun b _ hb => ⟨hb.1, by have := hb.2; omega⟩
  refine ⟨ho, fun g' hg' => ?_, fun j q hj hq => ?_, h.lo, fun b hb => h.hi b (by omega), (h.c.alloc o).grown hg fun q hq => .inr (h.own.lt q hq).1⟩
  · simp only [Value.ownBlock, Option.some.injEq] at hg'
    subst hg'
    rcases hlie with e | e
    · exact h.tv g e
    · exact h.hi g (by omega)
  · by_cases hjk : j < k
    · obtain ⟨u', e1, e2⟩ := h.he j q hjk hq
      exact ⟨u', by rw [List.getElem?_append_left (by omega)]; exact e1, hmv e2⟩
    · have : j = k := by omega
      subst this
      obtain ⟨u, e1, e2⟩ := hu q hq
      exact ⟨u, by rw [List.getElem?_append_right (by omega), hxl, show j * 4 + q - j * 4 = q from by omega]; exact e1, hmv e2⟩
end
/-- the words as they are being changed: they lie in one block -/
structure OutB (tag0 : Nat → Nat) (w : World) (N : Nat) (f : WordsM) (tag : Nat → Nat) (g : Nat) (wr : World) : Prop where
  b : ∃ cur : List Value, Blk wr g 101 cur.toArray ∧ N * 4 ≤ cur.length ∧ ∀ j q, j < N → q < 4 → ∃ u, cur[j * 4 + q]? = some u ∧ WdAt (Sn tag wr) wr u (f j q)
  tv : tag g = 98
  ge : w.heap.size ≤ g
  lo : ∀ b, b < w.heap.size → tag b = tag0 b
  hi : ∀ b, wr.heap.size ≤ b → tag b = 98
  c : Chg (Rgs tag0 N) w wr
theorem SayB.out {tag0 : Nat → Nat} {w : World} {N : Nat} {f : WordsM} {tag : Nat → Nat} {v : Value} {xs : List Value} {wr : World} (h : SayB tag0 w N N f tag v xs wr) (h4 : 0 < N) : ∃ g cap, v = .slice (some ⟨g, 0, none⟩) N cap ∧ N ≤ cap ∧ cap ≤ maxLen ∧ OutB tag0 w N f tag g wr := by
  rcases h.own.2 with ⟨-, h0⟩ | ⟨g, cap, cur, rfl, g1, g2, g3, g4, g5, g6⟩
  · omega
  · refine ⟨g, cap, rfl, g3, g4, ⟨cur.toList, (by show wr.heap[g]? = _; simpa using g2), by simp; omega, fun j q hj hq => ?_⟩, h.tv g rfl, g1, h.lo, h.hi, h.c⟩
    obtain ⟨u, e1, e2⟩ := h.he j q hj hq
    refine ⟨u, ?_, e2⟩
    have hin : j * 4 + q < N * 4 := by omega
    rw [← g6, List.getElem?_take, if_pos hin] at e1
    exact e1
section
variable {tag0 : Nat → Nat} {w : World} {N : Nat} {f : WordsM} {tag : Nat → Nat} {g : Nat} {wr wm : World}
theorem OutB.cell (h : OutB tag0 w N f tag g wr) {j q : Nat} (hj : j < N) (hq : q < 4) : ∃ u, wr.cell? ⟨g, j * 4 + q, none⟩ = some u ∧ WdAt (Sn tag wr) wr u (f j q) := by
  obtain ⟨cur, h1, h2, h3⟩ := h.b
  obtain ⟨u, e1, e2⟩ := h3 j q hj hq
  exact ⟨u, by rw [h1.cell]; simpa using e1, e2⟩
theorem OutB.frozen (h : OutB tag0 w N f tag g wr) (i : Nat) : wr.frozen? ⟨g, i, none⟩ = false := by
  obtain ⟨cur, h1, -⟩ := h.b
  exact h1.frozen i
theorem OutB.lt (h : OutB tag0 w N f tag g wr) : g < wr.heap.size := by
  obtain ⟨cur, h1, -⟩ := h.b
  exact h1.lt
/-- new blocks are made; some of them are read alone from now on -/
theorem OutB.below (h : OutB tag0 w N f tag g wr) (hb : Below wr.heap.size wr wm) {tag' : Nat → Nat} (ht : ∀ b, b < wr.heap.size → tag' b = tag b) (hi : ∀ b, wm.heap.size ≤ b → tag' b = 98) : OutB tag0 w N f tag' g wm := by
  have hz := h.c.size
  have hs := hb.size
  obtain ⟨cur, h1, h2, h3⟩ := h.b
  refine ⟨⟨cur, h1.below hb h1.lt, h2, fun j q hj hq => ?_⟩, by rw [ht g h1.lt]; exact h.tv, h.ge, fun b hb => by rw [ht b (by omega)]; exact h.lo b hb, hi, h.c.trans' (Chg.of_below hb (Rgs tag0 N)) fun _ _ h => h⟩
  obtain ⟨u, e1, e2⟩ := h3 j q hj hq
  exact ⟨u, e1, (e2.below hb).mono fun b _ hb => ⟨by rw [ht b hb.2]; exact hb.1, by have := hb.2; omega⟩⟩
/-- one word is put in its place -/
theorem OutB.put (h : OutB tag0 w N f tag g wr) {i k : Nat} (hi : i < N) (hk : k < 4) {u : Value} {l : List Rw} (hu : WdAt (Sn tag wr) wr u l) {f' : WordsM} (h1 : f' i k = l) (h2 : ∀ j q, j < N → q < 4 → ¬ (j = i ∧ q = k) → f' j q = f j q) : OutB tag0 w N f' tag g (wr.setCell ⟨g, i * 4 + k, none⟩ u) := by
  obtain ⟨cur, b1, b2, b3⟩ := h.b
  have hsz : (wr.setCell ⟨g, i * 4 + k, none⟩ u).heap.size = wr.heap.size := by simp
  have hkp : ∀ {u' : Value} {l' : List Rw}, WdAt (Sn tag wr) wr u' l' → WdAt (Sn tag (wr.setCell ⟨g, i * 4 + k, none⟩ u)) (wr.setCell ⟨g, i * 4 + k, none⟩ u) u' l' := fun {u' l'} h' =>
    (h'.keep (by rw [hsz]; exact Nat.le_refl _) fun b hb _ => Below.heap_setCell _ _ _ _ (by rintro rfl; have := hb.1; rw [h.tv] at this; omega)).mono fun b _ hb => ⟨hb.1, by rw [hsz]; exact hb.2⟩
  refine ⟨⟨cur.set (i * 4 + k) u, ?_, by simpa using b2, fun j q hj hq => ?_⟩, h.tv, h.ge, h.lo, fun b hb => h.hi b (by rw [hsz] at hb; exact hb), h.c.setCell (.inr h.ge) u⟩
  · have := b1.set_ (i * 4 + k) u
    rwa [List.setIfInBounds_toArray] at this
  · by_cases he : j = i ∧ q = k
    · obtain ⟨rfl, rfl⟩ := he
      refine ⟨u, by rw [List.getElem?_set, if_pos rfl, if_pos (by omega)], ?_⟩
      rw [h1]
      exact hkp hu
    · obtain ⟨u', e1, e2⟩ := b3 j q hj hq
      refine ⟨u', by rw [List.getElem?_set, if_neg (by omega)]; exact e1, ?_⟩
      rw [h2 j q hj hq he]
      exact hkp e2
end
/-- the words before anything is said wrong -/
noncomputable def RingM.wordsM (R : RingM) (own : Nat → Rw) : WordsM := fun j q => R.word own j (if q < 2 then 0 else 2)
/-- k nodes have said theirs -/
noncomputable def RingM.sayK (R : RingM) (own : Nat → Rw) (k : Nat) : RingM := { R with lane := fun i => if i < k ∧ R.on i = true then (R.lane i).said (own i) else R.lane i }
theorem sayK_zero (R : RingM) (own : Nat → Rw) : R.sayK own 0 = R := by unfold RingM.sayK; simp
theorem sayK_off {R : RingM} {own : Nat → Rw} {k : Nat} (h : R.on k = false) : R.sayK own (k + 1) = R.sayK own k := by
  unfold RingM.sayK
  simp only [RingM.mk.injEq, true_and, and_true]
  funext i
  by_cases hik : i = k
  · subst hik; simp [h]
  · by_cases hi : i < k
    · simp [hi, show i < k + 1 from by omega]
    · simp [hi, show ¬ i < k + 1 from by omega]
theorem sayK_on {R : RingM} {own : Nat → Rw} {k : Nat} (h : R.on k = true) : { R.sayK own k with lane := fun i => if i = k then (R.lane k).said (own k) else (R.sayK own k).lane i } = R.sayK own (k + 1) := by
  unfold RingM.sayK
  simp only [RingM.mk.injEq, true_and, and_true]
  funext i
  by_cases hik : i = k
  · subst hik; simp [h]
  · by_cases hi : i < k
    · simp [hi, hik, show i < k + 1 from by omega]
    · simp [hi, hik, show ¬ i < k + 1 from by omega]
/-- the words, where those of the nodes below i and of i's links below k are said -/
noncomputable def RingM.outK (R : RingM) (own : Nat → Rw) (i k : Nat) : WordsM := fun j q => if j < i ∨ j = i ∧ q < k then R.outM own j q else R.wordsM own j q
theorem outK_zero (R : RingM) (own : Nat → Rw) : R.outK own 0 0 = R.wordsM own := by funext j q; simp [RingM.outK]
theorem outK_next (R : RingM) (own : Nat → Rw) (i : Nat) {tag0 : Nat → Nat} {w : World} {N : Nat} {tag : Nat → Nat} {g : Nat} {wr : World} (h : OutB tag0 w N (R.outK own i 4) tag g wr) : OutB tag0 w N (R.outK own (i + 1) 0) tag g wr := by
  obtain ⟨cur, b1, b2, b3⟩ := h.b
  refine ⟨⟨cur, b1, b2, fun j q hj hq => ?_⟩, h.tv, h.ge, h.lo, h.hi, h.c⟩
  obtain ⟨u, e1, e2⟩ := b3 j q hj hq
  refine ⟨u, e1, ?_⟩
  have e : R.outK own (i + 1) 0 j q = R.outK own i 4 j q := by
    unfold RingM.outK
    by_cases hc : j < i ∨ j = i ∧ q < 4
    · rw [if_pos hc, if_pos (by omega)]
    · rw [if_neg hc, if_neg (by omega)]
  rw [e]; exact e2
end Go.Proofs.Ytbdklfcgcmdgaaa
namespace Go.Proofs.Ytbdklfcgcmdgaaa
open Go.RowKit
set_option linter.unusedVariables false
set_option linter.unusedSimpArgs false

theorem ag_w4 : aggOf Try.prog 101 4 = true := by kernel_rfl
section
variable (ρ : Operand → Value) (d : Option Tmp) (x y : Operand) (ty : TypeId) (s : String) (af : Array Edge) (g : Option (Nat × Bool)) (w : World)
@[go_sem ↓] theorem ld_w4 (h : hasRowV w 4 (ρ x) = true) :
    (execOp ρ { dst := d, op := .load 101 x, type := ty, pos := s, after := af, guard := g }).run Try.prog w = .ok (.value (.agg (rowV w 4 (ρ x)).toArray)) w := exec_load ag_w4 ρ d x ty s af g w h
@[go_sem ↓] theorem st_w4 (h1 : okAgg 4 (ρ y) = true) (h2 : canPutV w 4 (ρ x) = true) :
    (execOp ρ { dst := d, op := .store 101 x y, type := ty, pos := s, after := af, guard := g }).run Try.prog w = .ok .skip (putV w (ρ x) (ρ y)) := exec_store ag_w4 ρ d x y ty s af g w h1 h2
@[go_sem ↓] theorem bs_w4 (h : lenC (ρ x) 4 = true) : (execOp ρ { dst := d, op := .buildSlice 102 1 #[(0, x)], type := ty, pos := s, after := af, guard := g }).run Try.prog w = .ok (.value (.slice (some ⟨w.heap.size, 0, none⟩) 1 1)) (w.alloc (.cells (cellsL (ρ x)).toArray 101)) := by
  have := exec_bslice (n := 4) Try.underlying102 (by kernel_rfl) ρ d 1 [x] #[(0, x)] ty s af g w (by simp [iparts]) rfl (by omega) (by omega) (by simp [h])
  simpa using this
end
theorem app_w4 : AppOk Try.prog 102 101 4 := appOk_of Try.underlying102 (by kernel_rfl)
def SayN (tag : Nat → Nat) (R : RingM) (own : Nat → Rw) (k : Nat) (P : RgP) (wA : World) (e : Ending) (w8 : World) : Prop :=
  ∃ (m g0 g1 : Nat), e = .returned (.tuple #[.agg #[.slice (some ⟨g0, 0, none⟩) R.N R.N], .agg #[.slice (some ⟨g1, 0, none⟩) R.N R.N]]) ∧ wA.heap.size ≤ m ∧ LaneAt (GrowS (fun b => tag b = k + 1) wA.heap.size m) w8 (P.p k) (P.gp k) (P.G k) ((R.lane k).said (own k)) ∧ m ≤ g0 ∧ m ≤ g1 ∧
    RowsB (fun b => m ≤ b ∧ b ≠ g0 ∧ b ≠ g1) w8 g0 54 (((R.lane k).said (own k)).out 0) ∧ RowsB (fun b => m ≤ b ∧ b ≠ g0 ∧ b ≠ g1) w8 g1 54 (((R.lane k).said (own k)).out 2) ∧ Chg (fun b => tag b = k + 1) wA w8
theorem said_n (L : LaneM) (r : Rw) : (L.said r).n = L.n ∧ (L.said r).me = L.me := by unfold LaneM.said; split <;> exact ⟨rfl, rfl⟩
theorem say_node {tag : Nat → Nat} {wc : World} {rg : Nat} {av : Value} {R : RingM} {own : Nat → Rw} {k : Nat} {P : RgP} (hr : RingAt tag wc rg av (R.sayK own k) P) (hk : k < R.N) (hb : (R.lane k).b = true) (hT : 0 < (R.lane k).T) (hT2 : (R.lane k).T ≤ 1000000000) (ho : (own k).ok) {wA : World} (hB : Below wc.heap.size wc wA)
    {So : Nat → Prop} {tv : Value} (ht : RowR So wA (own k) tv) (hS : ∀ b, So b → tag b ≠ k + 1) :
    Calls Try.prog 22 #[.pointer (some ⟨P.p k, 0, none⟩), .agg ((own k).vals tv).toArray] wA (SayN tag R own k P wA) := by
  obtain ⟨h1, h2, h3⟩ := hr.la k hk
  have e0 : (R.sayK own k).lane k = R.lane k := by simp [RingM.sayK]
  have e1 : (R.sayK own k).N = R.N := rfl
  rw [e0] at h1 h2 h3
  rw [e1] at h2
  refine (say_any (fun b => tag b = k + 1) So (P.p k) (P.gp k) (P.G k) (R.lane k) (own k) ho tv wA (h1.below hB) hb hT hT2 ht hS).mono ?_
  rintro e w8 ⟨m, g0, g1, q1, q2, rfl, q4, q5, q6, q7, q8, q9⟩
  rw [h2]
  exact ⟨m, g0, g1, rfl, q1, q2, q4, q5, q7, q8, q9⟩
theorem word_on {R : RingM} {own : Nat → Rw} {k : Nat} (h : R.on k = true) (hb : (R.lane k).b = true) (q : Nat) : R.word own k q = ((R.lane k).said (own k)).out q := by
  unfold RingM.word
  rw [if_pos (by simp [h, hb])]
theorem say_round {tag0 tag : Nat → Nat} {w wc : World} {rg : Nat} {av : Value} {R : RingM} {own : Nat → Rw} {k : Nat} {P : RgP} {v : Value} {xs : List Value} (hr : RingAt tag wc rg av (R.sayK own k) P) (hh : SayB tag0 w R.N k (R.wordsM own) tag v xs wc) (hk : k < R.N) (hon : R.on k = true) (hb : (R.lane k).b = true)
    {wA w8 : World} (hB : Below wc.heap.size wc wA) {m g0 g1 : Nat} (hm : wA.heap.size ≤ m) (hL : LaneAt (GrowS (fun b => tag b = k + 1) wA.heap.size m) w8 (P.p k) (P.gp k) (P.G k) ((R.lane k).said (own k))) (hg0 : m ≤ g0) (hg1 : m ≤ g1)
    (hr0 : RowsB (fun b => m ≤ b ∧ b ≠ g0 ∧ b ≠ g1) w8 g0 54 (((R.lane k).said (own k)).out 0)) (hr1 : RowsB (fun b => m ≤ b ∧ b ≠ g0 ∧ b ≠ g1) w8 g1 54 (((R.lane k).said (own k)).out 2)) (hc : Chg (fun b => tag b = k + 1) wA w8) :
    ∃ tag' P', RingAt tag' w8 rg av (R.sayK own (k + 1)) P' ∧ SayB tag0 w R.N k (R.wordsM own) tag' v xs w8 ∧ WdAt (Sn tag' w8) w8 (.slice (some ⟨g0, 0, none⟩) R.N R.N) (R.wordsM own k 0) ∧ WdAt (Sn tag' w8) w8 (.slice (some ⟨g1, 0, none⟩) R.N R.N) (R.wordsM own k 2) ∧ (∀ b, b < wA.heap.size → tag' b = tag b) := by
  have h16 : R.N ≤ 16 := hr.bd.2
  obtain ⟨l1, l2, l3⟩ := hr.la k hk
  have e0 : (R.sayK own k).lane k = R.lane k := by simp [RingM.sayK]
  rw [e0] at l1 l2 l3
  have l2' : (R.lane k).n = R.N := l2
  have hg8 := hr0.lt
  have hs6 := hB.size
  have hs8 := hc.size
  have hw := hh.c.size
  have hturn := (hr.below hB).turn (i := k) (m := m) hk hm (by omega) hc hL (by rw [(said_n _ _).1]; exact l2) (by rw [(said_n _ _).2]; exact l3) rfl
  rw [sayK_on hon] at hturn
  have hseal := hturn.seal (tag' := tagR (tagR tag wA.heap.size m (k + 1)) m w8.heap.size 0) (fun b => by
    by_cases hbm : m ≤ b ∧ b < w8.heap.size
    · right
      exact ⟨by rw [tagR_hi hbm.1]; exact hr.tg b (by omega), tagR_in hbm.1 hbm.2, hbm.2⟩
    · left
      exact if_neg hbm)
  have lo : ∀ b, b < wA.heap.size → tagR (tagR tag wA.heap.size m (k + 1)) m w8.heap.size 0 b = tag b := fun b hb => by rw [tagR_lo (by omega), tagR_lo hb]
  refine ⟨_, _, hseal, hh.move h16 (((Chg.of_below hB (Rgs tag R.N)).trans' (S' := fun b => tag b = k + 1) hc fun b _ hb => ⟨by omega, by omega⟩)) (fun b hb => lo b (by omega)) hseal.tg, ?_, ?_, lo⟩
  · have hok : ∀ r ∈ ((R.lane k).said (own k)).out 0, r.ok := LaneM.out_ok hL.ok 0
    have hrd := hr0.rd hok
    have hl : (((R.lane k).said (own k)).out 0).length = R.N := by unfold LaneM.out; rw [tab_len, (said_n _ _).1, l2']
    rw [hl] at hrd
    have ew : R.wordsM own k 0 = ((R.lane k).said (own k)).out 0 := word_on hon hb 0
    rw [ew]
    refine ⟨_, _, _, rfl, hrd.mono fun b hbl hb => ?_, Nat.le_refl _, by simp only [maxLen]; omega⟩
    have hmb : m ≤ b := by rcases hb with rfl | hb; exact hg0; exact hb.1
    exact ⟨tagR_in hmb hbl, hbl⟩
  · have hok : ∀ r ∈ ((R.lane k).said (own k)).out 2, r.ok := LaneM.out_ok hL.ok 2
    have hrd := hr1.rd hok
    have hl : (((R.lane k).said (own k)).out 2).length = R.N := by unfold LaneM.out; rw [tab_len, (said_n _ _).1, l2']
    rw [hl] at hrd
    have ew : R.wordsM own k 2 = ((R.lane k).said (own k)).out 2 := word_on hon hb 2
    rw [ew]
    refine ⟨_, _, _, rfl, hrd.mono fun b hbl hb => ?_, Nat.le_refl _, by simp only [maxLen]; omega⟩
    have hmb : m ≤ b := by rcases hb with rfl | hb; exact hg1; exact hb.1
    exact ⟨tagR_in hmb hbl, hbl⟩
/-- what changes in blocks of nobody's behind w4 leaves all that -/
theorem WdAt.loose {tag : Nat → Nat} {lo : Nat} {w8 wc : World} {v : Value} {l : List Rw} (h : WdAt (Sn tag w8) w8 v l) (hc : Chg (fun b => tag b = 98 ∧ lo ≤ b) w8 wc) : WdAt (Sn tag wc) wc v l :=
  (h.keep hc.size fun b hb hl => hc.block b hl fun hn => by have := hb.1; omega).mono fun b _ hb => ⟨hb.1, by have := hb.2; have := hc.size; omega⟩
theorem SayB.loose {tag0 tag : Nat → Nat} {w : World} {N k : Nat} {f : WordsM} {v : Value} {xs : List Value} {lo : Nat} {w8 wc : World} (h : SayB tag0 w N k f tag v xs w8) (hc : Chg (fun b => tag b = 98 ∧ lo ≤ b) w8 wc) (hlo : ∀ b, v.ownBlock = some b → b < lo) (hwl : w.heap.size ≤ lo) : SayB tag0 w N k f tag v xs wc := by
  have hz := h.c.size
  refine ⟨own_block h.own fun b hb => hc.block b (h.own.lt b hb).2 fun hn => by have := hlo b hb; omega, h.tv, fun j q hj hq => ?_, h.lo, fun b hb => h.hi b (by have := hc.size; omega), ⟨hc.os.trans h.c.os, hc.tape.trans h.c.tape, hc.output.trans h.c.output, Nat.le_trans h.c.size hc.size, fun b hb hn => (hc.block b (by omega) fun hx => by omega).trans (h.c.block b hb hn)⟩⟩
  obtain ⟨u, e1, e2⟩ := h.he j q hj hq
  exact ⟨u, e1, e2.loose hc⟩
theorem RingAt.loose {tag : Nat → Nat} {lo : Nat} {w8 wc : World} {rg : Nat} {av : Value} {R : RingM} {P : RgP} (h : RingAt tag w8 rg av R P) (hc : Chg (fun b => tag b = 98 ∧ lo ≤ b) w8 wc) : RingAt tag wc rg av R P := h.chg hc fun b hb => by have := h.bd.2; omega
theorem cal {S : Nat → Prop} {w5 w' : World} (h : Chg S w5 w') (o : Obj) : Chg S w5 (w'.alloc o) := h.alloc o
theorem csc {S : Nat → Prop} {w5 w' : World} {p : Addr} (hz : w5.heap.size ≤ p.block) (h : Chg S w5 w') (v : Value) : Chg S w5 (w'.setCell p v) := h.setCell (.inr hz) v
theorem csl {S : Nat → Prop} {w5 w' : World} {p : Addr} (hz : S p.block) (h : Chg S w5 w') (v : Value) : Chg S w5 (w'.setCell p v) := h.setCell (.inl hz) v
end Go.Proofs.Ytbdklfcgcmdgaaa
namespace Go.Proofs.Ytbdklfcgcmdgaaa
open Go.RowKit
set_option linter.unusedVariables false
set_option linter.unusedSimpArgs false

theorem app_sent : AppOk Try.prog 103 102 1 := appOk_of Try.underlying103 (by kernel_rfl)
theorem TickAt.mono {S S' : Nat → Prop} {w : World} {v : Value} {N : Nat} {W : WordsM} (h : TickAt S w v N W) (hs : ∀ b, b < w.heap.size → S b → S' b) : TickAt S' w v N W := by
  obtain ⟨g, c, h1, h2, h3, h4, h5, h6⟩ := h
  refine ⟨g, c, h1, hs g h3 h2, h3, h4, h5, fun i k hi hk' => ?_⟩
  obtain ⟨u, e1, e2⟩ := h6 i k hi hk'
  exact ⟨u, e1, e2.mono hs⟩
def sealB (tag : Nat → Nat) (g b : Nat) : Nat := if b = g then 0 else tag b
/-- the words' block is read alone from now on -/
theorem OutB.seal {tag0 : Nat → Nat} {w : World} {N : Nat} {f : WordsM} {tag : Nat → Nat} {g : Nat} {wr : World} (h : OutB tag0 w N f tag g wr) {rg : Nat} {av : Value} {R : RingM} {P : RgP} (hr : RingAt tag wr rg av R P) {cap : Nat} (hc1 : N ≤ cap) (hc2 : cap ≤ maxLen) :
    RingAt (sealB tag g) wr rg av R P ∧ TickAt (Sn (sealB tag g) wr) wr (.slice (some ⟨g, 0, none⟩) N cap) N f ∧ (∀ b, b < w.heap.size → sealB tag g b = tag0 b) := by
  have hlt := h.lt
  refine ⟨hr.seal fun b => ?_, ⟨g, cap, rfl, ⟨if_pos rfl, hlt⟩, hlt, hc1, hc2, fun i k hi hk => ?_⟩, fun b hb => ?_⟩
  · by_cases hb : b = g
    · subst hb; exact .inr ⟨h.tv, if_pos rfl, hlt⟩
    · exact .inl (if_neg hb)
  · obtain ⟨u, e1, e2⟩ := h.cell hi hk
    exact ⟨u, e1, e2.mono fun b _ hb => ⟨by unfold sealB; split; rfl; exact hb.1, hb.2⟩⟩
  · have := h.ge
    unfold sealB
    rw [if_neg (by omega)]
    exact h.lo b hb
theorem RingAt.sentPush {tag : Nat → Nat} {w w3 : World} {rg : Nat} {av : Value} {R : RingM} {P : RgP} (h : RingAt tag w rg av R P) {tv : Value} {W : WordsM} (hW : TickAt (Sn tag w) w tv R.N W) {xs : List Value} (hx1 : xs.length = R.sent.length) (hown : w.ownsRow 0 102 1 P.sv xs.length xs) (hx3 : ∀ (t : Nat) (x : Value) (W : WordsM), xs[t]? = some x → R.sent[t]? = some W → TickAt (Sn tag w) w x R.N W)
    {o : Obj} (hg : (w.alloc o).grownBy w3 P.sv.ownBlock) {g cap : Nat} (ho : w3.ownsRow 0 102 1 (.slice (some ⟨g, 0, none⟩) (xs.length + 1) cap) (xs.length + 1) (xs ++ [tv])) (hlie : P.sv.ownBlock = some g ∨ g = (w.alloc o).heap.size) :
    RingAt (tagR tag w.heap.size w3.heap.size (R.N + 1)) (w3.setCell ⟨rg, 7, none⟩ (.slice (some ⟨g, 0, none⟩) (xs.length + 1) cap)) rg av { R with sent := R.sent ++ [W] } { P with sv := .slice (some ⟨g, 0, none⟩) (xs.length + 1) cap } := by
  have hN := h.bd.2
  have hne := h.ne
  have hs2 : (w.alloc o).heap.size = w.heap.size + 1 := by simp
  have hs3 := hg.size
  have hgl := (ho.lt g rfl).2
  obtain ⟨cur, h1, h2, h3⟩ := h.l
  have hss : (w3.setCell ⟨rg, 7, none⟩ (.slice (some ⟨g, 0, none⟩) (xs.length + 1) cap)).heap.size = w3.heap.size := by simp
  have hsv := h.sv_ne
  have k1 : ∀ b, b < w.heap.size → P.sv.ownBlock ≠ some b → w3.heap[b]? = w.heap[b]? := fun b hbl hne => (hg.block b (by omega) (fun e => hne e.symm)).trans (Below.heap_alloc _ _ _ hbl)
  have k2 : ∀ b, b ≠ rg → (w3.setCell ⟨rg, 7, none⟩ (.slice (some ⟨g, 0, none⟩) (xs.length + 1) cap)).heap[b]? = w3.heap[b]? := fun b hne => Below.heap_setCell _ _ _ _ hne
  have hrgl := h.b.lt
  have hgrg : g ≠ rg := by
    rintro rfl
    rcases hlie with e | e
    · exact (hsv _ e).2.1 rfl
    · omega
  have lo : ∀ b, b < w.heap.size → tagR tag w.heap.size w3.heap.size (R.N + 1) b = tag b := fun b hb => tagR_lo hb
  have hk : ∀ b, b < w.heap.size → tag b ≠ R.N + 1 → (w3.setCell ⟨rg, 7, none⟩ (.slice (some ⟨g, 0, none⟩) (xs.length + 1) cap)).heap[b]? = w.heap[b]? := fun b hb ht => (k2 b (by rintro rfl; exact ht h.tr)).trans (k1 b hb fun e => ht (h.ts b e))
  have hS : ∀ b, Sn tag w b → Sn (tagR tag w.heap.size w3.heap.size (R.N + 1)) (w3.setCell ⟨rg, 7, none⟩ (.slice (some ⟨g, 0, none⟩) (xs.length + 1) cap)) b := fun b hb => ⟨by rw [lo b hb.2]; exact hb.1, by rw [hss]; have := hb.2; omega⟩
  have hSk : ∀ b, Sn tag w b → b < w.heap.size → (w3.setCell ⟨rg, 7, none⟩ (.slice (some ⟨g, 0, none⟩) (xs.length + 1) cap)).heap[b]? = w.heap[b]? := fun b hb hl => hk b hl (by rw [hb.1]; omega)
  have hT : ∀ {v : Value} {W : WordsM}, TickAt (Sn tag w) w v R.N W → TickAt (Sn (tagR tag w.heap.size w3.heap.size (R.N + 1)) (w3.setCell ⟨rg, 7, none⟩ (.slice (some ⟨g, 0, none⟩) (xs.length + 1) cap))) (w3.setCell ⟨rg, 7, none⟩ (.slice (some ⟨g, 0, none⟩) (xs.length + 1) cap)) v R.N W := fun {v W} hv =>
    (hv.keep (by rw [hss]; omega) hSk).mono fun b _ hb => hS b hb
  have hb3 : Blk w3 rg 105 (ringV R av P).toArray := (k1 rg hrgl fun e => (hsv rg e).2.1 rfl).trans h.b
  refine ⟨hb3.set_ 7 _, ⟨cur, (k2 _ (fun e => hne.1 e.symm)).trans ((k1 _ h1.lt fun e => (hsv _ e).2.2.1 rfl).trans h1), h2, h3⟩, h.lc, (k2 _ (fun e => hne.2.1 e.symm)).trans ((k1 _ h.o.lt fun e => (hsv _ e).2.2.2 rfl).trans h.o), fun i hi => ?_, ⟨xs ++ [tv], by simp [hx1], ?_, fun t x W' hx hW' => ?_⟩, by rw [lo _ hrgl]; exact h.tr, by rw [lo _ h1.lt]; exact h.tl, by rw [lo _ h.o.lt]; exact h.tog, fun b hb => ?_, ?_, h.fl, h.bd, fun b hb => by rw [hss] at hb; rw [tagR_hi hb]; exact h.tg b (by omega)⟩
  · have hi' : i < R.N := hi
    have hla := h.la i hi
    refine ⟨(hla.1.keep (by rw [hss]; omega) fun b hb hl => hk b hl (by omega)).mono (fun b hb => ?_) (fun b hb => ?_), hla.2⟩
    · have hbl : b < w.heap.size := hla.1.lt b hb
      rw [lo b hbl]; exact hb
    · rw [hss]
      by_cases hbm : b < w3.heap.size
      · exact hbm
      · rw [tagR_hi (by omega), h.tg b (by omega)] at hb; omega
  · have hl : (xs ++ [tv]).length = xs.length + 1 := by simp
    rw [hl]
    exact own_block ho fun b hb => by
      simp only [Value.ownBlock, Option.some.injEq] at hb
      subst hb
      exact k2 _ hgrg
  · by_cases ht : t < xs.length
    · rw [List.getElem?_append_left ht] at hx
      rw [List.getElem?_append_left (by omega)] at hW'
      exact hT (hx3 t x W' hx hW')
    · rw [List.getElem?_append_right (by omega)] at hx hW'
      rw [hx1] at hx
      by_cases h0 : t - R.sent.length = 0
      · rw [h0] at hx hW'
        simp at hx hW'
        subst hx hW'
        exact hT hW
      · rw [List.getElem?_eq_none (by simp; omega)] at hx; cases hx
  · simp only [Value.ownBlock, Option.some.injEq] at hb
    subst hb
    rcases hlie with e | e
    · rw [lo g (hsv g e).1]; exact h.ts g e
    · exact tagR_in (by omega) (by omega)
  · obtain ⟨a, an, ac, r1, r2, r3⟩ := h.ac
    exact ⟨a, an, ac, r1, (r2.keep (by rw [hss]; omega) hSk).mono fun b _ hb => hS b hb, r3⟩
end Go.Proofs.Ytbdklfcgcmdgaaa
namespace Go.Proofs.Ytbdklfcgcmdgaaa
open Go.RowKit
set_option linter.unusedVariables false
set_option linter.unusedSimpArgs false

theorem out_round {tag0 tag : Nat → Nat} {w wq w6 : World} {rg : Nat} {av : Value} {R R' : RingM} {own : Nat → Rw} {i k g : Nat} {P : RgP} {N : Nat} (hr : RingAt tag wq rg av R' P) (ho : OutB tag0 w N (R.outK own i k) tag g wq) (hi : i < N) (hk : k < 4) (hb : Below wq.heap.size wq w6)
    {u : Value} (hu : WdAt (fun b => Sn tag wq b ∨ wq.heap.size ≤ b) w6 u (R.outM own i k)) :
    ∃ tag', RingAt tag' (w6.setCell ⟨g, i * 4 + k, none⟩ u) rg av R' P ∧ OutB tag0 w N (R.outK own i (k + 1)) tag' g (w6.setCell ⟨g, i * 4 + k, none⟩ u) ∧ (∀ {v : Value} {l : List Rw}, WdAt (Sn tag wq) wq v l → WdAt (Sn tag' (w6.setCell ⟨g, i * 4 + k, none⟩ u)) (w6.setCell ⟨g, i * 4 + k, none⟩ u) v l) := by
  have hs := hb.size
  have h16 := hr.bd.2
  have r6 := (hr.below hb).seal (tag' := tagR tag wq.heap.size w6.heap.size 0) fun b => by
    by_cases hbb : wq.heap.size ≤ b ∧ b < w6.heap.size
    · exact .inr ⟨hr.tg b hbb.1, tagR_in hbb.1 hbb.2, hbb.2⟩
    · exact .inl (if_neg hbb)
  have o6 := ho.below hb (tag' := tagR tag wq.heap.size w6.heap.size 0) (fun b hb => tagR_lo hb) r6.tg
  have hup : ∀ b, Sn tag wq b → Sn (tagR tag wq.heap.size w6.heap.size 0) w6 b := fun b hb => ⟨by rw [tagR_lo hb.2]; exact hb.1, by have := hb.2; omega⟩
  have hu6 : WdAt (Sn (tagR tag wq.heap.size w6.heap.size 0) w6) w6 u (R.outM own i k) := hu.mono fun b hbl hb => by
    rcases hb with hb | hb
    · exact hup b hb
    · exact ⟨tagR_in hb hbl, hbl⟩
  have hg := o6.tv
  have hc : Chg (· = g) w6 (w6.setCell ⟨g, i * 4 + k, none⟩ u) := (Chg.refl _ _).set_at _ u
  refine ⟨_, r6.chg hc fun b hb => by subst hb; omega, o6.put hi hk hu6 (by unfold RingM.outK; rw [if_pos (by omega)]) fun j q hj hq hne => ?_, fun {v l} hv => ?_⟩
  · unfold RingM.outK
    by_cases h1 : j < i ∨ j = i ∧ q < k
    · rw [if_pos h1, if_pos (by omega)]
    · rw [if_neg h1, if_neg (by omega)]
  · have h1 := (hv.below hb).mono (S' := Sn (tagR tag wq.heap.size w6.heap.size 0) w6) fun b _ hb => hup b hb
    exact (h1.keep hc.size fun b hb hl => hc.block b hl fun e => by subst e; have := hb.1; omega).mono fun b _ hb => ⟨hb.1, by have := hb.2; have := hc.size; omega⟩
theorem word_len {R : RingM} {own : Nat → Rw} {i : Nat} (h : (R.lane i).n ≤ 16) (q : Nat) : (R.word own i q).length ≤ 16 := by
  unfold RingM.word
  split
  · unfold LaneM.out; rw [tab_len, (said_n _ _).1]; exact h
  · simp
theorem outK_out {tag0 tag : Nat → Nat} {w wr : World} {N g : Nat} {R : RingM} {own : Nat → Rw} (h : OutB tag0 w N (R.outK own N 0) tag g wr) : OutB tag0 w N (R.outM own) tag g wr := by
  obtain ⟨cur, b1, b2, b3⟩ := h.b
  refine ⟨⟨cur, b1, b2, fun j q hj hq => ?_⟩, h.tv, h.ge, h.lo, h.hi, h.c⟩
  obtain ⟨u, e1, e2⟩ := b3 j q hj hq
  refine ⟨u, e1, ?_⟩
  have e : R.outK own N 0 j q = R.outM own j q := by unfold RingM.outK; rw [if_pos (.inl hj)]
  rwa [e] at e2
/-- the call that says what goes out, at a node's link -/
theorem said_node {tag : Nat → Nat} {wq w' : World} {rg : Nat} {av : Value} {R : RingM} {own : Nat → Rw} {P : RgP} (hr : RingAt tag wq rg av (R.sayK own R.N) P) (hlen : R.sent.length ≤ 1000000) {i k : Nat} (hi : i < R.N) (hk : k < 4) (hb : Below wq.heap.size wq w')
    {u v : Value} {W O : List Rw} (hu : WdAt (Sn tag wq) wq u W) (hv : WdAt (Sn tag wq) wq v O) (hW : W.length ≤ 16) :
    Calls Try.prog 62 #[.pointer (some ⟨rg, 0, none⟩), .int .i64 i, .int .i64 k, .agg #[u], .agg #[v]] w' (SaidPost (Sn tag wq) (R.saidM i k W O) w') := by
  have h2 := hr.below hb
  obtain ⟨c0, c1, c2, c3, c4, -, -, c7⟩ := h2.cells
  obtain ⟨a, an, ac, rfl, ha, ha1, ha2, ha3⟩ := hr.ac
  exact ringSaid_any (Sn tag wq) rg (R.sayK own R.N) P.sv u v a an ac i k W O w' c0 c1 c2 c3 c4 c7 h2.b.lt hr.bd.1 hr.bd.2 hi hk hr.fl.1 hr.fl.2 (ha.below hb) ha1 ha2 ha3 (hr.s.below hb) hlen (fun b hb' => Nat.lt_of_lt_of_le hb'.2 hb.size) (hu.below hb) (hv.below hb) (by omega)
end Go.Proofs.Ytbdklfcgcmdgaaa
