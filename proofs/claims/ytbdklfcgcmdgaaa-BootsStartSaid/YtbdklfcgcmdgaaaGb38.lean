/-
  Lists that a law over a ring keeps: a list that grows, of whatever; cells in a block of the call's own; rows whose cells are set. AgreesRing, AgreesOff: the ring with a list of cells beside it; rows with their cells set one by one.
-/
import Derived.Test.YtbdklfcgcmdgaaaGb35
import Derived.Test.YtbdklfcgcmdgaaaGb37
namespace Go.Proofs.Ytbdklfcgcmdgaaa
open Go.RowKit
set_option linter.unusedVariables false
set_option linter.unusedSimpArgs false

/-! ### a list that grows -/
structure GrowL (base : Nat) (e : TypeId) (Q : Nat → World → Value → Prop) (tag : Nat → Nat) (k : Nat) (v : Value) (xs : List Value) (wr : World) : Prop where
  own : wr.ownsRow base e 1 v k xs
  tv : ∀ g, v.ownBlock = some g → tag g = 98
  he : ∀ j, j < k → ∃ u, xs[j]? = some u ∧ Q j wr u
section
variable {base : Nat} {e : TypeId} {Q Q' : Nat → World → Value → Prop} {tag : Nat → Nat} {k : Nat} {v : Value} {xs : List Value} {wr wm w3 : World}
theorem GrowL.start (base : Nat) (e : TypeId) (Q : Nat → World → Value → Prop) (tag : Nat → Nat) (wr : World) : GrowL base e Q tag 0 (.slice none 0 0) [] wr := ⟨World.ownsRow_nil _ _ _ _, fun g hg => by simp [Value.ownBlock] at hg, fun j hj => absurd hj (by omega)⟩
theorem GrowL.move (h : GrowL base e Q tag k v xs wr) {S : Nat → Prop} (hc : Chg S wr wm) (hS : ∀ b, b < wr.heap.size → S b → v.ownBlock ≠ some b) {tag' : Nat → Nat} (ht : ∀ b, b < wr.heap.size → tag' b = tag b) (hQ : ∀ j u, Q j wr u → Q' j wm u) : GrowL base e Q' tag' k v xs wm := by
  refine ⟨own_block h.own fun b hb => hc.block b (h.own.lt b hb).2 fun hs => hS b (h.own.lt b hb).2 hs hb, fun g hg => by rw [ht g (h.own.lt g hg).2]; exact h.tv g hg, fun j hj => ?_⟩
  obtain ⟨u, e1, e2⟩ := h.he j hj
  exact ⟨u, e1, hQ j u e2⟩
theorem GrowL.push (h : GrowL base e Q tag k v xs wr) {u : Value} (hu : Q' k w3 u) {o : Obj} (hg : (wr.alloc o).grownBy w3 v.ownBlock) {g cap : Nat} (htg : ∀ b, wr.heap.size ≤ b → tag b = 98) (hQ : ∀ j u, Q j wr u → Q' j w3 u)
    (ho : w3.ownsRow base e 1 (.slice (some ⟨g, 0, none⟩) (k + 1) cap) (k + 1) (xs ++ [u])) (hlie : v.ownBlock = some g ∨ g = (wr.alloc o).heap.size) : GrowL base e Q' tag (k + 1) (.slice (some ⟨g, 0, none⟩) (k + 1) cap) (xs ++ [u]) w3 := by
  have hs2 : (wr.alloc o).heap.size = wr.heap.size + 1 := by simp
  have hxl : xs.length = k := by have := h.own.1; omega
  refine ⟨ho, fun g' hg' => ?_, fun j hj => ?_⟩
  · simp only [Value.ownBlock, Option.some.injEq] at hg'
    subst hg'
    rcases hlie with e | e
    · exact h.tv g e
    · exact htg g (by omega)
  · by_cases hjk : j < k
    · obtain ⟨u', e1, e2⟩ := h.he j hjk
      exact ⟨u', by rw [List.getElem?_append_left (by omega)]; exact e1, hQ j u' e2⟩
    · have : j = k := by omega
      subst this
      exact ⟨u, by rw [List.getElem?_append_right (by omega), hxl]; simp, hu⟩
theorem GrowL.at_ (h : GrowL base e Q tag k v xs wr) {j : Nat} (hj : j < k) : ∃ g cap u, v = .slice (some ⟨g, 0, none⟩) k cap ∧ k ≤ cap ∧ cap ≤ maxLen ∧ g < wr.heap.size ∧ wr.cell? ⟨g, j, none⟩ = some u ∧ Q j wr u := by
  rcases h.own.2 with ⟨-, h0⟩ | ⟨g, cap, cur, rfl, g1, g2, g3, g4, g5, g6⟩
  · omega
  · obtain ⟨u, e1, e2⟩ := h.he j hj
    refine ⟨g, cap, u, rfl, g3, g4, lt_of_some g2, ?_, e2⟩
    rw [cell_of_row wr g _ cur _ (0, 0) g2]
    have e1' : cur[j]? = (cur.toList.take (k * 1))[j]? := by rw [List.getElem?_take, if_pos (by omega)]; simp
    rw [e1', g6, e1]
end
/-! ### cells in a block of the call's own -/
def CellsI (g : Nat) (f : Nat → List Value) (N k : Nat) (w : World) : Prop :=
  ∃ L : List (List Value), Blk w g 51 L.flatten.toArray ∧ L.length = N ∧ (∀ c ∈ L, c.length = 55) ∧ ∀ s, s < N → L[s]? = some (if s < k then f s else cellZ)
theorem len_flat55 {L : List (List Value)} (h : ∀ c ∈ L, c.length = 55) : L.flatten.length = L.length * 55 := by
  induction L with
  | nil => rfl
  | cons c L ih => rw [List.flatten_cons, List.length_append, h c (by simp), ih (fun x hx => h x (by simp [hx])), List.length_cons]; omega
theorem flat55_set {L : List (List Value)} (h : ∀ c ∈ L, c.length = 55) {k : Nat} (hk : k < L.length) {c : List Value} (hc : c.length = 55) : L.flatten.take (k * 55) ++ c ++ L.flatten.drop (k * 55 + c.length) = (L.set k c).flatten := by
  rw [hc]
  induction L generalizing k with
  | nil => simp at hk
  | cons x L ih =>
    have hx := h x (by simp)
    cases k with
    | zero => simp [← hx]
    | succ k =>
      have := ih (fun z hz => h z (by simp [hz])) (k := k) (by simpa using hk)
      simp only [List.set_cons_succ, List.flatten_cons]
      rw [← this, show (k + 1) * 55 = x.length + k * 55 from by omega, List.take_append, List.drop_append]
      simp [Nat.add_sub_cancel_left, List.take_of_length_le (show x.length ≤ x.length + k * 55 by omega), Nat.add_assoc]
theorem flat55_at {L : List (List Value)} (h : ∀ c ∈ L, c.length = 55) {k j : Nat} {c : List Value} (hk : L[k]? = some c) (hj : j < 55) : L.flatten[k * 55 + j]? = c[j]? := by
  induction L generalizing k with
  | nil => simp at hk
  | cons x L ih =>
    have hx := h x (by simp)
    rw [List.flatten_cons]
    cases k with
    | zero =>
      simp at hk
      subst hk
      rw [List.getElem?_append_left (by omega)]
      congr 1; omega
    | succ k =>
      rw [List.getElem?_append_right (by omega), hx, show (k + 1) * 55 + j - 55 = k * 55 + j from by omega]
      exact ih (fun z hz => h z (by simp [hz])) (by simpa using hk)
theorem CellsI.start (W : World) (f : Nat → List Value) (N : Nat) : CellsI W.heap.size f N 0 (W.alloc (.cells (zrep cellZ N).toArray 51)) :=
  ⟨List.replicate N cellZ, Blk.new _ _ _, by simp, fun c hc => by rw [(List.mem_replicate.1 hc).2]; kernel_rfl, fun s hs => by simp [List.getElem?_replicate, hs]⟩
theorem CellsI.keep {g N k : Nat} {f : Nat → List Value} {w w' : World} (h : CellsI g f N k w) (hb : w'.heap[g]? = w.heap[g]?) : CellsI g f N k w' := by
  obtain ⟨L, h1, h2⟩ := h
  exact ⟨L, hb.trans h1, h2⟩
theorem CellsI.lt {g N k : Nat} {f : Nat → List Value} {w : World} (h : CellsI g f N k w) : g < w.heap.size := by
  obtain ⟨L, h1, -⟩ := h
  exact h1.lt
theorem CellsI.step {g N k : Nat} {f : Nat → List Value} {w : World} (h : CellsI g f N k w) (hk : k < N) (hf : (f k).length = 55) : canPut w ⟨g, k * 55, none⟩ 55 = true ∧ CellsI g f N (k + 1) (putRow w ⟨g, k * 55, none⟩ (f k)) := by
  obtain ⟨L, h1, h2, h3, h4⟩ := h
  have hl := len_flat55 h3
  have hin : k * 55 + 55 ≤ L.length * 55 := by
    have : (k + 1) * 55 ≤ L.length * 55 := Nat.mul_le_mul_right _ (by omega)
    omega
  refine ⟨by rw [h1.rules.2.2.2.2, hl]; simp; omega, L.set k (f k), ?_, by simpa using h2, fun c hc => ?_, fun s hs => ?_⟩
  · have := h1.put (k * 55) (f k)
    rwa [flat55_set h3 (by omega) hf] at this
  · rcases List.mem_or_eq_of_mem_set hc with hc | rfl
    · exact h3 c hc
    · exact hf
  · rw [List.getElem?_set]
    by_cases hsk : k = s
    · subst hsk; rw [if_pos rfl, if_pos (by omega), if_pos (by omega)]
    · rw [if_neg hsk, h4 s hs]
      by_cases hlt : s < k
      · rw [if_pos hlt, if_pos (by omega)]
      · rw [if_neg hlt, if_neg (by omega)]
/-- one cell, read -/
theorem CellsI.at_ {g N : Nat} {f : Nat → List Value} {w : World} (h : CellsI g f N N w) {s : Nat} (hs : s < N) : hasRow w ⟨g, s * 55, none⟩ 55 = true ∧ rowOf w ⟨g, s * 55, none⟩ 55 = f s := by
  obtain ⟨L, h1, h2, h3, h4⟩ := h
  have hk := h4 s hs
  rw [if_pos hs] at hk
  have hfl := h3 _ (List.mem_of_getElem? hk)
  have := row_of_cells (w := w) (p := ⟨g, s * 55, none⟩) (l := f s) (fun j v hv => by
    have hj : j < 55 := by rw [← hfl]; exact (List.getElem?_eq_some_iff.1 hv).1
    rw [add_at, h1.cell]
    simp only [List.getElem?_toArray]
    rw [flat55_at h3 hk hj, hv])
  rwa [hfl] at this
theorem mk_cells : MakeOk Try.prog 108 51 cellZ := ⟨Try.underlying108, by kernel_rfl, by rw [len_cellZ]; decide⟩
@[go_sem ↓] theorem ms_cells (ρ : Operand → Value) (d : Option Tmp) (x y : Operand) (ty : TypeId) (s : String) (af : Array Edge) (g : Option (Nat × Bool)) (w : World) (h : madeOk (ρ x) (ρ y) = true) :
    (execOp ρ { dst := d, op := .makeSlice 108 x y, type := ty, pos := s, after := af, guard := g }).run Try.prog w =
      .ok (.value (.slice (some ⟨w.heap.size, 0, none⟩) (lenV (ρ x)) (lenV (ρ x)))) (w.alloc (.cells (zrep cellZ (lenV (ρ x))).toArray 51)) := exec_make mk_cells ρ d x y ty s af g w h
/-! ### rows in a block of the call's own, whose cells are set -/
theorem flatP_cellset {ps : List (Rw × Value)} (h : ∀ p ∈ ps, p.1.ok) {k : Nat} {r : Rw} {tv : Value} (hk : ps[k]? = some (r, tv)) {c : List Value} (hc : c.length = 55) :
    (flatP ps).take (k * 57 + 1) ++ c ++ (flatP ps).drop (k * 57 + 1 + c.length) = flatP (ps.set k (⟨r.is, c, r.t⟩, tv)) := by
  induction ps generalizing k with
  | nil => simp at hk
  | cons y l ih =>
    have hy := Rw.len (h y (by simp)) y.2
    have hyc : y.1.c.length = 55 := by have := hy; unfold Rw.vals at this; simp at this; omega
    cases k with
    | zero =>
      simp at hk
      subst hk
      simp only [Nat.zero_mul, Nat.zero_add, List.set_cons_zero, flatP, List.flatMap_cons, Rw.vals]
      simp only [List.cons_append, List.append_assoc, List.take_succ_cons, List.take_zero, List.nil_append, hc, show 1 + 55 = 55 + 1 from rfl, List.drop_succ_cons]
      congr 2
      rw [← hyc, List.drop_left]
    | succ k =>
      have := ih (fun z hz => h z (by simp [hz])) (k := k) (by simpa using hk)
      simp only [List.set_cons_succ, flatP, List.flatMap_cons] at this ⊢
      rw [← this]
      rw [show (k + 1) * 57 + 1 = (y.1.vals y.2).length + (k * 57 + 1) from by omega, List.take_append, List.drop_append]
      simp [Nat.add_sub_cancel_left, List.take_of_length_le (show (y.1.vals y.2).length ≤ (y.1.vals y.2).length + (k * 57 + 1) by omega), Nat.add_assoc]
theorem HB.setCell_ {W : World} {g : Nat} {S : Nat → Prop} {ps : List (Rw × Value)} {w : World} (h : HB W g S ps w) {k : Nat} {r : Rw} {tv : Value} (hk : ps[k]? = some (r, tv)) {c : List Value} (hc : okL cellK c = true) :
    canPut w ⟨g, k * 57 + 1, none⟩ 55 = true ∧ HB W g S (ps.set k (⟨r.is, c, r.t⟩, tv)) (putRow w ⟨g, k * 57 + 1, none⟩ c) := by
  obtain ⟨rest, hb⟩ := h.b
  have hok : ∀ p ∈ ps, p.1.ok := fun p hp => (h.ps p hp).1
  have hl := len_flatP hok
  have hcl : c.length = 55 := by rw [okL_len hc]; rfl
  have hkl : k < ps.length := (List.getElem?_eq_some_iff.1 hk).1
  have hin : k * 57 + 57 ≤ ps.length * 57 := by
    have : (k + 1) * 57 ≤ ps.length * 57 := Nat.mul_le_mul_right _ (by omega)
    omega
  have hkp : ∀ {r' : Rw} {tv' : Value}, RowR S w r' tv' → RowR S (putRow w ⟨g, k * 57 + 1, none⟩ c) r' tv' := fun {r' tv'} h' => h'.keep (by simp) (fun b hSb _ => putRow_other _ _ _ _ (by rintro rfl; exact h.no hSb))
  have hkm := h.ps _ (List.mem_of_getElem? hk)
  refine ⟨?_, ⟨⟨rest, ?_⟩, fun p hp => ?_, h.lt, h.no, Below.put h.bel (p := ⟨g, k * 57 + 1, none⟩) h.lt _⟩⟩
  · rw [hb.rules.2.2.2.2, List.length_append, hl]; simp; omega
  · have h2 := hb.put (k * 57 + 1) c
    have hs := flatP_cellset hok hk hcl
    rw [List.take_append_of_le_length (by omega), List.drop_append_of_le_length (by omega), ← List.append_assoc, hs] at h2
    exact h2
  · rcases List.mem_or_eq_of_mem_set hp with hp | rfl
    · exact ⟨hok p hp, hkp (h.ps p hp).2⟩
    · refine ⟨⟨hc, hkm.1.2⟩, hkp ?_⟩
      obtain ⟨x, m, cap, q1, q2, q3⟩ := hkm.2
      exact ⟨x, m, cap, q1, q2, q3⟩
end Go.Proofs.Ytbdklfcgcmdgaaa
namespace Go.Proofs.Ytbdklfcgcmdgaaa
open Go.RowKit
set_option linter.unusedVariables false
set_option linter.unusedSimpArgs false

section
variable (ρ : Operand → Value) (d : Option Tmp) (x u : Operand) (ty : TypeId) (s : String) (af : Array Edge) (g : Option (Nat × Bool)) (w : World)
@[go_sem ↓] theorem bk_row02' (h1 : lenC (ρ x) 1 = true) (h3 : lenC (ρ u) 1 = true) : (execOp ρ { dst := d, op := .build 54 #[(0, x), (2, u)], type := ty, pos := s, after := af, guard := g }).run Try.prog w = .ok (.value (.agg (cellsL (ρ x) ++ (cellZ ++ cellsL (ρ u))).toArray)) w := by
  have hl : (cellsL (ρ x)).length = 1 := by simpa [lenC] using h1
  have hl3 : (cellsL (ρ u)).length = 1 := by simpa [lenC] using h3
  have hz := len_cellZ
  refine exec_build ρ d _ ty s af g w ?_
  rw [built_of bt_row, fill_lay]
  · simp [lay, spl, rowZ, hl, hl3, hz, List.take_append, List.drop_append, List.take_of_length_le, List.drop_of_length_le]
  · simp [hl, hl3, len_rowZ]
    exact ⟨⟨_, _, ⟨rfl, rfl⟩, rfl, by omega⟩, ⟨_, _, ⟨rfl, rfl⟩, rfl, by omega⟩⟩
end

/-! ### rows being laid, their cells set -/
theorem HB.start' (W : World) (S : Nat → Prop) (hS : ¬ S W.heap.size) (n : Nat) : HB W W.heap.size S (List.replicate n (rw0, Value.slice none 0 0)) (W.alloc (.cells (zrep rowZ n).toArray 54)) := by
  refine ⟨⟨[], ?_⟩, fun p hp => ?_, Nat.le_refl _, hS, (Below.refl _ _).alloc (Nat.le_refl _) _⟩
  · rw [List.append_nil, flatP_rep]; exact Blk.new _ _ _
  · obtain ⟨-, rfl⟩ := List.mem_replicate.1 hp
    exact ⟨rw0_ok', rw0_row' _ _⟩
theorem OwnI.start' (W : World) (S : Nat → Prop) (hS : ¬ S W.heap.size) (h : Nat → Rw) (N : Nat) : OwnI W S h N 0 (W.alloc (.cells (zrep rowZ N).toArray 54)) :=
  ⟨_, by simp, fun s hs => ⟨.slice none 0 0, by simp [List.getElem?_replicate, hs]⟩, HB.start' W S hS N⟩
section
variable {W : World} {S : Nat → Prop} {h h' : Nat → Rw} {N i : Nat} {wr w' : World}
theorem OwnI.keepB (hh : OwnI W S h N i wr) (hb : Below wr.heap.size wr w') : OwnI W S h N i w' := by
  obtain ⟨ps, p1, p2, p3⟩ := hh
  obtain ⟨rest, hk⟩ := p3.b
  exact ⟨ps, p1, p2, ⟨rest, hk.below hb hk.lt⟩, fun p hp => ⟨(p3.ps p hp).1, (p3.ps p hp).2.keep hb.size fun b hS hl => hb.block b hl⟩, p3.lt, p3.no, p3.bel.trans (hb.mono p3.bel.size)⟩
theorem OwnI.congr (hh : OwnI W S h N i wr) (e : ∀ s, s < i → h s = h' s) : OwnI W S h' N i wr := by
  obtain ⟨ps, p1, p2, p3⟩ := hh
  refine ⟨ps, p1, fun s hs => ?_, p3⟩
  obtain ⟨tv, hp⟩ := p2 s hs
  refine ⟨tv, ?_⟩
  rw [hp]
  by_cases hlt : s < i
  · rw [if_pos hlt, if_pos hlt, e s hlt]
  · rw [if_neg hlt, if_neg hlt]
theorem OwnI.otherB (hh : OwnI W S h N i wr) {g2 : Nat} (hc : Chg (· = g2) wr w') (h1 : W.heap.size ≠ g2) (h2 : ¬ S g2) (h3 : W.heap.size ≤ g2) : OwnI W S h N i w' := by
  obtain ⟨ps, p1, p2, p3⟩ := hh
  obtain ⟨rest, hb⟩ := p3.b
  exact ⟨ps, p1, p2, ⟨rest, hb.chg hc h1⟩, fun p hp => ⟨(p3.ps p hp).1, (p3.ps p hp).2.keep hc.size fun b hb hl => hc.block b hl fun e => h2 (e ▸ hb)⟩, p3.lt, p3.no, p3.bel.trans (hc.below p3.bel.size fun b hb => by subst hb; exact h3)⟩
theorem OwnI.skipB (hh : OwnI W S h N i wr) (hr : h i = rw0) : OwnI W S h N (i + 1) wr := by
  obtain ⟨ps, p1, p2, p3⟩ := hh
  refine ⟨ps, p1, fun s hs => ?_, p3⟩
  obtain ⟨tv, e⟩ := p2 s hs
  refine ⟨tv, ?_⟩
  rw [e]
  by_cases hsi : s = i
  · subst hsi; rw [if_neg (by omega), if_pos (by omega), hr]
  · by_cases hlt : s < i
    · rw [if_pos hlt, if_pos (by omega)]
    · rw [if_neg hlt, if_neg (by omega)]
/-- the cell of a row that is laid, set -/
theorem OwnI.setCell (hh : OwnI W S h N i wr) {k : Nat} (hk : k < N) (hki : k < i) {c : List Value} (hc : okL cellK c = true) (h1 : h' k = ⟨(h k).is, c, (h k).t⟩) (h2 : ∀ s, s ≠ k → h' s = h s) :
    canPut wr ⟨W.heap.size, k * 57 + 1, none⟩ 55 = true ∧ OwnI W S h' N i (putRow wr ⟨W.heap.size, k * 57 + 1, none⟩ c) := by
  obtain ⟨ps, p1, p2, p3⟩ := hh
  obtain ⟨tv, hp⟩ := p2 k hk
  rw [if_pos hki] at hp
  obtain ⟨q1, q2⟩ := p3.setCell_ hp hc
  refine ⟨q1, _, by rw [List.length_set]; exact p1, fun s hs => ?_, q2⟩
  by_cases hsk : s = k
  · subst hsk
    exact ⟨tv, by rw [List.getElem?_set, if_pos rfl, if_pos (by omega), if_pos hki, h1]⟩
  · obtain ⟨tv', e⟩ := p2 s hs
    exact ⟨tv', by rw [List.getElem?_set, if_neg (fun e => hsk e.symm), e, h2 s hsk]⟩
/-- a row that is laid is a row -/
theorem OwnI.ok_at (hh : OwnI W S h N i wr) {k : Nat} (hk : k < N) (hki : k < i) : (h k).ok := by
  obtain ⟨ps, p1, p2, p3⟩ := hh
  obtain ⟨tv, hp⟩ := p2 k hk
  rw [if_pos hki] at hp
  exact (p3.ps _ (List.mem_of_getElem? hp)).1
/-- the cell of a row that is laid, read -/
theorem OwnI.cell_at (hh : OwnI W S h N i wr) {k : Nat} (hk : k < N) (hki : k < i) : W.heap.size < wr.heap.size ∧ hasRow wr ⟨W.heap.size, k * 57 + 1, none⟩ 55 = true ∧ rowOf wr ⟨W.heap.size, k * 57 + 1, none⟩ 55 = (h k).c := by
  have hok := hh.ok_at hk hki
  obtain ⟨ps, p1, p2, p3⟩ := hh
  obtain ⟨tv, hp⟩ := p2 k hk
  rw [if_pos hki] at hp
  have hr := p3.rd
  have hm : (ps.map Prod.fst)[k]? = some (h k) := by rw [List.getElem?_map, hp]; rfl
  obtain ⟨b, off, x, m, cap, e, hS, hb, g1, g2, g3, g4, g5⟩ := hr.2.2 k _ hm
  cases e
  have hcl : (h k).c.length = 55 := (okL_len hok.1).trans len_cellK
  have hall : ∀ j, j < 55 → wr.cell? ⟨W.heap.size, k * 57 + 1 + j, none⟩ = (h k).c[j]? := fun j hj => by
    have := rowOf_at g1 (1 + j) (by omega)
    rw [g2, add_at] at this
    simp only [Nat.zero_add] at this
    rw [show k * 57 + 1 + j = k * 57 + (1 + j) from by omega]
    refine this.trans ?_
    unfold Rw.vals
    rw [show 1 + j = j + 1 from by omega, List.getElem?_cons_succ, List.getElem?_append_left (by omega)]
  have := row_of_cells (w := wr) (p := ⟨W.heap.size, k * 57 + 1, none⟩) (l := (h k).c) (fun j v hv => by
    have hj : j < 55 := by rw [← hcl]; exact (List.getElem?_eq_some_iff.1 hv).1
    rw [add_at, hall j hj, hv])
  rw [hcl] at this
  exact ⟨hb, this⟩
end

/-! ### the ring, with a list of its own beside it -/
section
variable {w : World} {rg : Nat} {av : Value} {R : RingM} {tag : Nat → Nat} {P : RgP} {wr w4 w5 : World}
/-- what is new is read alone from now on; another list grows -/
theorem LSt.sealed {f : Nat → List Rw} (h : LSt f 0 w rg av R tag P (.slice none 0 0) [] wr) (hb : Below wr.heap.size wr w4) {v : Value} (htv : ∀ g, v.ownBlock = some g → w.heap.size ≤ g ∧ g < wr.heap.size ∧ tag g = 98) {o : Obj} (hg : (w4.alloc o).grownBy w5 v.ownBlock) :
    LSt f 0 w rg av R (tagR tag wr.heap.size w4.heap.size 0) P (.slice none 0 0) [] w5 := by
  have hz := h.bel.size
  have h1 := h.r.sealNew hb
  exact ⟨h1.grow hg fun g e => by rw [tagR_lo (htv g e).2.1]; exact (htv g e).2.2, WasB.start _ _ _ _, fun b hb => by rw [tagR_lo (by omega)]; exact h.lo b hb, ((h.bel.trans (hb.mono hz)).alloc (by have := hb.size; omega) _).grown hg (by have := hb.size; simp; omega) fun q hq => (htv q hq).1⟩
/-- a tick's cells, laid -/
def WasC (base : Nat) (C : Nat → Nat → List Value) (N : Nat) (tag : Nat → Nat) (j : Nat) (w : World) (u : Value) : Prop :=
  ∃ g, u = .slice (some ⟨g, 0, none⟩) N N ∧ base ≤ g ∧ g < w.heap.size ∧ tag g = 0 ∧ CellsI g (C j) N N w
theorem WasC.move {base : Nat} {C : Nat → Nat → List Value} {N : Nat} {tag tag' : Nat → Nat} {j : Nat} {w w' : World} {u : Value} (h : WasC base C N tag j w u) (hs : w.heap.size ≤ w'.heap.size) (hk : ∀ b, base ≤ b → b < w.heap.size → tag b = 0 → w'.heap[b]? = w.heap[b]? ∧ tag' b = 0) : WasC base C N tag' j w' u := by
  obtain ⟨g, h1, h2, h3, h4, h5⟩ := h
  exact ⟨g, h1, h2, by omega, (hk g h2 h3 h4).2, h5.keep (hk g h2 h3 h4).1⟩
end
/-! ### the list beside it, through what the ring does -/
section
variable {base : Nat} {C : Nat → Nat → List Value} {N M : Nat} {tag tag' : Nat → Nat} {k : Nat} {v : Value} {xs : List Value} {wr wm w3 : World}
/-- the list of what was said, as cells -/
def WasCs (base : Nat) (C : Nat → Nat → List Value) (N : Nat) (tag : Nat → Nat) (k : Nat) (v : Value) (xs : List Value) (wr : World) : Prop := GrowL base 108 (WasC base C N tag) tag k v xs wr
theorem WasCs.start (base : Nat) (C : Nat → Nat → List Value) (N : Nat) (tag : Nat → Nat) (wr : World) : WasCs base C N tag 0 (.slice none 0 0) [] wr := GrowL.start _ _ _ _ _
theorem WasCs.rgs (h : WasCs base C N tag k v xs wr) (hM : M ≤ 16) (hc : Chg (Rgs tag M) wr wm) (ht : ∀ b, b < wr.heap.size → tag' b = tag b) : WasCs base C N tag' k v xs wm :=
  GrowL.move h hc (fun b _ hb e => by have := h.tv b e; have := hb.2; omega) ht fun j u hu => hu.move hc.size fun b _ hl h0 => ⟨hc.block b hl fun hr => by have := hr.1; omega, by rw [ht b hl]; exact h0⟩
theorem WasCs.below (h : WasCs base C N tag k v xs wr) (hb : Below wr.heap.size wr wm) (ht : ∀ b, b < wr.heap.size → tag' b = tag b) : WasCs base C N tag' k v xs wm :=
  GrowL.move h (Chg.of_below hb fun _ => False) (fun _ _ h => h.elim) ht fun j u hu => hu.move hb.size fun b _ hl h0 => ⟨hb.block b hl, by rw [ht b hl]; exact h0⟩
/-- a store into a block of nobody's that is not the list's -/
theorem WasCs.own_ (h : WasCs base C N tag k v xs wr) {g : Nat} (hc : Chg (· = g) wr wm) (hg : tag g = 98) (hv : v.ownBlock ≠ some g) : WasCs base C N tag k v xs wm :=
  GrowL.move h hc (fun b _ hb e => by subst hb; exact hv e) (fun _ _ => rfl) fun j u hu => hu.move hc.size fun b _ hl h0 => ⟨hc.block b hl fun e => by subst e; omega, h0⟩
/-- a tick's cells are put to it -/
theorem WasCs.push (h : WasCs base C N tag k v xs wr) {cb : Nat} (h1 : base ≤ cb) (h2 : cb < wr.heap.size) (h3 : tag cb = 0) (hC : CellsI cb (C k) N N wr) {o : Obj} (hg : (wr.alloc o).grownBy w3 v.ownBlock) {g cap : Nat} (htg : ∀ b, wr.heap.size ≤ b → tag b = 98)
    (ho : w3.ownsRow base 108 1 (.slice (some ⟨g, 0, none⟩) (k + 1) cap) (k + 1) (xs ++ [.slice (some ⟨cb, 0, none⟩) N N])) (hlie : v.ownBlock = some g ∨ g = (wr.alloc o).heap.size) : WasCs base C N tag (k + 1) (.slice (some ⟨g, 0, none⟩) (k + 1) cap) (xs ++ [.slice (some ⟨cb, 0, none⟩) N N]) w3 := by
  have hs2 : (wr.alloc o).heap.size = wr.heap.size + 1 := by simp
  have hs3 := hg.size
  have hk : ∀ b, b < wr.heap.size → tag b = 0 → w3.heap[b]? = wr.heap[b]? := fun b hb h0 => (hg.block b (by omega) (fun e => by have := h.tv b e.symm; omega)).trans (Below.heap_alloc _ _ _ hb)
  exact GrowL.push h ⟨cb, rfl, h1, by omega, h3, hC.keep (hk cb h2 h3)⟩ hg htg (fun j u hu => hu.move (by omega) fun b _ hl h0 => ⟨hk b hl h0, h0⟩) ho hlie
end
/-- the cells that come in, by tick and node -/
def cellsC (X : List (List Value)) (N t s : Nat) : List Value := if X = [] then cellZ else X.getD ((t * N + s) % X.length) cellZ
theorem cellsC_ok {X : List (List Value)} (h : ∀ c ∈ X, okL cellK c = true) (N t s : Nat) : okL cellK (cellsC X N t s) = true := by
  unfold cellsC
  split
  · kernel_rfl
  · rename_i hn
    have hl : 0 < X.length := List.length_pos_iff.2 hn
    have hlt : (t * N + s) % X.length < X.length := Nat.mod_lt _ hl
    rw [List.getD_eq_getElem?_getD, List.getElem?_eq_getElem hlt]
    exact h _ (List.getElem_mem _)
theorem cellsC_at {X : List (List Value)} {N t s j : Nat} {c : List Value} (hj : (t * N + s) % X.length = j) (hc : X[j]? = some c) : cellsC X N t s = c := by
  unfold cellsC
  have hn : X ≠ [] := by rintro rfl; simp at hc
  rw [if_neg hn, hj, List.getD_eq_getElem?_getD, hc]; rfl
theorem cellsC_nil {X : List (List Value)} (h : X.length = 0) (N t s : Nat) : cellsC X N t s = cellZ := if_pos (List.eq_nil_of_length_eq_zero h)
/-- what a node that is on says, its cell not yet set -/
def rowT (l : List Rw) : Rw := ⟨true, cellZ, tabL l⟩
theorem rowT_ok {l : List Rw} (h : ∀ r ∈ l, r.ok) : (rowT l).ok := ⟨by kernel_rfl, tabL_ok h⟩
theorem rowT_vals (l : List Rw) (tv : Value) : (rowT l).vals tv = .bool true :: (cellZ ++ [tv]) := rfl
theorem app_clist : AppOk Try.prog 109 108 1 := appOk_of Try.underlying109 (by kernel_rfl)
end Go.Proofs.Ytbdklfcgcmdgaaa
