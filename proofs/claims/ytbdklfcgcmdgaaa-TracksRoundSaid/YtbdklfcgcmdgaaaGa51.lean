/-
  A law over a ring: its state between two statements.
-/
import Derived.Test.YtbdklfcgcmdgaaaGa50
namespace Go.Proofs.Ytbdklfcgcmdgaaa
open Go.RowKit
set_option linter.unusedVariables false
set_option linter.unusedSimpArgs false

/-- the ring, what was said, what came in -/
structure LSt (f : Nat → List Rw) (k : Nat) (w : World) (rg : Nat) (av : Value) (R : RingM) (tag : Nat → Nat) (P : RgP) (v : Value) (xs : List Value) (wr : World) : Prop where
  r : RingAt tag wr rg av R P
  was : WasB w.heap.size f tag k v xs wr
  lo : ∀ b, b < w.heap.size → tag b = 0
  bel : Below w.heap.size w wr
section
variable {f : Nat → List Rw} {k : Nat} {w : World} {rg : Nat} {av : Value} {R : RingM} {tag : Nat → Nat} {P : RgP} {v : Value} {xs : List Value} {wr wm : World}
theorem LSt.below (h : LSt f k w rg av R tag P v xs wr) (hb : Below wr.heap.size wr wm) : LSt f k w rg av R tag P v xs wm :=
  ⟨h.r.below hb, h.was.below hb fun _ _ => rfl, h.lo, h.bel.trans (hb.mono h.bel.size)⟩
/-- a store into a block of nobody's that is not the list's -/
theorem LSt.own_ (h : LSt f k w rg av R tag P v xs wr) {g : Nat} (hc : Chg (· = g) wr wm) (hg : tag g = 98) (hv : v.ownBlock ≠ some g) (hge : w.heap.size ≤ g) : LSt f k w rg av R tag P v xs wm :=
  ⟨h.r.chg hc fun b hb => by subst hb; have := h.r.bd.2; omega, h.was.move hc (fun b _ hb => by subst hb; exact ⟨by omega, hv⟩) fun _ _ => rfl, h.lo, h.bel.trans (hc.below h.bel.size fun b hb => by subst hb; exact hge)⟩
theorem rgs_below (h : LSt f k w rg av R tag P v xs wr) (hc : Chg (Rgs tag R.N) wr wm) : Below w.heap.size w wm :=
  h.bel.trans (hc.below h.bel.size fun b hb => by
    rcases Nat.lt_or_ge b w.heap.size with h1 | h1
    · have := h.lo b h1; have := hb.1; omega
    · exact h1)
theorem LSt.hear (h : LSt f k w rg av R tag P v xs wr) {on : Nat → Bool} {e : Ending} (hh : RingHeard tag rg av R on wr e wm) :
    ∃ tag' P' v', e = .returned v' ∧ LSt f k w rg av (R.hear on) tag' P' v xs wm ∧ HeldAt (fun b => wr.heap.size ≤ b ∧ tag' b = 98) wm v' R.N (R.hear on).held ∧ (∀ b, b < wr.heap.size → tag' b = tag b) ∧ Chg (Rgs tag R.N) wr wm := by
  obtain ⟨tag', P', v', rfl, h1, h2, h3, h4⟩ := hh
  have hz := h.bel.size
  exact ⟨tag', P', v', rfl, ⟨h1, h.was.rgs h.r.bd.2 h4 h2, fun b hb => by rw [h2 b (by omega)]; exact h.lo b hb, rgs_below h h4⟩, h3, h2, h4⟩
theorem LSt.say (h : LSt f k w rg av R tag P v xs wr) {own : Nat → Rw} {e : Ending} (hh : RingSaid tag rg av R own wr e wm) :
    e = .returned (.tuple #[]) ∧ ∃ tag' P', LSt f k w rg av (R.say own) tag' P' v xs wm ∧ (∀ b, b < wr.heap.size → tag' b = tag b) ∧ Chg (Rgs tag R.N) wr wm := by
  obtain ⟨rfl, tag', P', h1, h2, h4⟩ := hh
  have hz := h.bel.size
  exact ⟨rfl, tag', P', ⟨h1, h.was.rgs h.r.bd.2 h4 h2, fun b hb => by rw [h2 b (by omega)]; exact h.lo b hb, rgs_below h h4⟩, h2, h4⟩
/-- a tick's rows, made plain, are put to the list -/
theorem LSt.push (h : LSt f k w rg av R tag P v xs wr) {w4 w5 : World} {a : Option Addr} {n cap0 : Nat} {l : List Rw} (hb : Below wr.heap.size wr w4) (hrd : RdRs (wr.heap.size ≤ ·) w4 a n l) (hc1 : n ≤ cap0) (hc2 : cap0 ≤ maxLen) (hf : f k = l)
    {o : Obj} (hg : (w4.alloc o).grownBy w5 v.ownBlock) {g cap : Nat} (ho : w5.ownsRow w.heap.size 32 1 (.slice (some ⟨g, 0, none⟩) (k + 1) cap) (k + 1) (xs ++ [.slice a n cap0])) (hlie : v.ownBlock = some g ∨ g = (w4.alloc o).heap.size) :
    LSt f (k + 1) w rg av R (tagR tag wr.heap.size w4.heap.size 0) P (.slice (some ⟨g, 0, none⟩) (k + 1) cap) (xs ++ [.slice a n cap0]) w5 := by
  have hs := hb.size
  have hz := h.bel.size
  have h1 := h.r.sealNew hb
  have h2 := h.was.below hb (tag' := tagR tag wr.heap.size w4.heap.size 0) fun b hb => tagR_lo hb
  refine ⟨h1.grow hg h2.tv, h2.push ?_ hg h1.tg ho hlie, fun b hb => by rw [tagR_lo (by omega)]; exact h.lo b hb, ((h.bel.trans (hb.mono h.bel.size)).alloc (by omega) _).grown hg (by simp; omega) fun q hq => (h.was.own.lt q hq).1⟩
  rw [hf]
  exact ⟨a, _, _, rfl, hrd.mono fun b hbl hb => ⟨tagR_in hb hbl, hbl⟩, hc1, hc2⟩
end
/-- rows of zeros, just made -/
theorem rw0_vals' : rw0.vals (.slice none 0 0) = rowZ := by kernel_rfl
theorem flatP_rep (n : Nat) : flatP (List.replicate n (rw0, Value.slice none 0 0)) = zrep rowZ n := by
  unfold flatP zrep
  induction n with
  | zero => rfl
  | succ n ih => rw [List.replicate_succ, List.flatMap_cons, List.replicate_succ, List.flatten_cons, ih, rw0_vals']
theorem rw0_row' (S : Nat → Prop) (w : World) : RowR S w rw0 (.slice none 0 0) := ⟨none, 0, 0, rfl, ⟨rfl, by simp [rw0], by simp [rw0]⟩, Nat.le_refl _, by simp [maxLen]⟩
theorem rw0_ok' : rw0.ok := ⟨by kernel_rfl, by simp [rw0]⟩
theorem HB.start (W : World) (S : Nat → Prop) (hS : ∀ b, S b → b < W.heap.size) (n : Nat) : HB W W.heap.size S (List.replicate n (rw0, Value.slice none 0 0)) (W.alloc (.cells (zrep rowZ n).toArray 54)) := by
  refine ⟨⟨[], ?_⟩, fun p hp => ?_, Nat.le_refl _, fun h => Nat.lt_irrefl _ (hS _ h), (Below.refl _ _).alloc (Nat.le_refl _) _⟩
  · rw [List.append_nil, flatP_rep]; exact Blk.new _ _ _
  · obtain ⟨-, rfl⟩ := List.mem_replicate.1 hp
    exact ⟨rw0_ok', rw0_row' _ _⟩
/-- the rows a law's node says, by tick and node -/
def ownS (S : List Rw) (N t s : Nat) : Rw := if S = [] then rw0 else S.getD ((t * N + s) % S.length) rw0
theorem ownS_ok {S : List Rw} (h : ∀ r ∈ S, r.ok) (N t s : Nat) : (ownS S N t s).ok := by
  unfold ownS
  split
  · exact rw0_ok'
  · rename_i hn
    have hl : 0 < S.length := List.length_pos_iff.2 hn
    have hlt : (t * N + s) % S.length < S.length := Nat.mod_lt _ hl
    rw [List.getD_eq_getElem?_getD, List.getElem?_eq_getElem hlt]
    exact h _ (List.getElem_mem _)
/-- the rows being put in place: i of them -/
def OwnI (W : World) (S : Nat → Prop) (h : Nat → Rw) (N i : Nat) (wr : World) : Prop :=
  ∃ ps : List (Rw × Value), ps.length = N ∧ (∀ s, s < N → ∃ tv, ps[s]? = some (if s < i then h s else rw0, tv)) ∧ HB W W.heap.size S ps wr
theorem OwnI.start (W : World) (S : Nat → Prop) (hS : ∀ b, S b → b < W.heap.size) (h : Nat → Rw) (N : Nat) : OwnI W S h N 0 (W.alloc (.cells (zrep rowZ N).toArray 54)) :=
  ⟨_, by simp, fun s hs => ⟨.slice none 0 0, by simp [List.getElem?_replicate, hs]⟩, HB.start W S hS N⟩
theorem OwnI.step {W : World} {S : Nat → Prop} {h : Nat → Rw} {N i : Nat} {wr : World} (hh : OwnI W S h N i wr) (hi : i < N) (hr : (h i).ok) {tv : Value} (ht : RowR S wr (h i) tv) :
    canPut wr ⟨W.heap.size, i * 57, none⟩ 57 = true ∧ OwnI W S h N (i + 1) (putRow wr ⟨W.heap.size, i * 57, none⟩ ((h i).vals tv)) := by
  obtain ⟨ps, h1, h2, h3⟩ := hh
  obtain ⟨c1, c2⟩ := h3.set_ (i := i) (by omega) hr ht
  refine ⟨c1, ps.set i (h i, tv), by simpa using h1, fun s hs => ?_, c2⟩
  by_cases hsi : s = i
  · subst hsi
    exact ⟨tv, by rw [List.getElem?_set, if_pos rfl, if_pos (by omega), if_pos (by omega)]⟩
  · obtain ⟨tv', e⟩ := h2 s hs
    refine ⟨tv', by rw [List.getElem?_set, if_neg (fun e => hsi e.symm), e]; congr 2; by_cases hlt : s < i; rw [if_pos hlt, if_pos (by omega)]; rw [if_neg hlt, if_neg (by omega)]⟩
theorem OwnI.rd {W : World} {S : Nat → Prop} {h : Nat → Rw} {N i : Nat} {wr : World} (hh : OwnI W S h N i wr) (he : ∀ s, s < N → i ≤ s → h s = rw0) : RdRs (fun b => b = W.heap.size ∨ S b) wr (some ⟨W.heap.size, 0, none⟩) N (tab N h) := by
  obtain ⟨ps, h1, h2, h3⟩ := hh
  have := h3.rd
  rw [h1] at this
  have e : ps.map Prod.fst = tab N h := tab_ext (by simp [h1]) fun s hs => by
    obtain ⟨tv, e⟩ := h2 s hs
    rw [List.getElem?_map, e]
    show some (if s < i then h s else rw0) = some (h s)
    by_cases hlt : s < i
    · rw [if_pos hlt]
    · rw [if_neg hlt, he s hs (by omega)]
  rwa [e] at this
theorem OwnI.bel {W : World} {S : Nat → Prop} {h : Nat → Rw} {N i : Nat} {wr : World} (hh : OwnI W S h N i wr) : Below W.heap.size W wr := by
  obtain ⟨ps, -, -, h3⟩ := hh
  exact h3.bel
/-- rows made plain, handed back: n of them -/
def RowsN (n : Nat) (l : List Rw) (w : World) (e : Ending) (w' : World) : Prop :=
  ∃ a cap, e = .returned (.slice a n cap) ∧ RdRs (w.heap.size ≤ ·) w' a n l ∧ n ≤ cap ∧ cap ≤ maxLen ∧ Below w.heap.size w w'
theorem plain14_tab {S : Nat → Prop} {N : Nat} (h16 : N ≤ 16) {a : Option Addr} {cap : Nat} {f : Nat → Rw} {w : World} (hrd : RdRs S w a N (tab N f)) (hm1 : N ≤ cap) (hm2 : cap ≤ maxLen) :
    Calls Try.prog 31 #[.int .i64 N, .slice a N cap] w (RowsN N ((tab N f).map (Rw.plain N)) w) := by
  refine (plain14_any S N a N cap (tab N f) w hrd hm1 hm2 (by omega)).mono ?_
  rintro e w' ⟨a', cap', rfl, h1, h2, h3, h4⟩
  have hl : ((tab N f).map (Rw.plain N)).length = N := by rw [List.length_map, tab_len]
  rw [hl] at h1 h2 ⊢
  exact ⟨a', cap', rfl, h1, h2, h3, h4⟩
theorem plain_at {N : Nat} {f : Nat → Rw} {s : Nat} (h : s < N) : ((tab N f).map (Rw.plain N))[s]? = some ((f s).plain N) := by
  rw [List.getElem?_map, tab_at h]; rfl
/-- a tick's rows are made -/
def OwnDone (w W : World) (h : Nat → Rw) (N : Nat) (wx : World) : Prop := Below W.heap.size W wx ∧ RdRs (fun b => b = W.heap.size ∨ b < w.heap.size) wx (some ⟨W.heap.size, 0, none⟩) N (tab N h)
theorem OwnI.done {w W : World} {h : Nat → Rw} {N i : Nat} {wr : World} (hh : OwnI W (· < w.heap.size) h N i wr) (he : ∀ s, s < N → i ≤ s → h s = rw0) : OwnDone w W h N wr := ⟨hh.bel, hh.rd he⟩
theorem ownS_at {S : List Rw} {N t s j : Nat} {r : Rw} (hj : (t * N + s) % S.length = j) (hr : S[j]? = some r) : ownS S N t s = r := by
  unfold ownS
  have hn : S ≠ [] := by rintro rfl; simp at hr
  rw [if_neg hn, hj, List.getD_eq_getElem?_getD, hr]; rfl
theorem ownS_nil {S : List Rw} (h : S.length = 0) (N t s : Nat) : ownS S N t s = rw0 := if_pos (List.eq_nil_of_length_eq_zero h)
end Go.Proofs.Ytbdklfcgcmdgaaa
