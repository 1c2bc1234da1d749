/-
  A ring, tick by tick: its two calls; what was said, kept by the law. A law over a ring: its state between two statements. Slices of api.Cell; small arrays by value; opened.
-/
import Derived.Test.YtbdklfcgcmdgaaaGb32
import Derived.Test.YtbdklfcgcmdgaaaGb33
import Derived.Test.YtbdklfcgcmdgaaaGb34
import Derived.Test.YtbdklfcgcmdgaaaGb12
import Derived.Test.YtbdklfcgcmdgaaaGb25
import Derived.WideShapes
namespace Go.Proofs.Ytbdklfcgcmdgaaa
open Go.RowKit
set_option linter.unusedVariables false
set_option linter.unusedSimpArgs false

section
variable (N : Nat) (F : FltM) (on : Nat → Nat → Bool) (own : Nat → Nat → Rw)
theorem put_T (L : LaneM) (ins : Nat → List Rw) : (L.put ins).T = L.T + 1 := rfl
theorem said_T (L : LaneM) (r : Rw) : (L.said r).T = L.T := by unfold LaneM.said; split <;> rfl
theorem rgT_T (t i : Nat) : ((rgT N F on own t).lane i).T ≤ t := by
  induction t with
  | zero => exact Nat.le_refl _
  | succ t ih =>
    have key : (((rgT N F on own t).hear (on t)).lane i).T ≤ t + 1 := by
      show (if on t i then (if (rgT N F on own t).on i then (rgT N F on own t).lane i else LaneM.new (rgT N F on own t).N i).put ((rgT N F on own t).insM i) else (rgT N F on own t).lane i).T ≤ t + 1
      split
      · rw [put_T]
        split
        · omega
        · show 0 + 1 ≤ t + 1; omega
      · omega
    rw [rgT_succ]
    show (if ((rgT N F on own t).hear (on t)).on i then (((rgT N F on own t).hear (on t)).lane i).said (own t i) else ((rgT N F on own t).hear (on t)).lane i).T ≤ t + 1
    split
    · rw [said_T]; exact key
    · exact key
theorem hear_T (t i : Nat) (h : on t i = true) : (((rgT N F on own t).hear (on t)).lane i).b = true ∧ 0 < (((rgT N F on own t).hear (on t)).lane i).T ∧ (((rgT N F on own t).hear (on t)).lane i).T ≤ t + 1 := by
  have hl := laneB_all N F on own t i h
  have hb : (laneH N F on own t i).b = true := hl.b
  have hT : (laneH N F on own t i).T = runs on t i := hl.T
  have h1 := (runs_on on t i).2 h
  have h2 := runs_le on t i
  exact ⟨hb, by show 0 < (laneH N F on own t i).T; omega, by show (laneH N F on own t i).T ≤ _; omega⟩
theorem hear_tick {tag : Nat → Nat} {wr : World} {rg : Nat} {av : Value} {P : RgP} {t ob oc : Nat} (h : RingAt tag wr rg av (rgT N F on own t) P) (ht : t ≤ 100000) (hon : ∀ i, i < N → wr.cell? ⟨ob, i, none⟩ = some (.bool (on t i))) (hob : ob < wr.heap.size) (hobt : ¬ Rgs tag N ob) :
    Calls Try.prog 32 #[.pointer (some ⟨rg, 0, none⟩), .slice (some ⟨ob, 0, none⟩) N oc] wr (RingHeard tag rg av (rgT N F on own t) (on t) wr) := by
  have hN := (rgT_N N F on own t).1
  have := ringHear_any tag rg av (rgT N F on own t) P (on t) ob oc wr h (by rw [hN]; exact hon) hob (by rw [hN]; exact hobt) (fun i _ => by have := rgT_T N F on own t i; omega) (by rw [rgT_len]; omega)
  rwa [hN] at this
theorem say_tick {tag : Nat → Nat} {wr : World} {rg : Nat} {av : Value} {P : RgP} {t oc : Nat} {So : Nat → Prop} {oa : Option Addr} (h : RingAt tag wr rg av ((rgT N F on own t).hear (on t)) P) (ht : t ≤ 100000) (hO : RdRs So wr oa N (tab N (own t))) (hSo : ∀ b, b < wr.heap.size → So b → ¬ Rgs tag N b) (hoc : N ≤ oc) :
    Calls Try.prog 33 #[.pointer (some ⟨rg, 0, none⟩), .slice oa N oc] wr (RingSaid tag rg av ((rgT N F on own t).hear (on t)) (own t) wr) := by
  have hN : ((rgT N F on own t).hear (on t)).N = N := (rgT_N N F on own t).1
  have := ringSay_any tag rg av ((rgT N F on own t).hear (on t)) P (own t) So oa oc wr h (by rw [hN]; exact hO) (by rw [hN]; exact hSo) (by rw [hN]; exact hoc) (fun i _ hi => by
    obtain ⟨h1, h2, h3⟩ := hear_T N F on own t i hi
    exact ⟨h1, h2, by omega⟩) (by show (rgT N F on own t).sent.length ≤ _; rw [rgT_len]; omega)
  rwa [hN] at this
end
/-- a bad one? -/
theorem bad_node {tag : Nat → Nat} {w w' : World} {rg : Nat} {av : Value} {R : RingM} {P : RgP} (h : RingAt tag w rg av R P) (hb : Below w.heap.size w w') {N : Nat} {F : FltM} (hN : R.N = N) (hF : R.F = F) {i : Nat} (hi : i < N) :
    Calls Try.prog 34 #[.pointer (some ⟨rg, 0, none⟩), .int .i64 i] w' (BadPost (!F.link && decide (F.at_ % N = i)) w') := by
  subst hN hF
  have h2 := h.below hb
  obtain ⟨c0, c1, c2, -⟩ := h2.cells
  exact bad_any rg R.N R.F.at_ R.F.link i w' c0 c1 c2 h2.bd.1 h2.bd.2 h2.fl.1 hi
def Same14 (b : Bool) (w : World) (e : Ending) (w' : World) : Prop := e = .returned (.bool b) ∧ Below w.heap.size w w'
set_option maxRecDepth 100000 in
set_option maxHeartbeats 1000000 in
theorem same14_any (S S' : Nat → Prop) (r r' : Rw) (hr : r.ok) (hr' : r'.ok) (tv tv' : Value) (w : World) (ht : RowR S w r tv) (ht' : RowR S' w r' tv') (hrr : r = r') :
    Calls Try.prog 36 #[.agg (r.vals tv).toArray, .agg (r'.vals tv').toArray] w (Same14 true w) := by
  subst hrr
  obtain ⟨v, hv⟩ : ∃ v, v = r.vals tv := ⟨_, rfl⟩
  obtain ⟨v', hv'⟩ : ∃ v', v' = r.vals tv' := ⟨_, rfl⟩
  rw [← hv, ← hv']
  have hvl : v.length = 57 := by rw [hv]; exact Rw.len hr _
  have hvl' : v'.length = 57 := by rw [hv']; exact Rw.len hr _
  have hB := ((Below.refl w.heap.size w).alloc (Nat.le_refl _) (.cells v.toArray 54)).alloc (by simp) (.cells v'.toArray 54)
  have k0 : Blk ((w.alloc (.cells v.toArray 54)).alloc (.cells v'.toArray 54)) w.heap.size 54 v.toArray := (Blk.new _ _ _).alloc _
  have k1 := Blk.new (w.alloc (.cells v.toArray 54)) 54 v'.toArray
  rw [show (w.alloc (.cells v.toArray 54)).heap.size = w.heap.size + 1 from by simp] at k1
  obtain ⟨p1, p2, -⟩ := k0.whole (n := 57) hvl
  obtain ⟨q1, q2, -⟩ := k1.whole (n := 57) hvl'
  have hc0 := same_any S S' r r hr hr tv tv' _ (ht.below hB) (ht'.below hB)
  rw [← hv, ← hv'] at hc0
  have hc1 : Calls Try.prog 48 #[.agg v.toArray, .agg v'.toArray] ((w.alloc (.cells v.toArray 54)).alloc (.cells v'.toArray 54)) (Same14 true ((w.alloc (.cells v.toArray 54)).alloc (.cells v'.toArray 54))) := by
    refine hc0.mono ?_
    rintro e w' ⟨rfl, h2⟩
    exact ⟨by simp, h2⟩
  have HC := Lib.hid hc1
  clear hc1
  clear hc0
  have HB := Lib.hid hB
  clear hv hv' k0 k1 ht ht' hB
  go_enter Try.func36, Try.ntmps36
  go_upto_region 1 with fail
  generalize ((w.alloc (.cells v.toArray 54)).alloc (.cells v'.toArray 54)) = w2 at p1 p2 q1 q2 HC HB ⊢
  go_wp2_with fail
  (with_reducible refine HC.out.mono ?_)
  rintro e w3 ⟨rfl, hb⟩
  have HE := Lib.hid (HB.out.trans (hb.mono HB.out.size))
  clear hb
  go_wp2_with fail
  go_ret
  exact ⟨rfl, HE.out⟩
/-- what was said, tick by tick: a list that grows -/
structure WasB (base : Nat) (f : Nat → List Rw) (tag : Nat → Nat) (k : Nat) (v : Value) (xs : List Value) (wr : World) : Prop where
  own : wr.ownsRow base 32 1 v k xs
  tv : ∀ g, v.ownBlock = some g → tag g = 98
  he : ∀ j, j < k → ∃ u, xs[j]? = some u ∧ WdAt (Sn tag wr) wr u (f j)
section
variable {base : Nat} {f : Nat → List Rw} {tag : Nat → Nat} {k : Nat} {v : Value} {xs : List Value} {wr wm w3 : World}
theorem WasB.start (base : Nat) (f : Nat → List Rw) (tag : Nat → Nat) (wr : World) : WasB base f tag 0 (.slice none 0 0) [] wr := ⟨World.ownsRow_nil _ _ _ _, fun g hg => by simp [Value.ownBlock] at hg, fun j hj => absurd hj (by omega)⟩
/-- a change that spares what is read alone and this list -/
theorem WasB.move (h : WasB base f tag k v xs wr) {S : Nat → Prop} (hc : Chg S wr wm) (hS : ∀ b, b < wr.heap.size → S b → tag b ≠ 0 ∧ v.ownBlock ≠ some b) {tag' : Nat → Nat} (ht : ∀ b, b < wr.heap.size → tag' b = tag b) : WasB base f tag' k v xs wm := by
  refine ⟨own_block h.own fun b hb => hc.block b (h.own.lt b hb).2 fun hs => (hS b (h.own.lt b hb).2 hs).2 hb, fun g hg => by rw [ht g (h.own.lt g hg).2]; exact h.tv g hg, fun j hj => ?_⟩
  obtain ⟨u, e1, e2⟩ := h.he j hj
  exact ⟨u, e1, (e2.keep hc.size fun b hb hl => hc.block b hl fun hs => (hS b hl hs).1 hb.1).mono fun b _ hb => ⟨by rw [ht b hb.2]; exact hb.1, by have := hc.size; have := hb.2; omega⟩⟩
theorem WasB.rgs (h : WasB base f tag k v xs wr) {N : Nat} (h16 : N ≤ 16) (hc : Chg (Rgs tag N) wr wm) {tag' : Nat → Nat} (ht : ∀ b, b < wr.heap.size → tag' b = tag b) : WasB base f tag' k v xs wm :=
  h.move hc (fun b _ hb => ⟨fun e => by have := hb.1; omega, fun e => by have := h.tv b e; have := hb.2; omega⟩) ht
theorem WasB.below (h : WasB base f tag k v xs wr) (hb : Below wr.heap.size wr wm) {tag' : Nat → Nat} (ht : ∀ b, b < wr.heap.size → tag' b = tag b) : WasB base f tag' k v xs wm :=
  h.move (Chg.of_below hb fun _ => False) (fun _ _ h => h.elim) ht
theorem WasB.push (h : WasB base f tag k v xs wr) {u : Value} (hu : WdAt (Sn tag wr) wr u (f k)) {o : Obj} (hg : (wr.alloc o).grownBy w3 v.ownBlock) {g cap : Nat} (htg : ∀ b, wr.heap.size ≤ b → tag b = 98)
    (ho : w3.ownsRow base 32 1 (.slice (some ⟨g, 0, none⟩) (k + 1) cap) (k + 1) (xs ++ [u])) (hlie : v.ownBlock = some g ∨ g = (wr.alloc o).heap.size) : WasB base f tag (k + 1) (.slice (some ⟨g, 0, none⟩) (k + 1) cap) (xs ++ [u]) w3 := by
  have hs2 : (wr.alloc o).heap.size = wr.heap.size + 1 := by simp
  have hs3 := hg.size
  have hxl : xs.length = k := by have := h.own.1; omega
  have hk : ∀ b, b < wr.heap.size → tag b = 0 → w3.heap[b]? = wr.heap[b]? := fun b hb h0 => (hg.block b (by omega) (fun e => by have := h.tv b e.symm; omega)).trans (Below.heap_alloc _ _ _ hb)
  have hmv : ∀ {u' : Value} {l : List Rw}, WdAt (Sn tag wr) wr u' l → WdAt (Sn tag w3) w3 u' l := fun {u' l} h' =>
    (h'.keep (by omega) fun b hb hl => hk b hl hb.1).mono fun b _ hb => ⟨hb.1, by have := hb.2; omega⟩
  refine ⟨ho, fun g' hg' => ?_, fun j hj => ?_⟩
  · simp only [Value.ownBlock, Option.some.injEq] at hg'
    subst hg'
    rcases hlie with e | e
    · exact h.tv g e
    · exact htg g (by omega)
  · by_cases hjk : j < k
    · obtain ⟨u', e1, e2⟩ := h.he j hjk
      exact ⟨u', by rw [List.getElem?_append_left (by omega)]; exact e1, hmv e2⟩
    · have : j = k := by omega
      subst this
      exact ⟨u, by rw [List.getElem?_append_right (by omega), hxl]; simp, hmv hu⟩
/-- one tick's list, read -/
theorem WasB.at_ (h : WasB base f tag k v xs wr) {j : Nat} (hj : j < k) : ∃ g cap u, v = .slice (some ⟨g, 0, none⟩) k cap ∧ k ≤ cap ∧ cap ≤ maxLen ∧ g < wr.heap.size ∧ wr.cell? ⟨g, j, none⟩ = some u ∧ WdAt (Sn tag wr) wr u (f j) := by
  rcases h.own.2 with ⟨-, h0⟩ | ⟨g, cap, cur, rfl, g1, g2, g3, g4, g5, g6⟩
  · omega
  · obtain ⟨u, e1, e2⟩ := h.he j hj
    refine ⟨g, cap, u, rfl, g3, g4, lt_of_some g2, ?_, e2⟩
    rw [cell_of_row wr g _ cur _ (0, 0) g2]
    have e1' : cur[j]? = (cur.toList.take (k * 1))[j]? := by rw [List.getElem?_take, if_pos (by omega)]; simp
    rw [e1', g6, e1]
end
/-- new blocks become what is read alone -/
theorem RingAt.sealNew {tag : Nat → Nat} {wr wm : World} {rg : Nat} {av : Value} {R : RingM} {P : RgP} (h : RingAt tag wr rg av R P) (hb : Below wr.heap.size wr wm) : RingAt (tagR tag wr.heap.size wm.heap.size 0) wm rg av R P :=
  (h.below hb).seal fun b => by
    by_cases hbb : wr.heap.size ≤ b ∧ b < wm.heap.size
    · exact .inr ⟨h.tg b hbb.1, tagR_in hbb.1 hbb.2, hbb.2⟩
    · exact .inl (if_neg hbb)
end Go.Proofs.Ytbdklfcgcmdgaaa
namespace Go.Proofs.Ytbdklfcgcmdgaaa
open Go.RowKit
set_option linter.unusedVariables false
set_option linter.unusedSimpArgs false

/-- the ring, what was said, what came in -/
structure LSt (f : Nat → List Rw) (k : Nat) (w : World) (rg : Nat) (av : Value) (R : RingM) (tag : Nat → Nat) (P : RgP) (v : Value) (xs : List Value) (wr : World) : Prop where
  r : RingAt tag wr rg av R P
  was : WasB w.heap.size f tag k v xs wr
  lo : ∀ b, b < w.heap.size → tag b = 0
  bel : Below w.heap.size w wr
section
variable {f : Nat → List Rw} {k : Nat} {w : World} {rg : Nat} {av : Value} {R : RingM} {tag : Nat → Nat} {P : RgP} {v : Value} {xs : List Value} {wr wm : World}
theorem LSt.below (h : LSt f k w rg av R tag P v xs wr) (hb : Below wr.heap.size wr wm) : LSt f k w rg av R tag P v xs wm :=
  ⟨h.r.below hb, h.was.below hb fun _ _ => rfl, h.lo, h.bel.trans (hb.mono h.bel.size)⟩
/-- a store into a block of nobody's that is not the list's -/
theorem LSt.own_ (h : LSt f k w rg av R tag P v xs wr) {g : Nat} (hc : Chg (· = g) wr wm) (hg : tag g = 98) (hv : v.ownBlock ≠ some g) (hge : w.heap.size ≤ g) : LSt f k w rg av R tag P v xs wm :=
  ⟨h.r.chg hc fun b hb => by subst hb; have := h.r.bd.2; omega, h.was.move hc (fun b _ hb => by subst hb; exact ⟨by omega, hv⟩) fun _ _ => rfl, h.lo, h.bel.trans (hc.below h.bel.size fun b hb => by subst hb; exact hge)⟩
theorem rgs_below (h : LSt f k w rg av R tag P v xs wr) (hc : Chg (Rgs tag R.N) wr wm) : Below w.heap.size w wm :=
  h.bel.trans (hc.below h.bel.size fun b hb => by
    rcases Nat.lt_or_ge b w.heap.size with h1 | h1
    · have := h.lo b h1; have := hb.1; omega
    · exact h1)
theorem LSt.hear (h : LSt f k w rg av R tag P v xs wr) {on : Nat → Bool} {e : Ending} (hh : RingHeard tag rg av R on wr e wm) :
    ∃ tag' P' v', e = .returned v' ∧ LSt f k w rg av (R.hear on) tag' P' v xs wm ∧ HeldAt (fun b => wr.heap.size ≤ b ∧ tag' b = 98) wm v' R.N (R.hear on).held ∧ (∀ b, b < wr.heap.size → tag' b = tag b) ∧ Chg (Rgs tag R.N) wr wm := by
  obtain ⟨tag', P', v', rfl, h1, h2, h3, h4⟩ := hh
  have hz := h.bel.size
  exact ⟨tag', P', v', rfl, ⟨h1, h.was.rgs h.r.bd.2 h4 h2, fun b hb => by rw [h2 b (by omega)]; exact h.lo b hb, rgs_below h h4⟩, h3, h2, h4⟩
theorem LSt.say (h : LSt f k w rg av R tag P v xs wr) {own : Nat → Rw} {e : Ending} (hh : RingSaid tag rg av R own wr e wm) :
    e = .returned (.tuple #[]) ∧ ∃ tag' P', LSt f k w rg av (R.say own) tag' P' v xs wm ∧ (∀ b, b < wr.heap.size → tag' b = tag b) ∧ Chg (Rgs tag R.N) wr wm := by
  obtain ⟨rfl, tag', P', h1, h2, h4⟩ := hh
  have hz := h.bel.size
  exact ⟨rfl, tag', P', ⟨h1, h.was.rgs h.r.bd.2 h4 h2, fun b hb => by rw [h2 b (by omega)]; exact h.lo b hb, rgs_below h h4⟩, h2, h4⟩
/-- a tick's rows, made plain, are put to the list -/
theorem LSt.push (h : LSt f k w rg av R tag P v xs wr) {w4 w5 : World} {a : Option Addr} {n cap0 : Nat} {l : List Rw} (hb : Below wr.heap.size wr w4) (hrd : RdRs (wr.heap.size ≤ ·) w4 a n l) (hc1 : n ≤ cap0) (hc2 : cap0 ≤ maxLen) (hf : f k = l)
    {o : Obj} (hg : (w4.alloc o).grownBy w5 v.ownBlock) {g cap : Nat} (ho : w5.ownsRow w.heap.size 32 1 (.slice (some ⟨g, 0, none⟩) (k + 1) cap) (k + 1) (xs ++ [.slice a n cap0])) (hlie : v.ownBlock = some g ∨ g = (w4.alloc o).heap.size) :
    LSt f (k + 1) w rg av R (tagR tag wr.heap.size w4.heap.size 0) P (.slice (some ⟨g, 0, none⟩) (k + 1) cap) (xs ++ [.slice a n cap0]) w5 := by
  have hs := hb.size
  have hz := h.bel.size
  have h1 := h.r.sealNew hb
  have h2 := h.was.below hb (tag' := tagR tag wr.heap.size w4.heap.size 0) fun b hb => tagR_lo hb
  refine ⟨h1.grow hg h2.tv, h2.push ?_ hg h1.tg ho hlie, fun b hb => by rw [tagR_lo (by omega)]; exact h.lo b hb, ((h.bel.trans (hb.mono h.bel.size)).alloc (by omega) _).grown hg (by simp; omega) fun q hq => (h.was.own.lt q hq).1⟩
  rw [hf]
  exact ⟨a, _, _, rfl, hrd.mono fun b hbl hb => ⟨tagR_in hb hbl, hbl⟩, hc1, hc2⟩
end
/-- rows of zeros, just made -/
theorem rw0_vals' : rw0.vals (.slice none 0 0) = rowZ := by kernel_rfl
theorem flatP_rep (n : Nat) : flatP (List.replicate n (rw0, Value.slice none 0 0)) = zrep rowZ n := by
  unfold flatP zrep
  induction n with
  | zero => rfl
  | succ n ih => rw [List.replicate_succ, List.flatMap_cons, List.replicate_succ, List.flatten_cons, ih, rw0_vals']
theorem rw0_row' (S : Nat → Prop) (w : World) : RowR S w rw0 (.slice none 0 0) := ⟨none, 0, 0, rfl, ⟨rfl, by simp [rw0], by simp [rw0]⟩, Nat.le_refl _, by simp [maxLen]⟩
theorem rw0_ok' : rw0.ok := ⟨by kernel_rfl, by simp [rw0]⟩
theorem HB.start (W : World) (S : Nat → Prop) (hS : ∀ b, S b → b < W.heap.size) (n : Nat) : HB W W.heap.size S (List.replicate n (rw0, Value.slice none 0 0)) (W.alloc (.cells (zrep rowZ n).toArray 54)) := by
  refine ⟨⟨[], ?_⟩, fun p hp => ?_, Nat.le_refl _, fun h => Nat.lt_irrefl _ (hS _ h), (Below.refl _ _).alloc (Nat.le_refl _) _⟩
  · rw [List.append_nil, flatP_rep]; exact Blk.new _ _ _
  · obtain ⟨-, rfl⟩ := List.mem_replicate.1 hp
    exact ⟨rw0_ok', rw0_row' _ _⟩
/-- the rows a law's node says, by tick and node -/
def ownS (S : List Rw) (N t s : Nat) : Rw := if S = [] then rw0 else S.getD ((t * N + s) % S.length) rw0
theorem ownS_ok {S : List Rw} (h : ∀ r ∈ S, r.ok) (N t s : Nat) : (ownS S N t s).ok := by
  unfold ownS
  split
  · exact rw0_ok'
  · rename_i hn
    have hl : 0 < S.length := List.length_pos_iff.2 hn
    have hlt : (t * N + s) % S.length < S.length := Nat.mod_lt _ hl
    rw [List.getD_eq_getElem?_getD, List.getElem?_eq_getElem hlt]
    exact h _ (List.getElem_mem _)
/-- the rows being put in place: i of them -/
def OwnI (W : World) (S : Nat → Prop) (h : Nat → Rw) (N i : Nat) (wr : World) : Prop :=
  ∃ ps : List (Rw × Value), ps.length = N ∧ (∀ s, s < N → ∃ tv, ps[s]? = some (if s < i then h s else rw0, tv)) ∧ HB W W.heap.size S ps wr
theorem OwnI.start (W : World) (S : Nat → Prop) (hS : ∀ b, S b → b < W.heap.size) (h : Nat → Rw) (N : Nat) : OwnI W S h N 0 (W.alloc (.cells (zrep rowZ N).toArray 54)) :=
  ⟨_, by simp, fun s hs => ⟨.slice none 0 0, by simp [List.getElem?_replicate, hs]⟩, HB.start W S hS N⟩
theorem OwnI.step {W : World} {S : Nat → Prop} {h : Nat → Rw} {N i : Nat} {wr : World} (hh : OwnI W S h N i wr) (hi : i < N) (hr : (h i).ok) {tv : Value} (ht : RowR S wr (h i) tv) :
    canPut wr ⟨W.heap.size, i * 57, none⟩ 57 = true ∧ OwnI W S h N (i + 1) (putRow wr ⟨W.heap.size, i * 57, none⟩ ((h i).vals tv)) := by
  obtain ⟨ps, h1, h2, h3⟩ := hh
  obtain ⟨c1, c2⟩ := h3.set_ (i := i) (by omega) hr ht
  refine ⟨c1, ps.set i (h i, tv), by simpa using h1, fun s hs => ?_, c2⟩
  by_cases hsi : s = i
  · subst hsi
    exact ⟨tv, by rw [List.getElem?_set, if_pos rfl, if_pos (by omega), if_pos (by omega)]⟩
  · obtain ⟨tv', e⟩ := h2 s hs
    refine ⟨tv', by rw [List.getElem?_set, if_neg (fun e => hsi e.symm), e]; congr 2; by_cases hlt : s < i; rw [if_pos hlt, if_pos (by omega)]; rw [if_neg hlt, if_neg (by omega)]⟩
theorem OwnI.rd {W : World} {S : Nat → Prop} {h : Nat → Rw} {N i : Nat} {wr : World} (hh : OwnI W S h N i wr) (he : ∀ s, s < N → i ≤ s → h s = rw0) : RdRs (fun b => b = W.heap.size ∨ S b) wr (some ⟨W.heap.size, 0, none⟩) N (tab N h) := by
  obtain ⟨ps, h1, h2, h3⟩ := hh
  have := h3.rd
  rw [h1] at this
  have e : ps.map Prod.fst = tab N h := tab_ext (by simp [h1]) fun s hs => by
    obtain ⟨tv, e⟩ := h2 s hs
    rw [List.getElem?_map, e]
    show some (if s < i then h s else rw0) = some (h s)
    by_cases hlt : s < i
    · rw [if_pos hlt]
    · rw [if_neg hlt, he s hs (by omega)]
  rwa [e] at this
theorem OwnI.bel {W : World} {S : Nat → Prop} {h : Nat → Rw} {N i : Nat} {wr : World} (hh : OwnI W S h N i wr) : Below W.heap.size W wr := by
  obtain ⟨ps, -, -, h3⟩ := hh
  exact h3.bel
/-- rows made plain, handed back: n of them -/
def RowsN (n : Nat) (l : List Rw) (w : World) (e : Ending) (w' : World) : Prop :=
  ∃ a cap, e = .returned (.slice a n cap) ∧ RdRs (w.heap.size ≤ ·) w' a n l ∧ n ≤ cap ∧ cap ≤ maxLen ∧ Below w.heap.size w w'
theorem plain14_tab {S : Nat → Prop} {N : Nat} (h16 : N ≤ 16) {a : Option Addr} {cap : Nat} {f : Nat → Rw} {w : World} (hrd : RdRs S w a N (tab N f)) (hm1 : N ≤ cap) (hm2 : cap ≤ maxLen) :
    Calls Try.prog 31 #[.int .i64 N, .slice a N cap] w (RowsN N ((tab N f).map (Rw.plain N)) w) := by
  refine (plain14_any S N a N cap (tab N f) w hrd hm1 hm2 (by omega)).mono ?_
  rintro e w' ⟨a', cap', rfl, h1, h2, h3, h4⟩
  have hl : ((tab N f).map (Rw.plain N)).length = N := by rw [List.length_map, tab_len]
  rw [hl] at h1 h2 ⊢
  exact ⟨a', cap', rfl, h1, h2, h3, h4⟩
theorem plain_at {N : Nat} {f : Nat → Rw} {s : Nat} (h : s < N) : ((tab N f).map (Rw.plain N))[s]? = some ((f s).plain N) := by
  rw [List.getElem?_map, tab_at h]; rfl
/-- a tick's rows are made -/
def OwnDone (w W : World) (h : Nat → Rw) (N : Nat) (wx : World) : Prop := Below W.heap.size W wx ∧ RdRs (fun b => b = W.heap.size ∨ b < w.heap.size) wx (some ⟨W.heap.size, 0, none⟩) N (tab N h)
theorem OwnI.done {w W : World} {h : Nat → Rw} {N i : Nat} {wr : World} (hh : OwnI W (· < w.heap.size) h N i wr) (he : ∀ s, s < N → i ≤ s → h s = rw0) : OwnDone w W h N wr := ⟨hh.bel, hh.rd he⟩
theorem ownS_at {S : List Rw} {N t s j : Nat} {r : Rw} (hj : (t * N + s) % S.length = j) (hr : S[j]? = some r) : ownS S N t s = r := by
  unfold ownS
  have hn : S ≠ [] := by rintro rfl; simp at hr
  rw [if_neg hn, hj, List.getD_eq_getElem?_getD, hr]; rfl
theorem ownS_nil {S : List Rw} (h : S.length = 0) (N t s : Nat) : ownS S N t s = rw0 := if_pos (List.eq_nil_of_length_eq_zero h)
end Go.Proofs.Ytbdklfcgcmdgaaa
namespace Go.Proofs.Ytbdklfcgcmdgaaa
open Go.RowKit Go.WideShapes
set_option linter.unusedVariables false
set_option linter.unusedSimpArgs false

/-- A slice that reads as a list of cells, in blocks of S. -/
def RdCs (S : Nat → Prop) (w : World) (a : Option Addr) (len : Nat) (l : List (List Value)) : Prop :=
  l.length = len ∧ (∀ c ∈ l, okL cellK c = true) ∧ ∀ (k : Nat) (c : List Value), l[k]? = some c → ∃ b off, a = some ⟨b, off, none⟩ ∧ S b ∧ b < w.heap.size ∧ hasRow w ⟨b, off + k * 55, none⟩ 55 = true ∧ rowOf w ⟨b, off + k * 55, none⟩ 55 = c
theorem RdCs.keep {S : Nat → Prop} {w w' : World} {a : Option Addr} {len : Nat} {l : List (List Value)} (h : RdCs S w a len l) (hs : w.heap.size ≤ w'.heap.size) (hk : ∀ b, S b → b < w.heap.size → w'.heap[b]? = w.heap[b]?) : RdCs S w' a len l :=
  ⟨h.1, h.2.1, fun k x hx => by
    obtain ⟨b, off, e, hS, hb, h1, h2⟩ := h.2.2 k x hx
    have := row_block (n := 55) (p := ⟨b, off + k * 55, none⟩) (hk b hS hb)
    exact ⟨b, off, e, hS, by omega, this.1.trans h1, this.2.trans h2⟩⟩
theorem RdCs.below {S : Nat → Prop} {w w' : World} {B : Nat} {a : Option Addr} {len : Nat} {l : List (List Value)} (h : RdCs S w a len l) (hb : Below B w w') (hB : ∀ b, S b → b < w.heap.size → b < B) : RdCs S w' a len l :=
  h.keep hb.size fun b hS hlt => hb.block b (hB b hS hlt)
/-- what a walk needs of place k -/
theorem RdCs.at_ {S : Nat → Prop} {w : World} {a : Option Addr} {len : Nat} {l : List (List Value)} (h : RdCs S w a len l) (k : Nat) (hk : k < len) :
    ∃ b off c, a = some ⟨b, off, none⟩ ∧ S b ∧ b < w.heap.size ∧ l[k]? = some c ∧ okL cellK c = true ∧ c.length = 55 ∧ c.all cell1 = true ∧ hasRow w ⟨b, off + k * 55, none⟩ 55 = true ∧ rowOf w ⟨b, off + k * 55, none⟩ 55 = c := by
  obtain ⟨h1, h2, h3⟩ := h
  have hv : l[k]? = some (l[k]'(by omega)) := List.getElem?_eq_getElem _
  obtain ⟨b, off, e, hS, hb, hr1, hr2⟩ := h3 k _ hv
  have ho := h2 _ (List.mem_of_getElem? hv)
  exact ⟨b, off, _, e, hS, hb, hv, ho, (okL_len ho).trans len_cellK, okL_cell1 ho, hr1, hr2⟩

section
variable {H : Type} {enc : TypeId × Value → H} {P : Program} {w : World} {spare : Nat → Bool} {held : Bool}
theorem RdCs.open_ {t e : TypeId} {a : Option Addr} {len cap : Nat} {d : DataW H × List MemPlace} {fuel : Nat} (ht : P.underlying t = some (.slice e)) (hf : flatT P 7 e = some cellK) (hc : P.cellsOf e = 55)
    (h : DataW.trod enc P w 0 spare held fuel t [.slice a len cap] = some d) : ∃ l, RdCs (· < w.heap.size) w a len l ∧ len ≤ cap ∧ cap ≤ maxLen := by
  rcases Deep.open_slice ht h with ⟨hcs, _⟩ | ⟨x, l, c, m, n, D, Pl, hcs, _, hl, hm, hmm, _, hx⟩
  · simp at hcs
    obtain ⟨rfl, rfl, rfl⟩ := hcs
    exact ⟨[], ⟨rfl, by simp, by simp⟩, Nat.le_refl _, by simp⟩
  · simp at hcs
    obtain ⟨rfl, rfl, rfl⟩ := hcs
    have hle : len ≤ m := by rw [hmm]; split <;> omega
    rw [hc] at hx
    have key : ∀ i, i < len → ∃ y : List Value, okL cellK y = true ∧ w.cells? 0 (x.add (i * 55)) 55 = some y := by
      intro i hi
      obtain ⟨cs, h1, h2⟩ := hx i (by omega)
      exact ⟨cs, flat_open 7 e cellK hf (by rw [hc, len_cellK]) n cs _ h2, h1⟩
    obtain ⟨F, hF⟩ := Deep.choose_lt (α := List Value) key
    refine ⟨(List.range len).map F, ⟨by simp, fun y hy => ?_, fun k y hy => ?_⟩, hl, hm⟩
    · simp at hy
      obtain ⟨i, hi, rfl⟩ := hy
      exact (hF i hi).1
    · rw [List.getElem?_map, Option.map_eq_some_iff] at hy
      obtain ⟨k', hk', rfl⟩ := hy
      have hlt : k < len := by
        rcases Nat.lt_or_ge k len with h | h
        · exact h
        · rw [List.getElem?_eq_none (by simpa using h)] at hk'; cases hk'
      rw [List.getElem?_range hlt] at hk'
      cases hk'
      obtain ⟨h1, h2⟩ := hF k hlt
      obtain ⟨_, hcl, hat⟩ := World.cells?_some h2
      have hcell : ∀ j v, (F k)[j]? = some v → w.cell? ((x.add (k * 55)).add j) = some v := fun j v hv => by
        have hj : j < 55 := by rw [← hcl]; exact (List.getElem?_eq_some_iff.1 hv).1
        rw [hat j hj, hv]
      have hr := row_of_cells hcell
      rw [hcl] at hr
      have hlen1 : (F k).length = 55 := (okL_len h1).trans len_cellK
      have h0 := hcell 0 _ (List.getElem?_eq_getElem (by omega))
      obtain ⟨b, off, spot⟩ := x
      have hs : spot = none := by
        have h00 := hF 0 (by omega)
        obtain ⟨_, hcl0, hat0⟩ := World.cells?_some h00.2
        have := World.cell?_spot ((hat0 0 (by omega)).trans (List.getElem?_eq_getElem (by omega)))
        simpa [Addr.add] using this
      subst hs
      rw [add_at] at hr h0
      exact ⟨b, off, rfl, World.block_lt_of_cell? w _ h0, World.block_lt_of_cell? w _ h0, hr.1, hr.2⟩
/-- an array of flat elements that came in by value -/
theorem okWide_array {r : Reach} {base : Nat} {t e : TypeId} {n : Nat} {v : Value} (ht : P.underlying t = some (.array n e)) (h : Value.okWide P w r base t v) : ∃ cs, v = .agg cs ∧ cs.size = P.cellsOf t := by
  simp only [Value.okWide, ht] at h
  obtain ⟨cs, h1, h2, _⟩ := h
  exact ⟨cs, h1, h2⟩
theorem arr_open {t e : TypeId} {n : Nat} {ks : List Kd} {v : Value} {d : DataW H} {pl : List MemPlace} (ht : P.underlying t = some (.array n e)) (hf : flatT P 7 t = some ks) (hc : P.cellsOf t = ks.length) (hv : ∃ cs, v = .agg cs ∧ cs.size = P.cellsOf t)
    (h : DataW.Trod enc P w 0 spare held t v d pl) : ∃ l, v = .agg l.toArray ∧ okL ks l = true := by
  obtain ⟨cs, rfl, hs⟩ := hv
  obtain ⟨fuel, hfu⟩ := h
  exact ⟨cs.toList, by simp, flat_open 7 t ks hf hc fuel _ _ hfu⟩
theorem two_i64 {l : List Value} (h : okL [.i .i64, .i .i64] l = true) : ∃ p q : Int, l = [.int .i64 p, .int .i64 q] ∧ (-9223372036854775808 ≤ p ∧ p ≤ 9223372036854775807) ∧ -9223372036854775808 ≤ q ∧ q ≤ 9223372036854775807 := by
  match l, okL_len h with
  | [a, b], _ =>
    simp only [okL, Bool.and_eq_true, and_true] at h
    cases a <;> cases b <;> simp [okK] at h
    obtain ⟨⟨rfl, h1⟩, rfl, h2⟩ := h
    exact ⟨_, _, rfl, by simpa [Lit.wf, IntKind.min, IntKind.max, IntKind.signed, IntKind.bits] using h1, by simpa [Lit.wf, IntKind.min, IntKind.max, IntKind.signed, IntKind.bits] using h2⟩
theorem three_u8 {l : List Value} (h : okL [.i .u8, .i .u8, .i .u8] l = true) : ∃ p q r : Int, l = [.int .u8 p, .int .u8 q, .int .u8 r] ∧ (0 ≤ p ∧ p ≤ 255) ∧ (0 ≤ q ∧ q ≤ 255) ∧ 0 ≤ r ∧ r ≤ 255 := by
  match l, okL_len h with
  | [a, b, c], _ =>
    simp only [okL, Bool.and_eq_true, and_true] at h
    cases a <;> cases b <;> cases c <;> simp [okK] at h
    obtain ⟨⟨rfl, h1⟩, ⟨rfl, h2⟩, rfl, h3⟩ := h
    exact ⟨_, _, _, rfl, by simpa [Lit.wf, IntKind.min, IntKind.max, IntKind.signed, IntKind.bits] using h1, by simpa [Lit.wf, IntKind.min, IntKind.max, IntKind.signed, IntKind.bits] using h2, by simpa [Lit.wf, IntKind.min, IntKind.max, IntKind.signed, IntKind.bits] using h3⟩
theorem two_u8 {l : List Value} (h : okL [.i .u8, .i .u8] l = true) : ∃ p q : Int, l = [.int .u8 p, .int .u8 q] ∧ (0 ≤ p ∧ p ≤ 255) ∧ 0 ≤ q ∧ q ≤ 255 := by
  match l, okL_len h with
  | [a, b], _ =>
    simp only [okL, Bool.and_eq_true, and_true] at h
    cases a <;> cases b <;> simp [okK] at h
    obtain ⟨⟨rfl, h1⟩, rfl, h2⟩ := h
    exact ⟨_, _, rfl, by simpa [Lit.wf, IntKind.min, IntKind.max, IntKind.signed, IntKind.bits] using h1, by simpa [Lit.wf, IntKind.min, IntKind.max, IntKind.signed, IntKind.bits] using h2⟩
end
end Go.Proofs.Ytbdklfcgcmdgaaa
