/-
  A ring, tick by tick: its two calls; what was said, kept by the law.
-/
import Derived.Test.YtbdklfcgcmdgaaaGa46
import Derived.Test.YtbdklfcgcmdgaaaGa47
import Derived.Test.YtbdklfcgcmdgaaaGa49
import Derived.Test.YtbdklfcgcmdgaaaGa19
namespace Go.Proofs.Ytbdklfcgcmdgaaa
open Go.RowKit
set_option linter.unusedVariables false
set_option linter.unusedSimpArgs false

section
variable (N : Nat) (F : FltM) (on : Nat → Nat → Bool) (own : Nat → Nat → Rw)
theorem put_T (L : LaneM) (ins : Nat → List Rw) : (L.put ins).T = L.T + 1 := rfl
theorem said_T (L : LaneM) (r : Rw) : (L.said r).T = L.T := by unfold LaneM.said; split <;> rfl
theorem rgT_T (t i : Nat) : ((rgT N F on own t).lane i).T ≤ t := by
  induction t with
  | zero => exact Nat.le_refl _
  | succ t ih =>
    have key : (((rgT N F on own t).hear (on t)).lane i).T ≤ t + 1 := by
      show (if on t i then (if (rgT N F on own t).on i then (rgT N F on own t).lane i else LaneM.new (rgT N F on own t).N i).put ((rgT N F on own t).insM i) else (rgT N F on own t).lane i).T ≤ t + 1
      split
      · rw [put_T]
        split
        · omega
        · show 0 + 1 ≤ t + 1; omega
      · omega
    rw [rgT_succ]
    show (if ((rgT N F on own t).hear (on t)).on i then (((rgT N F on own t).hear (on t)).lane i).said (own t i) else ((rgT N F on own t).hear (on t)).lane i).T ≤ t + 1
    split
    · rw [said_T]; exact key
    · exact key
theorem hear_T (t i : Nat) (h : on t i = true) : (((rgT N F on own t).hear (on t)).lane i).b = true ∧ 0 < (((rgT N F on own t).hear (on t)).lane i).T ∧ (((rgT N F on own t).hear (on t)).lane i).T ≤ t + 1 := by
  have hl := laneB_all N F on own t i h
  have hb : (laneH N F on own t i).b = true := hl.b
  have hT : (laneH N F on own t i).T = runs on t i := hl.T
  have h1 := (runs_on on t i).2 h
  have h2 := runs_le on t i
  exact ⟨hb, by show 0 < (laneH N F on own t i).T; omega, by show (laneH N F on own t i).T ≤ _; omega⟩
theorem hear_tick {tag : Nat → Nat} {wr : World} {rg : Nat} {av : Value} {P : RgP} {t ob oc : Nat} (h : RingAt tag wr rg av (rgT N F on own t) P) (ht : t ≤ 100000) (hon : ∀ i, i < N → wr.cell? ⟨ob, i, none⟩ = some (.bool (on t i))) (hob : ob < wr.heap.size) (hobt : ¬ Rgs tag N ob) :
    Calls Try.prog 32 #[.pointer (some ⟨rg, 0, none⟩), .slice (some ⟨ob, 0, none⟩) N oc] wr (RingHeard tag rg av (rgT N F on own t) (on t) wr) := by
  have hN := (rgT_N N F on own t).1
  have := ringHear_any tag rg av (rgT N F on own t) P (on t) ob oc wr h (by rw [hN]; exact hon) hob (by rw [hN]; exact hobt) (fun i _ => by have := rgT_T N F on own t i; omega) (by rw [rgT_len]; omega)
  rwa [hN] at this
theorem say_tick {tag : Nat → Nat} {wr : World} {rg : Nat} {av : Value} {P : RgP} {t oc : Nat} {So : Nat → Prop} {oa : Option Addr} (h : RingAt tag wr rg av ((rgT N F on own t).hear (on t)) P) (ht : t ≤ 100000) (hO : RdRs So wr oa N (tab N (own t))) (hSo : ∀ b, b < wr.heap.size → So b → ¬ Rgs tag N b) (hoc : N ≤ oc) :
    Calls Try.prog 33 #[.pointer (some ⟨rg, 0, none⟩), .slice oa N oc] wr (RingSaid tag rg av ((rgT N F on own t).hear (on t)) (own t) wr) := by
  have hN : ((rgT N F on own t).hear (on t)).N = N := (rgT_N N F on own t).1
  have := ringSay_any tag rg av ((rgT N F on own t).hear (on t)) P (own t) So oa oc wr h (by rw [hN]; exact hO) (by rw [hN]; exact hSo) (by rw [hN]; exact hoc) (fun i _ hi => by
    obtain ⟨h1, h2, h3⟩ := hear_T N F on own t i hi
    exact ⟨h1, h2, by omega⟩) (by show (rgT N F on own t).sent.length ≤ _; rw [rgT_len]; omega)
  rwa [hN] at this
end
/-- a bad one? -/
theorem bad_node {tag : Nat → Nat} {w w' : World} {rg : Nat} {av : Value} {R : RingM} {P : RgP} (h : RingAt tag w rg av R P) (hb : Below w.heap.size w w') {N : Nat} {F : FltM} (hN : R.N = N) (hF : R.F = F) {i : Nat} (hi : i < N) :
    Calls Try.prog 34 #[.pointer (some ⟨rg, 0, none⟩), .int .i64 i] w' (BadPost (!F.link && decide (F.at_ % N = i)) w') := by
  subst hN hF
  have h2 := h.below hb
  obtain ⟨c0, c1, c2, -⟩ := h2.cells
  exact bad_any rg R.N R.F.at_ R.F.link i w' c0 c1 c2 h2.bd.1 h2.bd.2 h2.fl.1 hi
def Same14 (b : Bool) (w : World) (e : Ending) (w' : World) : Prop := e = .returned (.bool b) ∧ Below w.heap.size w w'
set_option maxRecDepth 100000 in
set_option maxHeartbeats 1000000 in
theorem same14_any (S S' : Nat → Prop) (r r' : Rw) (hr : r.ok) (hr' : r'.ok) (tv tv' : Value) (w : World) (ht : RowR S w r tv) (ht' : RowR S' w r' tv') (hrr : r = r') :
    Calls Try.prog 36 #[.agg (r.vals tv).toArray, .agg (r'.vals tv').toArray] w (Same14 true w) := by
  subst hrr
  obtain ⟨v, hv⟩ : ∃ v, v = r.vals tv := ⟨_, rfl⟩
  obtain ⟨v', hv'⟩ : ∃ v', v' = r.vals tv' := ⟨_, rfl⟩
  rw [← hv, ← hv']
  have hvl : v.length = 57 := by rw [hv]; exact Rw.len hr _
  have hvl' : v'.length = 57 := by rw [hv']; exact Rw.len hr _
  have hB := ((Below.refl w.heap.size w).alloc (Nat.le_refl _) (.cells v.toArray 54)).alloc (by simp) (.cells v'.toArray 54)
  have k0 : Blk ((w.alloc (.cells v.toArray 54)).alloc (.cells v'.toArray 54)) w.heap.size 54 v.toArray := (Blk.new _ _ _).alloc _
  have k1 := Blk.new (w.alloc (.cells v.toArray 54)) 54 v'.toArray
  rw [show (w.alloc (.cells v.toArray 54)).heap.size = w.heap.size + 1 from by simp] at k1
  obtain ⟨p1, p2, -⟩ := k0.whole (n := 57) hvl
  obtain ⟨q1, q2, -⟩ := k1.whole (n := 57) hvl'
  have hc0 := same_any S S' r r hr hr tv tv' _ (ht.below hB) (ht'.below hB)
  rw [← hv, ← hv'] at hc0
  have hc1 : Calls Try.prog 48 #[.agg v.toArray, .agg v'.toArray] ((w.alloc (.cells v.toArray 54)).alloc (.cells v'.toArray 54)) (Same14 true ((w.alloc (.cells v.toArray 54)).alloc (.cells v'.toArray 54))) := by
    refine hc0.mono ?_
    rintro e w' ⟨rfl, h2⟩
    exact ⟨by simp, h2⟩
  have HC := Lib.hid hc1
  clear hc1
  clear hc0
  have HB := Lib.hid hB
  clear hv hv' k0 k1 ht ht' hB
  go_enter Try.func36, Try.ntmps36
  go_upto_region 1 with fail
  generalize ((w.alloc (.cells v.toArray 54)).alloc (.cells v'.toArray 54)) = w2 at p1 p2 q1 q2 HC HB ⊢
  go_wp2_with fail
  (with_reducible refine HC.out.mono ?_)
  rintro e w3 ⟨rfl, hb⟩
  have HE := Lib.hid (HB.out.trans (hb.mono HB.out.size))
  clear hb
  go_wp2_with fail
  go_ret
  exact ⟨rfl, HE.out⟩
/-- what was said, tick by tick: a list that grows -/
structure WasB (base : Nat) (f : Nat → List Rw) (tag : Nat → Nat) (k : Nat) (v : Value) (xs : List Value) (wr : World) : Prop where
  own : wr.ownsRow base 32 1 v k xs
  tv : ∀ g, v.ownBlock = some g → tag g = 98
  he : ∀ j, j < k → ∃ u, xs[j]? = some u ∧ WdAt (Sn tag wr) wr u (f j)
section
variable {base : Nat} {f : Nat → List Rw} {tag : Nat → Nat} {k : Nat} {v : Value} {xs : List Value} {wr wm w3 : World}
theorem WasB.start (base : Nat) (f : Nat → List Rw) (tag : Nat → Nat) (wr : World) : WasB base f tag 0 (.slice none 0 0) [] wr := ⟨World.ownsRow_nil _ _ _ _, fun g hg => by simp [Value.ownBlock] at hg, fun j hj => absurd hj (by omega)⟩
/-- a change that spares what is read alone and this list -/
theorem WasB.move (h : WasB base f tag k v xs wr) {S : Nat → Prop} (hc : Chg S wr wm) (hS : ∀ b, b < wr.heap.size → S b → tag b ≠ 0 ∧ v.ownBlock ≠ some b) {tag' : Nat → Nat} (ht : ∀ b, b < wr.heap.size → tag' b = tag b) : WasB base f tag' k v xs wm := by
  refine ⟨own_block h.own fun b hb => hc.block b (h.own.lt b hb).2 fun hs => (hS b (h.own.lt b hb).2 hs).2 hb, fun g hg => by rw [ht g (h.own.lt g hg).2]; exact h.tv g hg, fun j hj => ?_⟩
  obtain ⟨u, e1, e2⟩ := h.he j hj
  exact ⟨u, e1, (e2.keep hc.size fun b hb hl => hc.block b hl fun hs => (hS b hl hs).1 hb.1).mono fun b _ hb => ⟨by rw [ht b hb.2]; exact hb.1, by have := hc.size; have := hb.2; omega⟩⟩
theorem WasB.rgs (h : WasB base f tag k v xs wr) {N : Nat} (h16 : N ≤ 16) (hc : Chg (Rgs tag N) wr wm) {tag' : Nat → Nat} (ht : ∀ b, b < wr.heap.size → tag' b = tag b) : WasB base f tag' k v xs wm :=
  h.move hc (fun b _ hb => ⟨fun e => by have := hb.1; omega, fun e => by have := h.tv b e; have := hb.2; omega⟩) ht
theorem WasB.below (h : WasB base f tag k v xs wr) (hb : Below wr.heap.size wr wm) {tag' : Nat → Nat} (ht : ∀ b, b < wr.heap.size → tag' b = tag b) : WasB base f tag' k v xs wm :=
  h.move (Chg.of_below hb fun _ => False) (fun _ _ h => h.elim) ht
theorem WasB.push (h : WasB base f tag k v xs wr) {u : Value} (hu : WdAt (Sn tag wr) wr u (f k)) {o : Obj} (hg : (wr.alloc o).grownBy w3 v.ownBlock) {g cap : Nat} (htg : ∀ b, wr.heap.size ≤ b → tag b = 98)
    (ho : w3.ownsRow base 32 1 (.slice (some ⟨g, 0, none⟩) (k + 1) cap) (k + 1) (xs ++ [u])) (hlie : v.ownBlock = some g ∨ g = (wr.alloc o).heap.size) : WasB base f tag (k + 1) (.slice (some ⟨g, 0, none⟩) (k + 1) cap) (xs ++ [u]) w3 := by
  have hs2 : (wr.alloc o).heap.size = wr.heap.size + 1 := by simp
  have hs3 := hg.size
  have hxl : xs.length = k := by have := h.own.1; omega
  have hk : ∀ b, b < wr.heap.size → tag b = 0 → w3.heap[b]? = wr.heap[b]? := fun b hb h0 => (hg.block b (by omega) (fun e => by have := h.tv b e.symm; omega)).trans (Below.heap_alloc _ _ _ hb)
  have hmv : ∀ {u' : Value} {l : List Rw}, WdAt (Sn tag wr) wr u' l → WdAt (Sn tag w3) w3 u' l := fun {u' l} h' =>
    (h'.keep (by omega) fun b hb hl => hk b hl hb.1).mono fun b _ hb => ⟨hb.1, by have := hb.2; omega⟩
  refine ⟨ho, fun g' hg' => ?_, fun j hj => ?_⟩
  · simp only [Value.ownBlock, Option.some.injEq] at hg'
    subst hg'
    rcases hlie with e | e
    · exact h.tv g e
    · exact htg g (by omega)
  · by_cases hjk : j < k
    · obtain ⟨u', e1, e2⟩ := h.he j hjk
      exact ⟨u', by rw [List.getElem?_append_left (by omega)]; exact e1, hmv e2⟩
    · have : j = k := by omega
      subst this
      exact ⟨u, by rw [List.getElem?_append_right (by omega), hxl]; simp, hmv hu⟩
/-- one tick's list, read -/
theorem WasB.at_ (h : WasB base f tag k v xs wr) {j : Nat} (hj : j < k) : ∃ g cap u, v = .slice (some ⟨g, 0, none⟩) k cap ∧ k ≤ cap ∧ cap ≤ maxLen ∧ g < wr.heap.size ∧ wr.cell? ⟨g, j, none⟩ = some u ∧ WdAt (Sn tag wr) wr u (f j) := by
  rcases h.own.2 with ⟨-, h0⟩ | ⟨g, cap, cur, rfl, g1, g2, g3, g4, g5, g6⟩
  · omega
  · obtain ⟨u, e1, e2⟩ := h.he j hj
    refine ⟨g, cap, u, rfl, g3, g4, lt_of_some g2, ?_, e2⟩
    rw [cell_of_row wr g _ cur _ (0, 0) g2]
    have e1' : cur[j]? = (cur.toList.take (k * 1))[j]? := by rw [List.getElem?_take, if_pos (by omega)]; simp
    rw [e1', g6, e1]
end
/-- new blocks become what is read alone -/
theorem RingAt.sealNew {tag : Nat → Nat} {wr wm : World} {rg : Nat} {av : Value} {R : RingM} {P : RgP} (h : RingAt tag wr rg av R P) (hb : Below wr.heap.size wr wm) : RingAt (tagR tag wr.heap.size wm.heap.size 0) wm rg av R P :=
  (h.below hb).seal fun b => by
    by_cases hbb : wr.heap.size ≤ b ∧ b < wm.heap.size
    · exact .inr ⟨h.tg b hbb.1, tagR_in hbb.1 hbb.2, hbb.2⟩
    · exact .inl (if_neg hbb)
end Go.Proofs.Ytbdklfcgcmdgaaa
