/-
  sennitlaw15.Same, sennitlaw15.spoil; sennitref15.has, sennitref15.Table. sennitlaw15.spoil; sennitref15.has. sennitref15.Table. sennitref15.Agree.
-/
import Derived.Test.YtbdklfcgcmdgaaaGb37
import Derived.Deep.RegionLaw
namespace Go.Proofs.Ytbdklfcgcmdgaaa
open Go.RowKit
set_option linter.unusedVariables false
set_option linter.unusedSimpArgs false

end Go.Proofs.Ytbdklfcgcmdgaaa
namespace Go.Proofs.Ytbdklfcgcmdgaaa
open Go.RowKit
set_option linter.unusedVariables false
set_option linter.unusedSimpArgs false

theorem flatH_two {l : List Hd} (h : ∀ x ∈ l, x.ok) {k : Nat} {is : Bool} {c : Value} {r : List Value} (hk : l[k]? = some ⟨is, c :: r⟩) (is' : Bool) (c' : Value) :
    ((flatH l).toArray.setIfInBounds (k * 56 + 1) c').setIfInBounds (k * 56) (.bool is') = (flatH (l.set k ⟨is', c' :: r⟩)).toArray := by
  have hkl : k < l.length := (List.getElem?_eq_some_iff.1 hk).1
  have e1 : l = l.take k ++ ⟨is, c :: r⟩ :: l.drop (k + 1) := by
    have := List.getElem?_eq_some_iff.1 hk
    obtain ⟨_, h2⟩ := this
    rw [← h2, List.getElem_cons_drop, List.take_append_drop]
  have hA : (flatH (l.take k)).length = k * 56 := by
    rw [len_flatH (fun x hx => h x (List.mem_of_mem_take hx))]
    simp; omega
  have e2 : l.set k ⟨is', c' :: r⟩ = l.take k ++ ⟨is', c' :: r⟩ :: l.drop (k + 1) := by
    conv => lhs; rw [e1]
    rw [List.set_append, if_neg (by simp; omega)]
    have e0 : k - (l.take k).length = 0 := by simp; omega
    rw [e0]; rfl
  rw [e2]
  conv => lhs; rw [e1]
  rw [flatH_append, flatH_append]
  simp only [List.setIfInBounds_toArray]
  rw [List.set_append, if_neg (by omega), List.set_append, if_neg (by omega), hA]
  rw [show k * 56 + 1 - k * 56 = 1 from by omega, Nat.sub_self]
  simp [flatH, Hd.vals]

/-- what row k's table has of s, as it lies there -/
def hasH (l : List Rw) (k s : Nat) : Hd := match l[k]? with
  | some r => if r.is then (match r.t[s]? with | some h => h | none => hd0) else hd0
  | none => hd0
theorem hasC_hasH (l : List Rw) (k s : Nat) : hasC l k s = if (hasH l k s).is then some (hasH l k s).c else none := by
  unfold hasC hasH
  cases hv : l[k]? with
  | none => simp [hd0]
  | some r =>
    by_cases his : r.is = true
    · simp only [his, if_true]
      cases ht : r.t[s]? with
      | none => simp [hd0]
      | some h => simp
    · simp [his, hd0]
theorem hasH_ok {l : List Rw} (h : ∀ r ∈ l, r.ok) (k s : Nat) : (hasH l k s).ok := by
  unfold hasH
  cases hv : l[k]? with
  | none => exact hd0_ok
  | some r =>
    by_cases his : r.is = true
    · simp only [his, if_true]
      cases ht : r.t[s]? with
      | none => exact hd0_ok
      | some x => exact (h r (List.mem_of_getElem? hv)).2 x (List.mem_of_getElem? ht)
    · simp only [his, Bool.false_eq_true, if_false]; exact hd0_ok

end Go.Proofs.Ytbdklfcgcmdgaaa
namespace Go.Proofs.Ytbdklfcgcmdgaaa
open Go.RowKit
set_option linter.unusedVariables false
set_option linter.unusedSimpArgs false

/-- a vector that was appended in new memory -/
def RVecPost (L : List Hd) (w : World) (e : Ending) (w' : World) : Prop :=
  (∃ a cap, e = .returned (.slice a L.length cap) ∧ RdHs (w.heap.size ≤ ·) w' a L.length L) ∧ Below w.heap.size w w'
structure OV (w : World) (L : List Hd) (k : Nat) (v : Value) (wr : World) : Prop where
  own : wr.ownsRow w.heap.size 161 56 v k ((L.take k).flatMap Hd.vals)
  bel : Below w.heap.size w wr
theorem OV.start (w : World) (L : List Hd) : OV w L 0 (.slice none 0 0) w := ⟨by simpa using World.ownsRow_nil _ _ _ _, Below.refl _ _⟩
theorem OV.step {w : World} {L : List Hd} {k : Nat} {v v' : Value} {wr wm w1 : World} (h : OV w L k v wr) (hm : Below wr.heap.size wr wm) (hg : wm.grownBy w1 v.ownBlock) {y : Hd} (hy : L[k]? = some y)
    (ho : w1.ownsRow w.heap.size 161 56 v' (k + 1) ((L.take k).flatMap Hd.vals ++ y.vals)) : OV w L (k + 1) v' w1 := by
  refine ⟨?_, (h.bel.trans (hm.mono h.bel.size)).grown hg (by have := hm.size; have := h.bel.size; omega) (fun q hq => by have := (h.own.lt q hq).1; omega)⟩
  rw [List.take_add_one, hy, List.flatMap_append]
  simpa using ho
theorem OV.post {w : World} {L : List Hd} {v : Value} {wr : World} (h : OV w L L.length v wr) (hL : ∀ x ∈ L, x.ok) : RVecPost L w (.returned v) wr := by
  obtain ⟨ra, rcap, rfl, ho1, ho2, ho3⟩ := RdHs.of_own h.own (fun y hy => hL y (List.mem_of_mem_take hy))
  rw [List.take_length] at ho1
  exact ⟨⟨_, _, rfl, ho1⟩, h.bel⟩

end Go.Proofs.Ytbdklfcgcmdgaaa
namespace Go.Proofs.Ytbdklfcgcmdgaaa
open Go.RowKit
set_option linter.unusedVariables false
set_option linter.unusedSimpArgs false

def FP (n s : Nat) (l : List Rw) (M k : Nat) (h : Hd) : Prop :=
  (h = hd0 ∧ ∀ j, j < k → j ≠ s → ∀ c, hasC l j s = some c → 2 * cntL s l M c ≤ n - 1) ∨ (∃ c, h = ⟨true, c⟩ ∧ okL cellK c = true ∧ n - 1 < 2 * cntL s l M c)
theorem FP.start (n s : Nat) (l : List Rw) (M : Nat) : FP n s l M 0 hd0 := .inl ⟨rfl, fun j hj => by omega⟩
theorem FP.ok {n s : Nat} {l : List Rw} {M k : Nat} {h : Hd} (p : FP n s l M k h) : h.ok := by
  rcases p with ⟨rfl, -⟩ | ⟨c, rfl, h1, -⟩
  · exact hd0_ok
  · exact h1
theorem FP.skip {n s : Nat} {l : List Rw} {M k : Nat} {h : Hd} (p : FP n s l M k h) (hno : k = s ∨ hasC l k s = none) : FP n s l M (k + 1) h := by
  rcases p with ⟨rfl, h1⟩ | h1
  · refine .inl ⟨rfl, fun j hj hs c hc => ?_⟩
    by_cases hjk : j = k
    · subst hjk
      rcases hno with rfl | hno
      · exact absurd rfl hs
      · rw [hno] at hc; cases hc
    · exact h1 j (by omega) hs c hc
  · exact .inr h1
theorem FP.less {n s : Nat} {l : List Rw} {M k : Nat} {h : Hd} (p : FP n s l M k h) {c : List Value} (hc : hasC l k s = some c) (hl : 2 * cntL s l M c ≤ n - 1) : FP n s l M (k + 1) h := by
  rcases p with ⟨rfl, h1⟩ | h1
  · refine .inl ⟨rfl, fun j hj hs c' hc' => ?_⟩
    by_cases hjk : j = k
    · subst hjk
      rw [hc] at hc'
      cases hc'
      exact hl
    · exact h1 j (by omega) hs c' hc'
  · exact .inr h1
theorem FP.more {n s : Nat} {l : List Rw} {M k : Nat} {c : List Value} (hc : okL cellK c = true) (hl : n - 1 < 2 * cntL s l M c) : FP n s l M (k + 1) ⟨true, c⟩ := .inr ⟨c, rfl, hc, hl⟩
theorem cntL_pos (s : Nat) (l : List Rw) (c : List Value) : ∀ k, 0 < cntL s l k c → ∃ j, j < k ∧ j ≠ s ∧ hasC l j s = some c
  | 0, h => by simp [cntL] at h
  | k + 1, h => by
    by_cases hk : k ≠ s ∧ hasC l k s = some c
    · exact ⟨k, by omega, hk.1, hk.2⟩
    · have e : cntL s l (k + 1) c = cntL s l k c := by
        show cntL s l k c + _ = _
        rw [if_neg hk]; rfl
      obtain ⟨j, h1, h2⟩ := cntL_pos s l c k (by omega)
      exact ⟨j, by omega, h2⟩
theorem cntL_far (s : Nat) (l : List Rw) (c : List Value) : ∀ k, l.length ≤ k → cntL s l k c = cntL s l l.length c
  | 0, h => by have : l.length = 0 := by omega
               rw [this]
  | k + 1, h => by
    by_cases hk : l.length = k + 1
    · rw [hk]
    · have e : cntL s l (k + 1) c = cntL s l k c := by
        show cntL s l k c + _ = _
        rw [if_neg (fun h2 => ?_)]
        · rfl
        · have := h2.2
          unfold hasC at this
          rw [List.getElem?_eq_none (by omega)] at this
          cases this
      rw [e, cntL_far s l c k (by omega)]
theorem cntL_min (s : Nat) (l : List Rw) (c : List Value) (n : Nat) : cntL s l n c = cntL s l (min n l.length) c := by
  by_cases h : n ≤ l.length
  · rw [Nat.min_eq_left h]
  · rw [Nat.min_eq_right (by omega), cntL_far s l c n (by omega)]
theorem FP.done {n s : Nat} {l : List Rw} {h : Hd} (hs : s < n) (p : FP n s l n n h) : h = mostH n s l (min n l.length) := by
  refine MostP.eq hs (Nat.min_le_left _ _) ?_
  rcases p with ⟨rfl, h1⟩ | ⟨c, rfl, h1, h2⟩
  · refine .inr ⟨rfl, fun c => ?_⟩
    rw [← cntL_min]
    by_cases h0 : 0 < cntL s l n c
    · obtain ⟨j, hj, hjs, hc⟩ := cntL_pos s l c n h0
      exact h1 j hj hjs c hc
    · omega
  · exact .inl ⟨c, rfl, h1, by rw [← cntL_min]; exact h2⟩

/-- what a round of the middle loop knows: the block of what was found -/
structure MG (g : Nat) (w7 : World) (n s : Nat) (l : List Rw) (k : Nat) (wr : World) : Prop where
  blk : ∃ h, Blk wr g 161 h.vals.toArray ∧ FP n s l n k h
  bel : Below g w7 wr
theorem MG.skip {g : Nat} {w7 : World} {n s : Nat} {l : List Rw} {k : Nat} {wr w1 : World} (h : MG g w7 n s l k wr) (hb : Below wr.heap.size wr w1) (hno : k = s ∨ hasC l k s = none) : MG g w7 n s l (k + 1) w1 := by
  obtain ⟨⟨x, hx, hf⟩, hB⟩ := h
  exact ⟨⟨x, hx.below hb hx.lt, hf.skip hno⟩, hB.trans (hb.mono (Nat.le_of_lt hx.lt))⟩
theorem MG.less {g : Nat} {w7 : World} {n s : Nat} {l : List Rw} {k : Nat} {wr w1 : World} (h : MG g w7 n s l k wr) (hb : Below wr.heap.size wr w1) {c : List Value} (hc : hasC l k s = some c) (hl : 2 * cntL s l n c ≤ n - 1) : MG g w7 n s l (k + 1) w1 := by
  obtain ⟨⟨x, hx, hf⟩, hB⟩ := h
  exact ⟨⟨x, hx.below hb hx.lt, hf.less hc hl⟩, hB.trans (hb.mono (Nat.le_of_lt hx.lt))⟩
theorem MG.more {g : Nat} {w7 : World} {n s : Nat} {l : List Rw} {k : Nat} {wr w1 : World} (h : MG g w7 n s l k wr) (hb : Below wr.heap.size wr w1) {c : List Value} (hc : okL cellK c = true) (hl : n - 1 < 2 * cntL s l n c) :
    canPut w1 ⟨g, 0, none⟩ 56 = true ∧ MG g w7 n s l (k + 1) (putRow w1 ⟨g, 0, none⟩ (Hd.vals ⟨true, c⟩)) := by
  obtain ⟨⟨x, hx, hf⟩, hB⟩ := h
  have hx1 := hx.below hb hx.lt
  have hxl := Hd.vals_len hf.ok
  have hcl : (Hd.vals ⟨true, c⟩).length = 56 := Hd.vals_len (h := ⟨true, c⟩) hc
  obtain ⟨-, -, p3⟩ := hx1.whole (n := 56) hxl
  exact ⟨p3, ⟨_, hx1.put_all (by rw [hxl, hcl]), FP.more hc hl⟩, Below.put (hB.trans (hb.mono (Nat.le_of_lt hx.lt))) (p := ⟨g, 0, none⟩) (Nat.le_refl _) _⟩
end Go.Proofs.Ytbdklfcgcmdgaaa
