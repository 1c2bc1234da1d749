/-
  CliquesMeet: the plain law; what one holds of all.
-/
import Derived.Test.YtlfpchkoeipcdaaEven
import Derived.Test.YtlfpchkoeipcdaaAgs1
import Derived.Test.YtlfpchkoeipcdaaLie
namespace Go.Proofs.Ytlfpchkoeipcdaa
open Go.RowKit
set_option linter.unusedVariables false
set_option linter.unusedSimpArgs false

theorem evenN_take (L : List Hd) (c : Int) (hc : okI c = true) : ∀ k, k ≤ L.length → evenN (L.take k) c ≤ (agesOf (L.take k)).countP (fun y => decide (y = c)) ∧ (agesOf (L.take k)).length ≤ k
  | 0, _ => by simp [evenN, agesOf]
  | k + 1, hk => by
    obtain ⟨h1, h2⟩ := evenN_take L c hc k (by omega)
    obtain ⟨h, hh⟩ : ∃ h, L[k]? = some h := ⟨_, List.getElem?_eq_getElem (by omega)⟩
    rw [evenN_succ _ _ _ _ hh, agesOf_succ hh, List.countP_append, List.length_append]
    have h3 := oneAge_len h
    refine ⟨?_, by omega⟩
    split
    · rename_i hy
      simp only [Bool.and_eq_true, beq_iff_eq] at hy
      have : oneAge h = [c] := by
        unfold oneAge okAge
        rw [hy.1, hy.2, hc]; rfl
      rw [this]
      simp; omega
    · omega
/-- an even vector's age is its common one -/
theorem even_common {n : Nat} (h4 : 4 ≤ n) (h16 : n ≤ 16) {L : List Hd} (hL : L.length = n) {c : Int} (h : evenF n L c = true) : commonF n L = c := by
  have h' := h
  simp only [evenF, Bool.and_eq_true, decide_eq_true_eq, Int.toNat_natCast] at h'
  obtain ⟨⟨⟨⟨-, -⟩, hc0⟩, hc1⟩, hev⟩ := h'
  have hok : okI c = true := by simp [okI, hc0, hc1]
  obtain ⟨h1, h2⟩ := evenN_take L c hok n (by omega)
  have hll : (agesOf (L.take n)).countP (fun y => decide (y = c)) ≤ (agesOf (L.take n)).length := List.countP_le_length
  have hm : mostN (agesOf (L.take n)) c ≤ (agesOf (L.take n)).length := List.countP_le_length
  have he := mostN_eq (agesOf (L.take n)) c
  unfold commonF
  rw [if_pos (by omega)]
  simp only [Int.toNat_natCast]
  rw [if_neg (by omega)]
  exact (medI_unique (by omega) (by omega) (by omega)).symm
/-- of each that is not the bad one: nothing, or what it said -/
def saysP (n bad : Nat) (s : Nat → Int) (L : List Hd) : Prop := L.length = n ∧ ∀ (i : Nat) (h : Hd), L[i]? = some h → i ≠ bad → h = hd0 ∨ (h.is = true ∧ ageL h.c = s i)
theorem two_even {n bad : Nat} {s : Nat → Int} {L M : List Hd} (hL : saysP n bad s L) (hM : saysP n bad s M) {p q : Int} (hpq : p ≠ q) : ∀ k, k ≤ n → evenN (L.take k) p + evenN (M.take k) q ≤ k + if bad < k then 1 else 0
  | 0, _ => by simp [evenN]
  | k + 1, hk => by
    have ih := two_even hL hM hpq k (by omega)
    obtain ⟨h, hh⟩ : ∃ h, L[k]? = some h := ⟨_, List.getElem?_eq_getElem (by have := hL.1; omega)⟩
    obtain ⟨g, hg⟩ : ∃ g, M[k]? = some g := ⟨_, List.getElem?_eq_getElem (by have := hM.1; omega)⟩
    rw [evenN_succ _ _ _ _ hh, evenN_succ _ _ _ _ hg]
    by_cases hb : k = bad
    · subst hb
      have e1 : (if k < k then 1 else 0) = 0 := if_neg (by omega)
      have e2 : (if k < k + 1 then 1 else 0) = 1 := if_pos (by omega)
      rw [e1] at ih
      rw [e2]
      split <;> split <;> omega
    · have hno : ¬ ((h.is && ageL h.c == p) = true ∧ (g.is && ageL g.c == q) = true) := by
        rintro ⟨h1, h2⟩
        simp only [Bool.and_eq_true, beq_iff_eq] at h1 h2
        rcases hL.2 k h hh hb with rfl | ⟨-, e1⟩
        · simp [hd0] at h1
        · rcases hM.2 k g hg hb with rfl | ⟨-, e2⟩
          · simp [hd0] at h2
          · exact hpq (by rw [← h1.2, ← h2.2, e1, e2])
      have hif : (if bad < k then 1 else 0) = (if bad < k + 1 then 1 else 0) := by
        by_cases h : bad < k
        · rw [if_pos h, if_pos (by omega)]
        · rw [if_neg h, if_neg (by omega)]
      rw [hif] at ih
      by_cases h1 : (h.is && ageL h.c == p) = true
      · have h2 : ¬ (g.is && ageL g.c == q) = true := fun h2 => hno ⟨h1, h2⟩
        rw [if_pos h1, if_neg h2]; omega
      · rw [if_neg h1]; split <;> omega
theorem even_meet {n bad : Nat} (h4 : 4 ≤ n) {s : Nat → Int} {L M : List Hd} (hL : saysP n bad s L) (hM : saysP n bad s M) {p q : Int} (h1 : evenF n L p = true) (h2 : evenF n M q = true) : p = q := by
  by_cases hpq : p = q
  · exact hpq
  · exfalso
    have hk := two_even hL hM hpq n (Nat.le_refl _)
    simp only [evenF, Bool.and_eq_true, decide_eq_true_eq, Int.toNat_natCast] at h1 h2
    have a1 := h1.2
    have a2 := h2.2
    split at hk <;> omega

theorem hd_cell1' {h : Hd} (hk : h.ok) : h.vals.all cell1 = true := by
  have := okL_cell1 hk
  simp only [Hd.vals, List.all_cons, this, Bool.and_true]; rfl
/-- what one holds of all -/
def ViewPost (n bad : Nat) (s : Nat → Int) (w : World) (e : Ending) (w' : World) : Prop :=
  ∃ (g : Nat) (L : List Hd), e = .returned (.slice (some ⟨g, 0, none⟩) n n) ∧ Blk w' g 46 (flatH L).toArray ∧ w.heap.size ≤ g ∧ (∀ x ∈ L, x.ok) ∧ saysP n bad s L ∧ Below w.heap.size w w'
def saidS (S : List Int) (i : Nat) : Int := S.getD (i % S.length) 0
structure VwR (w : World) (n bad : Nat) (S : List Int) (wr : World) : Prop where
  b : ∃ L : List Hd, Blk wr (w.heap.size + 1) 46 (flatH L).toArray ∧ (∀ x ∈ L, x.ok) ∧ saysP n bad (saidS S) L
  bel : Below w.heap.size w wr
theorem says_set {n bad : Nat} {s : Nat → Int} {L : List Hd} (h : saysP n bad s L) {k : Nat} {x : Hd} (hx : k = bad ∨ (x.is = true ∧ ageL x.c = s k)) : saysP n bad s (L.set k x) :=
  ⟨by rw [List.length_set]; exact h.1, fun i y hy hi => by
    rw [List.getElem?_set] at hy
    by_cases hk : k = i
    · subst hk
      rw [if_pos rfl] at hy
      split at hy
      · cases hy
        rcases hx with hx | hx
        · exact absurd hx hi
        · exact .inr hx
      · cases hy
    · rw [if_neg hk] at hy
      exact h.2 i y hy hi⟩
theorem says_rep (n bad : Nat) (s : Nat → Int) : saysP n bad s (List.replicate n hd0) :=
  ⟨by simp, fun i y hy _ => .inl (List.eq_of_mem_replicate (List.mem_of_getElem? hy))⟩
end Go.Proofs.Ytlfpchkoeipcdaa
