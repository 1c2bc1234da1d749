/-
  agrees.most: the cell that most of the others' tables have of a node.
-/
import Derived.Test.YtphbmnjkhgfnoaaMap2
import Derived.Test.YtphbmnjkhgfnoaaWrdD
import Derived.RegionTactic
namespace Go.Proofs.Ytphbmnjkhgfnoaa
open Go.RowKit
set_option linter.unusedVariables false
set_option linter.unusedSimpArgs false

/-- what row k's table has of s -/
def hasC (l : List Rw) (k s : Nat) : Option (List Value) := match l[k]? with
  | some r => if r.is then (match r.t[s]? with | some h => if h.is then some h.c else none | none => none) else none
  | none => none
open Classical in
/-- in how many of the first k tables, its own aside, s has the cell c -/
noncomputable def cntL (s : Nat) (l : List Rw) : Nat → List Value → Nat
  | 0, _ => 0
  | k + 1, c => cntL s l k c + if k ≠ s ∧ hasC l k s = some c then 1 else 0
theorem cntL_le (s : Nat) (l : List Rw) (c : List Value) : ∀ k, cntL s l k c ≤ k
  | 0 => Nat.le_refl _
  | k + 1 => by
    have := cntL_le s l c k
    unfold cntL
    split <;> omega
theorem cntL_mono (s : Nat) (l : List Rw) (c : List Value) {k : Nat} : ∀ {j : Nat}, k ≤ j → cntL s l k c ≤ cntL s l j c
  | 0, h => by have : k = 0 := by omega
               subst this; exact Nat.le_refl _
  | j + 1, h => by
    by_cases hk : k = j + 1
    · subst hk; exact Nat.le_refl _
    · have := cntL_mono s l c (k := k) (j := j) (by omega)
      have h2 : cntL s l (j + 1) c ≥ cntL s l j c := by
        show cntL s l j c + _ ≥ _
        omega
      omega
/-- two cells are not both had by most -/
theorem cntL_two (s : Nat) (l : List Rw) {c c' : List Value} (hne : c ≠ c') : ∀ k, cntL s l k c + cntL s l k c' ≤ if s < k then k - 1 else k
  | 0 => by simp [cntL]
  | k + 1 => by
    have ih := cntL_two s l hne k
    unfold cntL
    by_cases hks : k = s
    · subst hks
      simp only [ne_eq, not_true_eq_false, false_and, if_false, Nat.add_zero]
      split at ih <;> split <;> omega
    · have : ¬ (hasC l k s = some c ∧ hasC l k s = some c') := fun ⟨h1, h2⟩ => hne (by rw [h1] at h2; injection h2)
      by_cases h1 : hasC l k s = some c
      · have h2 : ¬ (k ≠ s ∧ hasC l k s = some c') := fun h2 => this ⟨h1, h2.2⟩
        rw [if_pos ⟨hks, h1⟩, if_neg h2]
        split at ih <;> split <;> omega
      · rw [if_neg (fun h => h1 h.2)]
        split <;> split at ih <;> split <;> omega
/-- what is agreed of s -/
def MostP (n s : Nat) (l : List Rw) (M : Nat) (h : Hd) : Prop := (∃ c, h = ⟨true, c⟩ ∧ okL cellK c = true ∧ n - 1 < 2 * cntL s l M c) ∨ (h = hd0 ∧ ∀ c, 2 * cntL s l M c ≤ n - 1)
theorem MostP.unique {n s : Nat} {l : List Rw} {M : Nat} (hs : s < n) (hM : M ≤ n) {h h' : Hd} (p : MostP n s l M h) (p' : MostP n s l M h') : h = h' := by
  rcases p with ⟨c, rfl, -, h1⟩ | ⟨rfl, h1⟩ <;> rcases p' with ⟨c', rfl, -, h2⟩ | ⟨rfl, h2⟩
  · by_cases hc : c = c'
    · rw [hc]
    · have := cntL_two s l hc M
      split at this <;> omega
  · have := h2 c; omega
  · have := h1 c'; omega
  · rfl
end Go.Proofs.Ytphbmnjkhgfnoaa
