/-
  The middle of a list of integers, by sorting and by counting. Plain lemmas, no program in sight.
-/
import Derived.Test.YtlfpchkoeipcdaaB
namespace Go.Proofs.Ytlfpchkoeipcdaa
set_option linter.unusedVariables false
set_option linter.unusedSimpArgs false

def srt (l : List Int) : List Int := l.mergeSort fun x y => decide (x ≤ y)
theorem srt_perm (l : List Int) : (srt l).Perm l := List.mergeSort_perm _ _
theorem srt_len (l : List Int) : (srt l).length = l.length := (srt_perm l).length_eq
theorem srt_sorted (l : List Int) : (srt l).Pairwise (· ≤ ·) := by
  have := List.pairwise_mergeSort (le := fun x y : Int => decide (x ≤ y)) (fun a b c h1 h2 => by simp at *; omega) (fun a b => by simp; omega) l
  exact this.imp fun h => by simpa using h
def medI (l : List Int) : Int := (srt l).getD ((l.length - 1) / 2) 0
def lessN (l : List Int) (x : Int) : Nat := l.countP fun y => decide (y < x)
def mostN (l : List Int) (x : Int) : Nat := l.countP fun y => decide (y ≤ x)
theorem lessN_perm {l l' : List Int} (h : l.Perm l') (x : Int) : lessN l x = lessN l' x := h.countP_eq _
theorem mostN_perm {l l' : List Int} (h : l.Perm l') (x : Int) : mostN l x = mostN l' x := h.countP_eq _
theorem mostN_eq (l : List Int) (x : Int) : mostN l x = lessN l x + l.countP fun y => decide (y = x) := by
  unfold mostN lessN
  induction l with
  | nil => rfl
  | cons y l ih =>
    simp only [List.countP_cons, ih]
    by_cases h1 : y < x
    · have h2 : y ≤ x := by omega
      have h3 : ¬ y = x := by omega
      simp [h1, h2, h3]; omega
    · by_cases h3 : y = x
      · have h2 : y ≤ x := by omega
        simp [h1, h2, h3]; omega
      · have h2 : ¬ y ≤ x := by omega
        simp [h1, h2, h3]
theorem mostN_le_lessN (l : List Int) {x y : Int} (h : x < y) : mostN l x ≤ lessN l y := by
  unfold mostN lessN
  exact List.countP_mono_left fun z _ hz => by simp at *; omega
theorem sorted_at {s : List Int} (hs : s.Pairwise (· ≤ ·)) {i : Nat} {m : Int} (hi : s[i]? = some m) : lessN s m ≤ i ∧ i < mostN s m := by
  obtain ⟨hlt, he⟩ := List.getElem?_eq_some_iff.1 hi
  rw [List.pairwise_iff_getElem] at hs
  constructor
  · unfold lessN
    rw [← List.take_append_drop i s, List.countP_append]
    have h0 : (s.drop i).countP (fun y => decide (y < m)) = 0 := by
      rw [List.countP_eq_zero]
      intro a ha
      obtain ⟨j, hj, rfl⟩ := List.getElem_of_mem ha
      rw [List.getElem_drop]
      simp only [decide_eq_true_eq, Int.not_lt]
      rw [← he]
      by_cases h : j = 0
      · subst h; exact Int.le_refl _
      · exact hs i (i + j) hlt (by rw [List.length_drop] at hj; omega) (by omega)
    rw [h0]
    have := List.countP_le_length (p := fun y => decide (y < m)) (l := s.take i)
    rw [List.length_take] at this
    omega
  · unfold mostN
    have h1 : (s.take (i + 1)).countP (fun y => decide (y ≤ m)) = (s.take (i + 1)).length := by
      rw [List.countP_eq_length]
      intro a ha
      obtain ⟨j, hj, rfl⟩ := List.getElem_of_mem ha
      rw [List.getElem_take]
      rw [List.length_take] at hj
      simp only [decide_eq_true_eq]
      rw [← he]
      by_cases h : j = i
      · subst h; exact Int.le_refl _
      · exact hs j i (by omega) hlt (by omega)
    have h2 : (s.take (i + 1)).countP (fun y => decide (y ≤ m)) ≤ s.countP (fun y => decide (y ≤ m)) := (List.take_sublist _ _).countP_le
    rw [h1, List.length_take] at h2
    omega
theorem medI_at {l : List Int} (h : 0 < l.length) : (srt l)[(l.length - 1) / 2]? = some (medI l) := by
  have hl := srt_len l
  unfold medI
  rw [List.getD_eq_getElem?_getD, List.getElem?_eq_getElem (by omega)]
  rfl
theorem medI_mem {l : List Int} (h : 0 < l.length) : medI l ∈ l := (srt_perm l).mem_iff.1 (List.mem_of_getElem? (medI_at h))
theorem medI_spec {l : List Int} (h : 0 < l.length) : lessN l (medI l) ≤ (l.length - 1) / 2 ∧ (l.length - 1) / 2 < mostN l (medI l) := by
  have := sorted_at (srt_sorted l) (medI_at h)
  rwa [lessN_perm (srt_perm l), mostN_perm (srt_perm l)] at this
theorem medI_unique {l : List Int} (h : 0 < l.length) {x : Int} (h1 : lessN l x ≤ (l.length - 1) / 2) (h2 : (l.length - 1) / 2 < mostN l x) : x = medI l := by
  obtain ⟨h3, h4⟩ := medI_spec h
  rcases Int.lt_trichotomy x (medI l) with hlt | he | hgt
  · have := mostN_le_lessN l hlt; omega
  · exact he
  · have := mostN_le_lessN l hgt; omega
theorem medI_perm {l l' : List Int} (h : l.Perm l') : medI l = medI l' := by
  by_cases h0 : 0 < l.length
  · have hl := h.length_eq
    obtain ⟨h1, h2⟩ := medI_spec h0
    exact medI_unique (by omega) (by rw [← lessN_perm h, ← hl]; exact h1) (by rw [← mostN_perm h, ← hl]; exact h2)
  · have : l = [] := List.eq_nil_of_length_eq_zero (by omega)
    subst this
    rw [List.nil_perm.1 h]
end Go.Proofs.Ytlfpchkoeipcdaa
