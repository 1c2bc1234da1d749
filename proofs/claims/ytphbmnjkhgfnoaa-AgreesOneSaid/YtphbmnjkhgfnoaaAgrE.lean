/-
  The plain law of AgreesOne: all but one hold the same of each that is not it; so all agree on one vector.
-/
import Derived.Test.YtphbmnjkhgfnoaaAgr3
namespace Go.Proofs.Ytphbmnjkhgfnoaa
open Go.RowKit
set_option linter.unusedVariables false
set_option linter.unusedSimpArgs false

def optH (h : Hd) : Option (List Value) := if h.is then some h.c else none
def truS (C : List (List Value)) (s : Nat) : Hd := if C = [] then hd0 else ⟨true, C.getD (s % C.length) cellZ⟩
def truL (N : Nat) (C : List (List Value)) : List Hd := (List.range N).map (truS C)
def hldS (H : List Hd) (k : Nat) : Hd := if H = [] then hd0 else H.getD (k % H.length) hd0
def rowS (N B : Nat) (C : List (List Value)) (H : List Hd) (k : Nat) : Rw := ⟨true, (truS C k).c, (truL N C).set B (hldS H k)⟩
def rowsL (N B : Nat) (C : List (List Value)) (H : List Hd) : List Rw := (List.range N).map (rowS N B C H)
def badS (X : List Rw) (i : Nat) : Rw := if X = [] then rw0 else X.getD (i % X.length) rw0
def heldL (N B : Nat) (C : List (List Value)) (H : List Hd) (X : List Rw) (i : Nat) : List Rw := (rowsL N B C H).set B (badS X i)
open Classical in
noncomputable def mostF (n : Nat) (f : List Value → Nat) : Hd := if h : ∃ c, okL cellK c = true ∧ n - 1 < 2 * f c then ⟨true, Classical.choose h⟩ else hd0
theorem mostF_eq (n s : Nat) (l : List Rw) (M : Nat) : mostH n s l M = mostF n (cntL s l M) := rfl
noncomputable def oneV (N B : Nat) (C : List (List Value)) (H : List Hd) : List Hd := (List.range N).map fun s => if s = B then mostF N (cntL B (rowsL N B C H) N) else truS C s

theorem getD_ok {C : List (List Value)} (h : ∀ c ∈ C, okL cellK c = true) (i : Nat) : okL cellK (C.getD i cellZ) = true := by
  rw [List.getD_eq_getElem?_getD]
  by_cases hi : i < C.length
  · rw [List.getElem?_eq_getElem hi]; exact h _ (List.getElem_mem hi)
  · rw [List.getElem?_eq_none (by omega)]; exact cellZ_ok
theorem truS_ok {C : List (List Value)} (h : ∀ c ∈ C, okL cellK c = true) (s : Nat) : (truS C s).ok := by
  unfold truS
  split
  · exact hd0_ok
  · exact getD_ok h _
theorem hldS_ok {H : List Hd} (h : ∀ x ∈ H, x.ok) (k : Nat) : (hldS H k).ok := by
  unfold hldS
  split
  · exact hd0_ok
  · rw [List.getD_eq_getElem?_getD]
    by_cases hi : k % H.length < H.length
    · rw [List.getElem?_eq_getElem hi]; exact h _ (List.getElem_mem hi)
    · rw [List.getElem?_eq_none (by omega)]; exact hd0_ok
theorem badS_ok {X : List Rw} (h : ∀ x ∈ X, x.ok) (k : Nat) : (badS X k).ok := by
  unfold badS
  split
  · exact rw0_ok
  · rw [List.getD_eq_getElem?_getD]
    by_cases hi : k % X.length < X.length
    · rw [List.getElem?_eq_getElem hi]; exact h _ (List.getElem_mem hi)
    · rw [List.getElem?_eq_none (by omega)]; exact rw0_ok
theorem truL_len (N : Nat) (C : List (List Value)) : (truL N C).length = N := by simp [truL]
theorem truL_at {N : Nat} (C : List (List Value)) {s : Nat} (h : s < N) : (truL N C)[s]? = some (truS C s) := by simp [truL, h]
theorem truL_ok {N : Nat} {C : List (List Value)} (h : ∀ c ∈ C, okL cellK c = true) : ∀ x ∈ truL N C, x.ok := fun x hx => by
  obtain ⟨s, -, rfl⟩ := List.mem_map.1 hx
  exact truS_ok h s
theorem rowS_ok {N B : Nat} {C : List (List Value)} {H : List Hd} (hC : ∀ c ∈ C, okL cellK c = true) (hH : ∀ x ∈ H, x.ok) (k : Nat) : (rowS N B C H k).ok :=
  ⟨truS_ok hC k, ok_set (truL_ok hC) B (hldS_ok hH k)⟩
theorem rowsL_len (N B : Nat) (C : List (List Value)) (H : List Hd) : (rowsL N B C H).length = N := by simp [rowsL]
theorem rowsL_at {N : Nat} (B : Nat) (C : List (List Value)) (H : List Hd) {k : Nat} (h : k < N) : (rowsL N B C H)[k]? = some (rowS N B C H k) := by simp [rowsL, h]
theorem oneV_len (N B : Nat) (C : List (List Value)) (H : List Hd) : (oneV N B C H).length = N := by simp [oneV]
theorem oneV_at {N : Nat} (B : Nat) (C : List (List Value)) (H : List Hd) {s : Nat} (h : s < N) (hs : s ≠ B) : (oneV N B C H)[s]? = some (truS C s) := by simp [oneV, h, hs]
theorem mostF_ok (n : Nat) (f : List Value → Nat) : (mostF n f).ok := by
  unfold mostF
  split
  · rename_i hx; exact (Classical.choose_spec hx).1
  · exact hd0_ok
theorem oneV_ok {N B : Nat} {C : List (List Value)} {H : List Hd} (hC : ∀ c ∈ C, okL cellK c = true) : ∀ x ∈ oneV N B C H, x.ok := fun x hx => by
  obtain ⟨s, -, rfl⟩ := List.mem_map.1 hx
  split
  · exact mostF_ok _ _
  · exact truS_ok hC s

theorem hasC_row {L : List Rw} {N B : Nat} {C : List (List Value)} {H : List Hd} {k s : Nat} (hk : L[k]? = some (rowS N B C H k)) (hs : s < N) : hasC L k s = if s = B then optH (hldS H k) else optH (truS C s) := by
  unfold hasC
  rw [hk]
  simp only [rowS, if_true]
  by_cases h : s = B
  · subst h
    rw [List.getElem?_set_self (by rw [truL_len]; exact hs)]
    rw [if_pos rfl]; rfl
  · rw [List.getElem?_set_ne (fun h' => h h'.symm), truL_at C hs, if_neg h]; rfl
theorem cnt_lo {L : List Rw} {N B s : Nat} {c : List Value} (h : ∀ k, k < N → k ≠ B → hasC L k s = some c) : ∀ k, k ≤ N → k ≤ cntL s L k c + (if s < k then 1 else 0) + (if B < k then 1 else 0)
  | 0, _ => by omega
  | k + 1, hk => by
    have ih := cnt_lo h k (by omega)
    unfold cntL
    by_cases hB : k = B
    · split at ih <;> split at ih <;> split <;> split <;> split <;> omega
    · by_cases hs : k = s
      · split at ih <;> split at ih <;> split <;> split <;> split <;> omega
      · rw [if_pos ⟨hs, h k (by omega) hB⟩]
        split at ih <;> split at ih <;> split <;> split <;> omega
theorem cnt_hi {L : List Rw} {N B s : Nat} (c : List Value) (h : ∀ k, k < N → k ≠ B → hasC L k s = none) : ∀ k, k ≤ N → cntL s L k c ≤ if B < k then 1 else 0
  | 0, _ => by simp [cntL]
  | k + 1, hk => by
    have ih := cnt_hi c h k (by omega)
    unfold cntL
    by_cases hB : k = B
    · split at ih <;> split <;> split <;> omega
    · rw [if_neg (fun h' => by rw [h k (by omega) hB] at h'; cases h'.2)]
      split at ih <;> split <;> omega
theorem cnt_eq {L L' : List Rw} {N B : Nat} (c : List Value) (h : ∀ k, k < N → k ≠ B → hasC L k B = hasC L' k B) : ∀ k, k ≤ N → cntL B L k c = cntL B L' k c
  | 0, _ => rfl
  | k + 1, hk => by
    have ih := cnt_eq c h k (by omega)
    unfold cntL
    rw [ih]
    by_cases hB : k = B
    · rw [if_neg (fun h => h.1 hB), if_neg (fun h => h.1 hB)]
    · rw [h k (by omega) hB]
theorem agree_one {N B : Nat} (h4 : 4 ≤ N) (h16 : N ≤ 16) (hB : B < N) {C : List (List Value)} {H : List Hd} {L : List Rw} (hC : ∀ c ∈ C, okL cellK c = true) (hL : L.length = N) (hrow : ∀ k, k < N → k ≠ B → L[k]? = some (rowS N B C H k)) :
    agreeL N L = oneV N B C H := by
  have hh : ∀ s, s < N → ∀ k, k < N → k ≠ B → hasC L k s = if s = B then optH (hldS H k) else optH (truS C s) := fun s hs k hk hkB => hasC_row (hrow k hk hkB) hs
  unfold agreeL oneV
  rw [if_pos (by omega), hL]
  simp only [Int.toNat_natCast, Nat.min_self]
  refine List.map_congr_left fun s hs => ?_
  have hs : s < N := by simpa using hs
  by_cases hsB : s = B
  · subst hsB
    rw [if_pos rfl, mostF_eq]
    congr 1
    funext c
    refine cnt_eq c (fun k hk hkB => ?_) N (Nat.le_refl _)
    rw [hh s hs k hk hkB, hasC_row (rowsL_at s C H hk) hs]
  · rw [if_neg hsB]
    refine (MostP.eq (n := N) hs (Nat.le_refl _) ?_).symm
    have hall : ∀ k, k < N → k ≠ B → hasC L k s = optH (truS C s) := fun k hk hkB => by rw [hh s hs k hk hkB, if_neg hsB]
    by_cases hC0 : C = []
    · have e : truS C s = hd0 := by simp [truS, hC0]
      rw [e] at hall ⊢
      refine .inr ⟨rfl, fun c => ?_⟩
      have := cnt_hi c (fun k hk hkB => (hall k hk hkB).trans rfl) N (Nat.le_refl _)
      split at this <;> omega
    · have e : truS C s = ⟨true, C.getD (s % C.length) cellZ⟩ := by simp [truS, hC0]
      rw [e] at hall ⊢
      refine .inl ⟨_, rfl, getD_ok hC _, ?_⟩
      have := cnt_lo (c := C.getD (s % C.length) cellZ) (fun k hk hkB => (hall k hk hkB).trans rfl) N (Nat.le_refl _)
      rw [if_pos hs, if_pos hB] at this
      omega
theorem heldL_len (N B : Nat) (C : List (List Value)) (H : List Hd) (X : List Rw) (i : Nat) : (heldL N B C H X i).length = N := by simp [heldL, rowsL_len]
theorem agree_held {N B : Nat} (h4 : 4 ≤ N) (h16 : N ≤ 16) (hB : B < N) {C : List (List Value)} {H : List Hd} {X : List Rw} (hC : ∀ c ∈ C, okL cellK c = true) (i : Nat) : agreeL N (heldL N B C H X i) = oneV N B C H :=
  agree_one h4 h16 hB hC (heldL_len _ _ _ _ _ _) fun k hk hkB => by
    unfold heldL
    rw [List.getElem?_set_ne (fun h => hkB h.symm)]
    exact rowsL_at B C H hk
end Go.Proofs.Ytphbmnjkhgfnoaa
