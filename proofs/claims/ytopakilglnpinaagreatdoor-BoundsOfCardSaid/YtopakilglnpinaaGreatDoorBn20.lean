
/-
  Configs (chapter 4): what the document asks of a config, and that the ten rules then all pass.
-/
import Derived.Test.YtopakilglnpinaaGreatDoorBn19
namespace Go.Proofs.YtopakilglnpinaaGreatDoor
open Go.RowKit
set_option linter.unusedVariables false
set_option linter.unusedSimpArgs false

theorem singleB_nodup {l : List Int} (h : l.Nodup) : singleB l = true := by
  have hs : (srt l).Nodup := (List.mergeSort_perm l _).nodup_iff.2 h
  have hl : (srt l).length = l.length := (List.mergeSort_perm l _).length_eq
  unfold singleB
  rw [Lib.compact_all, hl]
  · simp
  · intro j hj
    simp [Lib.keeps]
    by_cases h0 : j = 0
    · exact .inl h0
    · right
      rw [List.getElem?_eq_getElem hj, List.getElem?_eq_getElem (show j - 1 < (srt l).length by omega)]
      simp only [Option.getD_some]
      intro he
      have := (List.getElem_inj hs).1 he
      omega
/-- what the document asks of the pairs' first halves -/
def PairOk (N : Int) (P : List Int) : Prop := ∀ i a, P[i]? = some a → (0 ≤ a ∧ a < N) ∧ (∀ p, 0 < i → P[i - 1]? = some p → p < a) ∧ a ∉ halvesL N (P.take i) ∧ stepE N a ∉ halvesL N (P.take i)
theorem stepE_ne {N a : Int} (h1 : 4 ≤ N) (h2 : N ≤ 16) (h3 : 0 ≤ a) (h4 : a < N) : stepE N a ≠ a := by
  rw [stepE, if_pos ⟨⟨h1, h2⟩, h3, h4⟩]
  by_cases h : a + 1 < N
  · rw [Int.emod_eq_of_lt (by omega) h]; omega
  · rw [show a + 1 = N by omega, Int.emod_self]; omega
theorem PairOk.nodup {N : Int} {P : List Int} (h : PairOk N P) (h1 : 4 ≤ N) (h2 : N ≤ 16) : ∀ k, k ≤ P.length → (halvesL N (P.take k)).Nodup := by
  intro k
  induction k with
  | zero => intro _; simp [halvesL]
  | succ k ih =>
    intro hk
    have hz : P[k]? = some (P[k]'(by omega)) := List.getElem?_eq_getElem (by omega)
    obtain ⟨ha, -, hn1, hn2⟩ := h k _ hz
    rw [halvesL_step hz, List.nodup_append]
    refine ⟨ih (by omega), ?_, ?_⟩
    · have := stepE_ne h1 h2 ha.1 ha.2
      simp; omega
    · intro x hx y hy he
      subst he
      simp at hy
      rcases hy with rfl | rfl
      · exact hn1 hx
      · exact hn2 hx
theorem PairOk.sorted {N : Int} {P : List Int} (h : PairOk N P) : sortedB P = true := by
  unfold sortedB
  rw [List.all_eq_true]
  intro i hi
  rw [List.mem_range] at hi
  have h1 : P[i]? = some (P[i]'(by omega)) := List.getElem?_eq_getElem (by omega)
  have h2 : P[i + 1]? = some (P[i + 1]'(by omega)) := List.getElem?_eq_getElem (by omega)
  have := (h (i + 1) _ h2).2.1 _ (by omega) (by rw [Nat.add_sub_cancel]; exact h1)
  rw [List.getD_eq_getElem?_getD, List.getD_eq_getElem?_getD, h1, h2]
  simp
  omega
theorem insideB_of {N : Int} {l : List Int} (h : ∀ z ∈ l, 0 ≤ z ∧ z < N) : insideB N l = true := by
  unfold insideB
  rw [List.all_eq_true]
  intro z hz
  simpa using h z hz
theorem coverB_of {n : Nat} {l : List Int} (h : ∀ i : Nat, i < n → (i : Int) ∈ l) : coverB n l = true := by
  unfold coverB
  rw [List.all_eq_true]
  intro i hi
  unfold hasB
  rw [List.any_eq_true]
  exact ⟨_, h i (List.mem_range.1 hi), by simp⟩
theorem withE_ok {x lo hi : Int} (h1 : lo ≤ x) (h2 : x ≤ hi) : withE x lo hi = 0 := by
  unfold withE
  rw [if_neg (by omega), if_neg (by omega)]
theorem eachE_ok {lo hi : Int} : ∀ {l : List Int}, (∀ z ∈ l, lo ≤ z ∧ z ≤ hi) → eachE lo hi l = 0
  | [], _ => rfl
  | z :: r, h => by
    rw [eachE, if_pos (withE_ok (h z (by simp)).1 (h z (by simp)).2)]
    exact eachE_ok fun y hy => h y (by simp [hy])
/-- a config that may be, by the document -/
structure RefOk (c : Cfg) : Prop where
  n : 4 ≤ c.N ∧ c.N ≤ 16
  p : 2 ≤ c.P.length ∧ c.P.length ≤ 8
  pr : PairOk c.N c.P
  s : 1 ≤ c.Sl.length ∧ c.Sl.length ≤ 16
  si : ∀ z ∈ c.Sl, 0 ≤ z ∧ z < (c.P.length : Nat)
  sc : ∀ i : Nat, i < c.P.length → (i : Int) ∈ c.Sl
  lo : c.N + 116 ≤ c.lo ∧ c.lo ≤ 4096
  bl : ((c.B.length : Nat) : Int) = c.N
  b : ∀ z ∈ c.B, 0 ≤ z ∧ z ≤ 4096
  t : c.St.length ≤ 8
  st : stOk c
  mi : 1 ≤ c.mi ∧ c.mi ≤ 100
  go : 1 ≤ c.go ∧ c.go ≤ 100
  fr : 1 ≤ c.fr ∧ c.fr ≤ 100
theorem RefOk.cfE {c : Cfg} (h : RefOk c) : cfE c = [0, 0, 0, 0, 0, 0, 0, 0, 0, 0] := by
  have hin : insideB c.N c.P = true := insideB_of fun z hz => by
    obtain ⟨i, hi⟩ := List.mem_iff_getElem?.1 hz
    exact (h.pr i z hi).1
  have hsg : singleB (halvesL c.N c.P) = true := singleB_nodup (by have := h.pr.nodup h.n.1 h.n.2 c.P.length (Nat.le_refl _); rwa [List.take_length] at this)
  have h1 := withE_ok h.n.1 h.n.2
  have h2 : withE c.P.length 2 8 = 0 := withE_ok (by have := h.p.1; omega) (by have := h.p.2; omega)
  have h4 : withE c.Sl.length 1 16 = 0 := withE_ok (by have := h.s.1; omega) (by have := h.s.2; omega)
  have h6 := withE_ok h.lo.1 h.lo.2
  have h7 : eachE 0 4096 c.B = 0 := eachE_ok h.b
  have h8 : withE c.St.length 0 8 = 0 := withE_ok (by omega) (by have := h.t; omega)
  have h10 : eachE 1 100 [c.mi, c.go, c.fr] = 0 := eachE_ok (by
    intro z hz
    simp at hz
    rcases hz with rfl | rfl | rfl
    · exact h.mi
    · exact h.go
    · exact h.fr)
  have hb : decide (((c.B.length : Nat) : Int) = c.N) = true := by simpa using h.bl
  rw [Proofs.YtopakilglnpinaaGreatDoor.cfE, h1, h2, hin, h.pr.sorted, hsg, h4, insideB_of h.si, coverB_of h.sc, h6, h7, h8, h10, hb]
  rfl
theorem liveC_ok : RefOk liveC where
  n := by decide
  p := by decide
  pr := by
    intro i a h
    have e : halvesL 4 [0] = [0, 1] := by decide
    have e2 : halvesL 4 [] = [] := rfl
    match i, h with
    | 0, h => simp [liveC] at h; subst h; simp [liveC, e2]
    | 1, h => simp [liveC] at h; subst h; simp [liveC, e, show stepE 4 2 = 3 from by decide]
    | n + 2, h => simp [liveC] at h
  s := by decide
  si := by decide
  sc := by decide
  lo := by decide
  bl := by decide
  b := by decide
  t := by decide
  st := by intro s hs; cases hs
  mi := by decide
  go := by decide
  fr := by decide
end Go.Proofs.YtopakilglnpinaaGreatDoor
