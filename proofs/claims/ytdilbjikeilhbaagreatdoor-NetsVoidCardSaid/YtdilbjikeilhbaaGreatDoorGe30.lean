/-
  Configs (chapter 4): the ten rules as one law. Configs (chapter 4): New. Configs (chapter 4): the config of lives. Configs (chapter 4): what the document asks of a config, and that the ten rules then all pass.
-/
import Derived.Test.YtdilbjikeilhbaaGreatDoorGe29
import Derived.Laws.EntriesVeiled
namespace Go.Proofs.YtdilbjikeilhbaaGreatDoor
open Go.RowKit
set_option linter.unusedVariables false
set_option linter.unusedSimpArgs false

theorem withE_zero {x lo hi : Int} (h : withE x lo hi = 0) : lo ≤ x ∧ x ≤ hi := by
  unfold withE at h
  split at h
  · omega
  · split at h <;> omega
def cfE (c : Cfg) : List Int := [withE c.N 4 16, withE c.P.length 2 8, mustE (insideB c.N c.P && sortedB c.P && singleB (halvesL c.N c.P)), withE c.Sl.length 1 16, mustE (insideB (c.P.length : Nat) c.Sl && coverB c.P.length c.Sl),
  withE c.lo (c.N + 116) 4096, firstE [mustE (decide (((c.B.length : Nat) : Int) = c.N)), eachE 0 4096 c.B], withE c.St.length 0 8, stE c, eachE 1 100 [c.mi, c.go, c.fr]]
theorem rule_any (S : Nat → Prop) (A : CfA) (c : Cfg) (w : World) (h : CfR S w A c) (hsg : SgW w) (k f : Nat) (e : Int) (hf : ruleFs[k]? = some f) (he : (cfE c)[k]? = some e) (hpre : ∀ j, j < k → (cfE c)[j]? = some 0) :
    Calls Tryz.prog f #[.agg (cfV A c).toArray] w (RuS e w) := by
  have hp := h.p.1
  have hs := h.s.1
  have hb := h.b.1
  have ht := h.t.1
  match k, hf, he, hpre with
  | 0, hf, he, _ => cases hf; cases he; exact r1_any A c w
  | 1, hf, he, _ => cases hf; cases he; rw [hp]; exact r2_any A c w
  | 2, hf, he, hpre =>
    have h1 : withE c.P.length 2 8 = 0 := by have := hpre 1 (by omega); simpa [cfE] using this
    cases hf; cases he
    exact r3_any S A c w h hsg (by have := withE_zero h1; omega)
  | 3, hf, he, _ => cases hf; cases he; rw [hs]; exact r4_any A c w
  | 4, hf, he, hpre =>
    have h1 : withE c.P.length 2 8 = 0 := by have := hpre 1 (by omega); simpa [cfE] using this
    cases hf; cases he
    rw [hp]
    exact r5_any S A c w h (by have := withE_zero h1; omega)
  | 5, hf, he, hpre =>
    have h1 : withE c.N 4 16 = 0 := by have := hpre 0 (by omega); simpa [cfE] using this
    cases hf; cases he
    exact r6_any A c w (withE_zero h1).1 (withE_zero h1).2
  | 6, hf, he, _ => cases hf; cases he; rw [hb]; exact r7_any S A c w h
  | 7, hf, he, _ => cases hf; cases he; rw [ht]; exact r8_any A c w
  | 8, hf, he, _ => cases hf; cases he; exact r9_all S A c w h
  | 9, hf, he, _ => cases hf; cases he; exact r10_any A c w
  | n + 10, hf, _, _ => simp [ruleFs] at hf
end Go.Proofs.YtdilbjikeilhbaaGreatDoor
namespace Go.Proofs.YtdilbjikeilhbaaGreatDoor
open Go.RowKit
set_option linter.unusedVariables false
set_option linter.unusedSimpArgs false

theorem rule_enters (k f : Nat) (hf : ruleFs[k]? = some f) : ∀ args w, (callFunc f args).run Tryz.prog w = .ok (.enter f args) w :=
  match k, hf with
  | 0, hf => by cases hf; exact enters_of Tryz.func57 (by kernel_rfl) rfl
  | 1, hf => by cases hf; exact enters_of Tryz.func59 (by kernel_rfl) rfl
  | 2, hf => by cases hf; exact enters_of Tryz.func60 (by kernel_rfl) rfl
  | 3, hf => by cases hf; exact enters_of Tryz.func65 (by kernel_rfl) rfl
  | 4, hf => by cases hf; exact enters_of Tryz.func66 (by kernel_rfl) rfl
  | 5, hf => by cases hf; exact enters_of Tryz.func68 (by kernel_rfl) rfl
  | 6, hf => by cases hf; exact enters_of Tryz.func69 (by kernel_rfl) rfl
  | 7, hf => by cases hf; exact enters_of Tryz.func72 (by kernel_rfl) rfl
  | 8, hf => by cases hf; exact enters_of Tryz.func73 (by kernel_rfl) rfl
  | 9, hf => by cases hf; exact enters_of Tryz.func74 (by kernel_rfl) rfl
  | n + 10, hf => by simp [ruleFs] at hf
end Go.Proofs.YtdilbjikeilhbaaGreatDoor
namespace Go.Proofs.YtdilbjikeilhbaaGreatDoor
open Go.RowKit
set_option linter.unusedVariables false

end Go.Proofs.YtdilbjikeilhbaaGreatDoor
namespace Go.Proofs.YtdilbjikeilhbaaGreatDoor
open Go.RowKit
set_option linter.unusedVariables false
set_option linter.unusedSimpArgs false

theorem singleB_nodup {l : List Int} (h : l.Nodup) : singleB l = true := by
  have hs : (srtI l).Nodup := (List.mergeSort_perm l _).nodup_iff.2 h
  have hl : (srtI l).length = l.length := (List.mergeSort_perm l _).length_eq
  unfold singleB
  rw [Lib.compact_all, hl]
  · simp
  · intro j hj
    simp [Lib.keeps]
    by_cases h0 : j = 0
    · exact .inl h0
    · right
      rw [List.getElem?_eq_getElem hj, List.getElem?_eq_getElem (show j - 1 < (srtI l).length by omega)]
      simp only [Option.getD_some]
      intro he
      have := (List.getElem_inj hs).1 he
      omega
def PairOk (N : Int) (P : List Int) : Prop := ∀ i a, P[i]? = some a → (0 ≤ a ∧ a < N) ∧ (∀ p, 0 < i → P[i - 1]? = some p → p < a) ∧ a ∉ halvesL N (P.take i) ∧ stepE N a ∉ halvesL N (P.take i)
theorem stepE_ne {N a : Int} (h1 : 4 ≤ N) (h2 : N ≤ 16) (h3 : 0 ≤ a) (h4 : a < N) : stepE N a ≠ a := by
  rw [stepE, if_pos ⟨⟨h1, h2⟩, h3, h4⟩]
  by_cases h : a + 1 < N
  · rw [Int.emod_eq_of_lt (by omega) h]; omega
  · rw [show a + 1 = N by omega, Int.emod_self]; omega
theorem PairOk.nodup {N : Int} {P : List Int} (h : PairOk N P) (h1 : 4 ≤ N) (h2 : N ≤ 16) : ∀ k, k ≤ P.length → (halvesL N (P.take k)).Nodup := by
  intro k
  induction k with
  | zero => intro _; simp [halvesL]
  | succ k ih =>
    intro hk
    have hz : P[k]? = some (P[k]'(by omega)) := List.getElem?_eq_getElem (by omega)
    obtain ⟨ha, -, hn1, hn2⟩ := h k _ hz
    rw [halvesL_step hz, List.nodup_append]
    refine ⟨ih (by omega), ?_, ?_⟩
    · have := stepE_ne h1 h2 ha.1 ha.2
      simp; omega
    · intro x hx y hy he
      subst he
      simp at hy
      rcases hy with rfl | rfl
      · exact hn1 hx
      · exact hn2 hx
theorem PairOk.sorted {N : Int} {P : List Int} (h : PairOk N P) : sortedB P = true := by
  unfold sortedB
  rw [List.all_eq_true]
  intro i hi
  rw [List.mem_range] at hi
  have h1 : P[i]? = some (P[i]'(by omega)) := List.getElem?_eq_getElem (by omega)
  have h2 : P[i + 1]? = some (P[i + 1]'(by omega)) := List.getElem?_eq_getElem (by omega)
  have := (h (i + 1) _ h2).2.1 _ (by omega) (by rw [Nat.add_sub_cancel]; exact h1)
  rw [List.getD_eq_getElem?_getD, List.getD_eq_getElem?_getD, h1, h2]
  simp
  omega
theorem insideB_of {N : Int} {l : List Int} (h : ∀ z ∈ l, 0 ≤ z ∧ z < N) : insideB N l = true := by
  unfold insideB
  rw [List.all_eq_true]
  intro z hz
  simpa using h z hz
theorem coverB_of {n : Nat} {l : List Int} (h : ∀ i : Nat, i < n → (i : Int) ∈ l) : coverB n l = true := by
  unfold coverB
  rw [List.all_eq_true]
  intro i hi
  unfold hasB
  rw [List.any_eq_true]
  exact ⟨_, h i (List.mem_range.1 hi), by simp⟩
theorem withE_ok {x lo hi : Int} (h1 : lo ≤ x) (h2 : x ≤ hi) : withE x lo hi = 0 := by
  unfold withE
  rw [if_neg (by omega), if_neg (by omega)]
theorem eachE_ok {lo hi : Int} : ∀ {l : List Int}, (∀ z ∈ l, lo ≤ z ∧ z ≤ hi) → eachE lo hi l = 0
  | [], _ => rfl
  | z :: r, h => by
    rw [eachE, if_pos (withE_ok (h z (by simp)).1 (h z (by simp)).2)]
    exact eachE_ok fun y hy => h y (by simp [hy])
structure RefOk (c : Cfg) : Prop where
  n : 4 ≤ c.N ∧ c.N ≤ 16
  p : 2 ≤ c.P.length ∧ c.P.length ≤ 8
  pr : PairOk c.N c.P
  s : 1 ≤ c.Sl.length ∧ c.Sl.length ≤ 16
  si : ∀ z ∈ c.Sl, 0 ≤ z ∧ z < (c.P.length : Nat)
  sc : ∀ i : Nat, i < c.P.length → (i : Int) ∈ c.Sl
  lo : c.N + 116 ≤ c.lo ∧ c.lo ≤ 4096
  bl : ((c.B.length : Nat) : Int) = c.N
  b : ∀ z ∈ c.B, 0 ≤ z ∧ z ≤ 4096
  t : c.St.length ≤ 8
  st : stOk c
  mi : 1 ≤ c.mi ∧ c.mi ≤ 100
  go : 1 ≤ c.go ∧ c.go ≤ 100
  fr : 1 ≤ c.fr ∧ c.fr ≤ 100
theorem RefOk.cfE {c : Cfg} (h : RefOk c) : cfE c = [0, 0, 0, 0, 0, 0, 0, 0, 0, 0] := by
  have hin : insideB c.N c.P = true := insideB_of fun z hz => by
    obtain ⟨i, hi⟩ := List.mem_iff_getElem?.1 hz
    exact (h.pr i z hi).1
  have hsg : singleB (halvesL c.N c.P) = true := singleB_nodup (by have := h.pr.nodup h.n.1 h.n.2 c.P.length (Nat.le_refl _); rwa [List.take_length] at this)
  have h1 := withE_ok h.n.1 h.n.2
  have h2 : withE c.P.length 2 8 = 0 := withE_ok (by have := h.p.1; omega) (by have := h.p.2; omega)
  have h4 : withE c.Sl.length 1 16 = 0 := withE_ok (by have := h.s.1; omega) (by have := h.s.2; omega)
  have h6 := withE_ok h.lo.1 h.lo.2
  have h7 : eachE 0 4096 c.B = 0 := eachE_ok h.b
  have h8 : withE c.St.length 0 8 = 0 := withE_ok (by omega) (by have := h.t; omega)
  have h10 : eachE 1 100 [c.mi, c.go, c.fr] = 0 := eachE_ok (by
    intro z hz
    simp at hz
    rcases hz with rfl | rfl | rfl
    · exact h.mi
    · exact h.go
    · exact h.fr)
  have hb : decide (((c.B.length : Nat) : Int) = c.N) = true := by simpa using h.bl
  have h9 : stE c = 0 := stE_zero fun s hs => by
    obtain ⟨a1, a2, a3, a4⟩ := h.st s hs
    unfold stP
    rw [decide_eq_true a1, decide_eq_true a2, withE_ok a3 a4]
    rfl
  rw [Proofs.YtdilbjikeilhbaaGreatDoor.cfE, h9, h1, h2, hin, h.pr.sorted, hsg, h4, insideB_of h.si, coverB_of h.sc, h6, h7, h8, h10, hb]
  rfl
end Go.Proofs.YtdilbjikeilhbaaGreatDoor
