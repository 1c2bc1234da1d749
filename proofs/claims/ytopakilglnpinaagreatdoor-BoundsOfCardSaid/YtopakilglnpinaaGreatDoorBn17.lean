
/-
  Configs (chapter 4): the ten rules as one law.
-/
import Derived.Test.YtopakilglnpinaaGreatDoorBn16
namespace Go.Proofs.YtopakilglnpinaaGreatDoor
open Go.RowKit
set_option linter.unusedVariables false
set_option linter.unusedSimpArgs false

theorem withE_zero {x lo hi : Int} (h : withE x lo hi = 0) : lo ≤ x ∧ x ≤ hi := by
  unfold withE at h
  split at h
  · omega
  · split at h <;> omega
/-- what the ten rules say of a config, in their order -/
def cfE (c : Cfg) : List Int := [withE c.N 4 16, withE c.P.length 2 8, mustE (insideB c.N c.P && sortedB c.P && singleB (halvesL c.N c.P)), withE c.Sl.length 1 16, mustE (insideB (c.P.length : Nat) c.Sl && coverB c.P.length c.Sl),
  withE c.lo (c.N + 116) 4096, firstE [mustE (decide (((c.B.length : Nat) : Int) = c.N)), eachE 0 4096 c.B], withE c.St.length 0 8, 0, eachE 1 100 [c.mi, c.go, c.fr]]
theorem rule_any (S : Nat → Prop) (A : CfA) (c : Cfg) (w : World) (h : CfR S w A c) (hsg : SgW w) (hst : stOk c) (k f : Nat) (e : Int) (hf : ruleFs[k]? = some f) (he : (cfE c)[k]? = some e) (hpre : ∀ j, j < k → (cfE c)[j]? = some 0) :
    Calls Tryz.prog f #[.agg (cfV A c).toArray] w (RuS e w) := by
  have hp := h.p.1
  have hs := h.s.1
  have hb := h.b.1
  have ht := h.t.1
  match k, hf, he, hpre with
  | 0, hf, he, _ => cases hf; cases he; exact r1_any A c w
  | 1, hf, he, _ => cases hf; cases he; rw [hp]; exact r2_any A c w
  | 2, hf, he, hpre =>
    have h1 : withE c.P.length 2 8 = 0 := by have := hpre 1 (by omega); simpa [cfE] using this
    cases hf; cases he
    exact r3_any S A c w h hsg (by have := withE_zero h1; omega)
  | 3, hf, he, _ => cases hf; cases he; rw [hs]; exact r4_any A c w
  | 4, hf, he, hpre =>
    have h1 : withE c.P.length 2 8 = 0 := by have := hpre 1 (by omega); simpa [cfE] using this
    cases hf; cases he
    rw [hp]
    exact r5_any S A c w h (by have := withE_zero h1; omega)
  | 5, hf, he, hpre =>
    have h1 : withE c.N 4 16 = 0 := by have := hpre 0 (by omega); simpa [cfE] using this
    cases hf; cases he
    exact r6_any A c w (withE_zero h1).1 (withE_zero h1).2
  | 6, hf, he, _ => cases hf; cases he; rw [hb]; exact r7_any S A c w h
  | 7, hf, he, _ => cases hf; cases he; rw [ht]; exact r8_any A c w
  | 8, hf, he, _ => cases hf; cases he; exact r9_any S A c w h hst
  | 9, hf, he, _ => cases hf; cases he; exact r10_any A c w
  | n + 10, hf, _, _ => simp [ruleFs] at hf
end Go.Proofs.YtopakilglnpinaaGreatDoor
