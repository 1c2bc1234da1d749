/-
  AgreesRing, AgreesOff: where a law over a ring starts; the vector first seen.
-/
import Derived.Test.YtbdklfcgcmdgaaaGb38
import Derived.Test.YtbdklfcgcmdgaaaGb42
namespace Go.Proofs.Ytbdklfcgcmdgaaa
open Go.RowKit
set_option linter.unusedVariables false
set_option linter.unusedSimpArgs false

/-- what came in is read alone; all else is nobody's -/
def tagV (w : World) (b : Nat) : Nat := if b < w.heap.size then 0 else 98
theorem tagV_lo {w : World} {b : Nat} (h : b < w.heap.size) : tagV w b = 0 := if_pos h
theorem tagV_hi {w : World} {b : Nat} (h : w.heap.size ≤ b) : tagV w b = 98 := if_neg (by omega)
/-- a ring is made; the state of a law over it -/
theorem LSt.startV {N : Nat} {F : FltM} {av : Value} {w w0 wm : World} {e : Ending} (f : Nat → List Rw) (hb : Below w.heap.size w w0) (h : NewRingP (tagV w0) N F av w0 e wm) (on : Nat → Nat → Bool) (own : Nat → Nat → Rw) :
    ∃ rg tag P, e = .returned (.pointer (some ⟨rg, 0, none⟩)) ∧ LSt f 0 w rg av (rgT N F on own 0) tag P (.slice none 0 0) [] wm := by
  obtain ⟨rg, tag, P, rfl, h1, h2, h3, h4⟩ := h
  have hs := hb.size
  exact ⟨rg, tag, P, rfl, h1, WasB.start _ _ _ _, fun b hbl => by rw [h2 b (by omega)]; exact tagV_lo (by omega), hb.trans (h4.mono hs)⟩
/-- the switches being laid -/
theorem onL_stepV {N i : Nat} (hi : i < N) : (onL N fun j => decide (j < i)).set i (.bool true) = onL N fun j => decide (j < i + 1) := by
  have := onL_set (N := N) (on := fun j => decide (j < i)) (on' := fun j => decide (j < i + 1)) (i := i) (fun j _ hne => by
    have : (j < i + 1) = (j < i) := by simp; omega
    simp only [this])
  simpa using this
/-- the vector that all right nodes agree on, as it was first seen -/
def FstA (B : Nat) (A : List Hd) (N : Nat) (u : Value) (w : World) : Prop := u = .slice none 0 0 ∨ ∃ g, u = .slice (some ⟨g, 0, none⟩) N N ∧ B ≤ g ∧ Blk w g 114 (flatH A).toArray
theorem FstA.below {B : Nat} {A : List Hd} {N : Nat} {u : Value} {w w' : World} (h : FstA B A N u w) (hb : Below w.heap.size w w') : FstA B A N u w' := by
  rcases h with h | ⟨g, h1, h2, h3⟩
  · exact .inl h
  · exact .inr ⟨g, h1, h2, h3.below hb h3.lt⟩
theorem blk_hdV {w : World} {g : Nat} {t : TypeId} {L : List Hd} (h : Blk w g t (flatH L).toArray) (hok : ∀ x ∈ L, x.ok) {s : Nat} {x : Hd} (hx : L[s]? = some x) : hasRow w ⟨g, s * 56, none⟩ 56 = true ∧ rowOf w ⟨g, s * 56, none⟩ 56 = x.vals := by
  have hr := RdHs.of_blk (r := []) (by simpa using h) hok
  obtain ⟨b, off, is, n, r, he, -, hbw, hl, -, -, -, e1, e2, -⟩ := hr.at_ s (List.getElem?_eq_some_iff.1 hx).1
  cases he
  rw [Nat.zero_add] at e1 e2
  rw [hx] at hl
  cases hl
  exact ⟨e1, e2⟩
end Go.Proofs.Ytbdklfcgcmdgaaa
