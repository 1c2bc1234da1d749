/-
  Nodes (chapter 30): what a node holds at its first tick: nothing.
-/
import Derived.Test.YtnckfjmaochnkaaGreatDoorGd20
import Derived.Test.YtnckfjmaochnkaaGreatDoorGd22
import Derived.Test.YtnckfjmaochnkaaGreatDoorGd24
import Derived.Test.YtnckfjmaochnkaaGreatDoorGd25
import Derived.Test.YtnckfjmaochnkaaGreatDoorGd52
import Derived.Test.YtnckfjmaochnkaaGreatDoorGd26
namespace Go.Proofs.YtnckfjmaochnkaaGreatDoor
open Go.RowKit
set_option linter.unusedVariables false
set_option linter.unusedSimpArgs false

theorem held_new (n me : Nat) (h : 4 ≤ n) (ins : Nat → List Rw) (s : Nat) : ((LaneM.new n me).put ins).held s = rw0 := by
  unfold LaneM.held
  rw [if_neg]
  simp only [LaneM.put, LaneM.new]
  omega
theorem hasC_none (n : Nat) (k s : Nat) : hasC (tab n fun _ => rw0) k s = none := by
  unfold hasC
  by_cases hk : k < n
  · rw [tab_at hk]; rfl
  · rw [List.getElem?_eq_none (by rw [tab_len]; omega)]
theorem cntL_none (n s : Nat) (c : List Value) : ∀ k, cntL s (tab n fun _ => rw0) k c = 0
  | 0 => rfl
  | k + 1 => by rw [cntL, cntL_none n s c k, hasC_none]; simp
theorem agree_none : agreeL 4 (tab 4 fun _ => rw0) = List.replicate 4 hd0 := by
  unfold agreeL
  rw [if_pos (by decide)]
  have e : ∀ s, mostH (4 : Int).toNat s (tab 4 fun _ => rw0) (min (4 : Int).toNat (tab 4 fun _ => rw0).length) = hd0 := fun s => by
    unfold mostH
    rw [dif_neg]
    rintro ⟨c, -, h⟩
    rw [cntL_none] at h
    simp at h
  simp only [e]
  rfl
theorem common_none : commonF 4 (List.replicate 4 hd0) = -1 := by decide
theorem own_zero : ownF 4 (-1) 0 = 0 := by decide
theorem show_zero : showF (lastN 8 ([] ++ [0])) = 0 := by decide
theorem even_none : evenF 4 (List.replicate 4 hd0) (-1) = false := by decide
end Go.Proofs.YtnckfjmaochnkaaGreatDoor
