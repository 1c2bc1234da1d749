/-
  The power of a node, walked.
-/
import Derived.Test.YtnckfjmaochnkaaGreatDoorRows
import Derived.Test.YtnckfjmaochnkaaGreatDoorGd01
import Derived.WalkKit
import Derived.WalkSpells
import Derived.WalkLawsBesides
import Derived.Outline
import Derived.Deep.QuietTactic
import Derived.BigQuiet
import Derived.Deep.Light
namespace Go.Proofs.YtnckfjmaochnkaaGreatDoor
open Go.RowKit
set_option linter.unusedVariables false
set_option linter.unusedSimpArgs false

/-- a power's memory -/
def pwCells (boot s left cold : Int) : Array Value := #[.bool true, .int .i64 boot, .int .u8 s, .int .i64 left, .int .i64 cold]

/-- what a tick with power brings: state, left, cold -/
def pwOn (boot s left cold : Int) : Int × Int × Int :=
  if s = 2 then (2, left, min (cold + 1) 1099511627776)
  else if 0 < (if s = 0 then boot else left) then (1, (if s = 0 then boot else left) - 1, cold)
  else (2, (if s = 0 then boot else left), 0)

def OnPost (g : Nat) (boot s left cold : Int) (w w' : World) : Prop :=
  Blk w' g 129 (pwCells boot (pwOn boot s left cold).1 (pwOn boot s left cold).2.1 (pwOn boot s left cold).2.2) ∧ Chg (· = g) w w'

set_option maxHeartbeats 400000 in
theorem on_any (g : Nat) (boot s left cold : Int) (w : World) (hs : s = 0 ∨ s = 1 ∨ s = 2) (hb0 : 0 ≤ boot) (hb1 : boot ≤ 4096) (hl0 : 0 ≤ left) (hl1 : left ≤ 4096)
    (h0 : -1 ≤ cold) (h1 : cold ≤ 1099511627776) (hg : Blk w g 129 (pwCells boot s left cold)) :
    Calls Tryz.prog 38 #[.pointer (some ⟨g, 0, none⟩)] w fun e w' => e = .returned (.tuple #[]) ∧ OnPost g boot s left cold w w' := by
  have hc1 : w.cell? ⟨g, 1, none⟩ = some (.int .i64 boot) := hg.cell 1
  have hc2 : w.cell? ⟨g, 2, none⟩ = some (.int .u8 s) := hg.cell 2
  have hc3 : w.cell? ⟨g, 3, none⟩ = some (.int .i64 left) := hg.cell 3
  have hc4 : w.cell? ⟨g, 4, none⟩ = some (.int .i64 cold) := hg.cell 4
  have hf : ∀ i, w.frozen? ⟨g, i, none⟩ = false := hg.frozen
  have HG := Lib.hid hg
  clear hg
  have hp0 : 0 < boot → pwOn boot 0 left cold = (1, boot - 1, cold) := fun h => by simp [pwOn, h]
  have hp0' : ¬ 0 < boot → pwOn boot 0 left cold = (2, boot, 0) := fun h => by unfold pwOn; rw [if_neg (by decide), if_neg (by simpa using h)]; simp
  have hp1 : 0 < left → pwOn boot 1 left cold = (1, left - 1, cold) := fun h => by simp [pwOn, h]
  have hp1' : ¬ 0 < left → pwOn boot 1 left cold = (2, left, 0) := fun h => by unfold pwOn; rw [if_neg (by decide), if_neg (by simpa using h)]; simp
  have hp2 : pwOn boot 2 left cold = (2, left, min (cold + 1) 1099511627776) := rfl
  have HP := Lib.hid (And.intro hp0 (And.intro hp0' (And.intro hp1 (And.intro hp1' hp2))))
  clear hp0 hp0' hp1 hp1' hp2
  rcases hs with rfl | rfl | rfl
  · by_cases hb : 0 < boot
    all_goals go_enter Tryz.func38, Tryz.ntmps38
    all_goals go_wp2
    all_goals (try simp only [Exit.inBlock, Exit.then])
    all_goals first | refine bodyPost_end (results_none rfl _ _ _) rfl ?_ | refine bodyPost_ret (results_none rfl _ _ _) rfl ?_
    all_goals go_light
    all_goals refine ⟨rfl, ?_, by repeat (first | exact Chg.refl _ _ | refine Chg.set_at ?_ _ _)⟩
    · rw [HP.out.1 hb]
      exact ((HG.out.set_ 2 (.int .u8 1)).set_ 3 (.int .i64 boot)).set_ 3 (.int .i64 (boot - 1))
    · rw [HP.out.2.1 (by omega)]
      exact ((((HG.out.set_ 2 (.int .u8 1)).set_ 3 (.int .i64 boot)).set_ 2 (.int .u8 2)).set_ 4 (.int .i64 (-1))).set_ 4 (.int .i64 0)
  · by_cases hb : 0 < left
    all_goals go_enter Tryz.func38, Tryz.ntmps38
    all_goals go_wp2
    all_goals (try simp only [Exit.inBlock, Exit.then])
    all_goals first | refine bodyPost_end (results_none rfl _ _ _) rfl ?_ | refine bodyPost_ret (results_none rfl _ _ _) rfl ?_
    all_goals go_light
    all_goals refine ⟨rfl, ?_, by repeat (first | exact Chg.refl _ _ | refine Chg.set_at ?_ _ _)⟩
    · rw [HP.out.2.2.1 hb]
      exact HG.out.set_ 3 (.int .i64 (left - 1))
    · rw [HP.out.2.2.2.1 (by omega)]
      exact ((HG.out.set_ 2 (.int .u8 2)).set_ 4 (.int .i64 (-1))).set_ 4 (.int .i64 0)
  · by_cases hb : cold + 1 ≤ 1099511627776
    all_goals go_enter Tryz.func38, Tryz.ntmps38
    all_goals go_wp2
    all_goals (try simp only [Exit.inBlock, Exit.then])
    all_goals first | refine bodyPost_end (results_none rfl _ _ _) rfl ?_ | refine bodyPost_ret (results_none rfl _ _ _) rfl ?_
    all_goals go_light
    all_goals refine ⟨rfl, ?_, by repeat (first | exact Chg.refl _ _ | refine Chg.set_at ?_ _ _)⟩
    · rw [HP.out.2.2.2.2, Int.min_eq_left hb]
      exact HG.out.set_ 4 (.int .i64 (cold + 1))
    · rw [HP.out.2.2.2.2, Int.min_eq_right (by omega)]
      exact HG.out.set_ 4 (.int .i64 1099511627776)

end Go.Proofs.YtnckfjmaochnkaaGreatDoor
