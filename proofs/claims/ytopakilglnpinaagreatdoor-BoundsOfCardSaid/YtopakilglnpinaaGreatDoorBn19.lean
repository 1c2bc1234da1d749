
/-
  Configs (chapter 4): the config of lives.
-/
import Derived.Test.YtopakilglnpinaaGreatDoorBn18
namespace Go.Proofs.YtopakilglnpinaaGreatDoor
open Go.RowKit
set_option linter.unusedVariables false

def liveC : Cfg := ⟨4, [0, 2], [0, 1], 120, [0, 0, 0, 0], [], 3, 2, 3⟩
end Go.Proofs.YtopakilglnpinaaGreatDoor
