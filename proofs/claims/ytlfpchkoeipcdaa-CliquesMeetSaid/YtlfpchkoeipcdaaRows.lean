/-
  No cell of these rows narrows 'for every input' (looked for: loops, veiled, ifaces, maps, wideKeys, modest, calm, conditions, laid).
  DERIVED. THE GIVEN ROWS OF THIS SEAT. 6 by the template 'for every input the law returns true; each argument reads behind the call as it read before'; 0 by the template 'total and deterministic' (their statements: YtlfpchkoeipcdaaTotals.lean).
  GIVEN WITH THE SEED: the statements are not yours to turn. If you find one false, say at which input.
  Laid BY PROGRAM, IN A SANDBOX (cutbox-rows.mjs): the forced cells as the released guide's own fill.sh prints them over the translation bdf9cf06df4a3550… (all of the seat's roots in one cut). By AI agents, Wed Nov 11 2026. No macro, syntax, notation, axiom, sorry.
-/
import Derived.Test.YtlfpchkoeipcdaaChecked
import GoSem.Claim
import GoSem.ClaimJoined
import GoSem.ClaimMapViews
import Derived.JoinedTies
import Derived.KernelRfl
namespace Go.Proofs.Ytlfpchkoeipcdaa
/- THE CELL 'sum', in the pinned program and in every row, IS THE sha256 OF THE DUMP (.gsa) THAT YtlfpchkoeipcdaaProg.lean LOADS. Nothing in Lean hashes anything: it is a label: what it is worth is what the hold of that sum in a sandbox is worth. -/
noncomputable def Try.pinned : Pinned := { name := "ytlfpchkoeipcdaa", sum := "bdf9cf06df4a3550bff7baa0d99aa574d1f7fc10a36150042984ac0e65255945", checked := Try.checked }
namespace Rows
def none {H : Type} : Left H := { results := [], args := [] }

/-- 'sennitlaw17.CliquesMeet': WHATEVER THE INPUT: true; the input reads as it did. -/
def cliquesMeetSpec : ChangeSpec := { name := "cliquesMeet", fn := fun _ => fun
  | [d1, d2, d3] => { results := [.lit (.bool true)], args := [d1, d2, d3] }
  | _ => none }
def cliquesMeetRow : OpenClaim := { program := "ytlfpchkoeipcdaa", sum := "bdf9cf06df4a3550bff7baa0d99aa574d1f7fc10a36150042984ac0e65255945", func := "sennit/sennitlaw17.CliquesMeet", spec := "cliquesMeet", unfollowed := true, recurses := true, apart := false }
def CliquesMeetSaid : Prop := cliquesMeetRow.holds Try.pinned (OpenSpec.ofChange cliquesMeetSpec)

/-- ITS FALSE NEIGHBOUR: 'it returns false'. Refute it at one input. -/
def cliquesMeetWrong : ChangeSpec := { name := "cliquesMeet", fn := fun _ => fun
  | [d1, d2, d3] => { results := [.lit (.bool false)], args := [d1, d2, d3] }
  | _ => none }
def CliquesMeetWrongFalsely : Prop := cliquesMeetRow.holds Try.pinned (OpenSpec.ofChange cliquesMeetWrong)

/-- 'sennitlaw16.AgesCommon': WHATEVER THE INPUT: true; the input reads as it did. -/
def agesCommonSpec : ChangeSpec := { name := "agesCommon", fn := fun _ => fun
  | [d1, d2] => { results := [.lit (.bool true)], args := [d1, d2] }
  | _ => none }
def agesCommonRow : OpenClaim := { program := "ytlfpchkoeipcdaa", sum := "bdf9cf06df4a3550bff7baa0d99aa574d1f7fc10a36150042984ac0e65255945", func := "sennit/sennitlaw16.AgesCommon", spec := "agesCommon", unfollowed := true, recurses := true, apart := false }
def AgesCommonSaid : Prop := agesCommonRow.holds Try.pinned (OpenSpec.ofChange agesCommonSpec)

/-- ITS FALSE NEIGHBOUR: 'it returns false'. Refute it at one input. -/
def agesCommonWrong : ChangeSpec := { name := "agesCommon", fn := fun _ => fun
  | [d1, d2] => { results := [.lit (.bool false)], args := [d1, d2] }
  | _ => none }
def AgesCommonWrongFalsely : Prop := agesCommonRow.holds Try.pinned (OpenSpec.ofChange agesCommonWrong)

/-- 'sennitlaw16.AgesPlay': WHATEVER THE INPUT: true; the input reads as it did. -/
def agesPlaySpec : ChangeSpec := { name := "agesPlay", fn := fun _ => fun
  | [d1, d2] => { results := [.lit (.bool true)], args := [d1, d2] }
  | _ => none }
def agesPlayRow : OpenClaim := { program := "ytlfpchkoeipcdaa", sum := "bdf9cf06df4a3550bff7baa0d99aa574d1f7fc10a36150042984ac0e65255945", func := "sennit/sennitlaw16.AgesPlay", spec := "agesPlay", unfollowed := true, recurses := true, apart := false }
def AgesPlaySaid : Prop := agesPlayRow.holds Try.pinned (OpenSpec.ofChange agesPlaySpec)

/-- ITS FALSE NEIGHBOUR: 'it returns false'. Refute it at one input. -/
def agesPlayWrong : ChangeSpec := { name := "agesPlay", fn := fun _ => fun
  | [d1, d2] => { results := [.lit (.bool false)], args := [d1, d2] }
  | _ => none }
def AgesPlayWrongFalsely : Prop := agesPlayRow.holds Try.pinned (OpenSpec.ofChange agesPlayWrong)

/-- 'sennitlaw16.AgesVoid': WHATEVER THE INPUT: true; the input reads as it did. -/
def agesVoidSpec : ChangeSpec := { name := "agesVoid", fn := fun _ => fun
  | [d] => { results := [.lit (.bool true)], args := [d] }
  | _ => none }
def agesVoidRow : OpenClaim := { program := "ytlfpchkoeipcdaa", sum := "bdf9cf06df4a3550bff7baa0d99aa574d1f7fc10a36150042984ac0e65255945", func := "sennit/sennitlaw16.AgesVoid", spec := "agesVoid", unfollowed := true, recurses := true, apart := false }
def AgesVoidSaid : Prop := agesVoidRow.holds Try.pinned (OpenSpec.ofChange agesVoidSpec)

/-- ITS FALSE NEIGHBOUR: 'it returns false'. Refute it at one input. -/
def agesVoidWrong : ChangeSpec := { name := "agesVoid", fn := fun _ => fun
  | [d] => { results := [.lit (.bool false)], args := [d] }
  | _ => none }
def AgesVoidWrongFalsely : Prop := agesVoidRow.holds Try.pinned (OpenSpec.ofChange agesVoidWrong)

/-- 'sennitlaw16.AgesMiddle': WHATEVER THE INPUT: true; the input reads as it did. -/
def agesMiddleSpec : ChangeSpec := { name := "agesMiddle", fn := fun _ => fun
  | [d1, d2] => { results := [.lit (.bool true)], args := [d1, d2] }
  | _ => none }
def agesMiddleRow : OpenClaim := { program := "ytlfpchkoeipcdaa", sum := "bdf9cf06df4a3550bff7baa0d99aa574d1f7fc10a36150042984ac0e65255945", func := "sennit/sennitlaw16.AgesMiddle", spec := "agesMiddle", unfollowed := true, recurses := true, apart := false }
def AgesMiddleSaid : Prop := agesMiddleRow.holds Try.pinned (OpenSpec.ofChange agesMiddleSpec)

/-- ITS FALSE NEIGHBOUR: 'it returns false'. Refute it at one input. -/
def agesMiddleWrong : ChangeSpec := { name := "agesMiddle", fn := fun _ => fun
  | [d1, d2] => { results := [.lit (.bool false)], args := [d1, d2] }
  | _ => none }
def AgesMiddleWrongFalsely : Prop := agesMiddleRow.holds Try.pinned (OpenSpec.ofChange agesMiddleWrong)

/-- 'sennitlaw16.AgesRun': WHATEVER THE INPUT: true; the input reads as it did. -/
def agesRunSpec : ChangeSpec := { name := "agesRun", fn := fun _ => fun
  | [d1, d2] => { results := [.lit (.bool true)], args := [d1, d2] }
  | _ => none }
def agesRunRow : OpenClaim := { program := "ytlfpchkoeipcdaa", sum := "bdf9cf06df4a3550bff7baa0d99aa574d1f7fc10a36150042984ac0e65255945", func := "sennit/sennitlaw16.AgesRun", spec := "agesRun", unfollowed := true, recurses := true, apart := false }
def AgesRunSaid : Prop := agesRunRow.holds Try.pinned (OpenSpec.ofChange agesRunSpec)

/-- ITS FALSE NEIGHBOUR: 'it returns false'. Refute it at one input. -/
def agesRunWrong : ChangeSpec := { name := "agesRun", fn := fun _ => fun
  | [d1, d2] => { results := [.lit (.bool false)], args := [d1, d2] }
  | _ => none }
def AgesRunWrongFalsely : Prop := agesRunRow.holds Try.pinned (OpenSpec.ofChange agesRunWrong)

/- THE SECOND FORM. 'bulk': how many values and letters a reading holds, each counted each time it is reached (what is shared counts as often as it is met; a slice's spare places count too). A statement '..UptoSaid' is the law's where the arguments, and the package variables that the reading takes, are together of bulk at most 1048576: NARROWER than '..Said'. Prove '..Said' where nothing that the law and all that it calls make is longer than what came in: it says more and counts as full. Else prove '..UptoSaid'. A law counts once. -/
mutual
def uptoBulk {H : Type} : DataW H → Nat
  | .lit (.string bytes) => bytes.length + 1
  | .lit _ => 1
  | .nil => 1
  | .ptr d => uptoBulk d + 1
  | .slice elems spare => uptoBulkAll elems + uptoBulkAll spare + 1
  | .agg parts => uptoBulkAll parts + 1
  | .iface _ d => uptoBulk d + 1
  | .map entries => uptoBulkEntries entries + 1
  | .held _ => 1
def uptoBulkAll {H : Type} : List (DataW H) → Nat
  | [] => 0
  | d :: r => uptoBulk d + uptoBulkAll r
def uptoBulkEntries {H : Type} : List (Lit × DataW H) → Nat
  | [] => 0
  | x :: r => uptoBulkEntry x + uptoBulkEntries r
def uptoBulkEntry {H : Type} : Lit × DataW H → Nat
  | (.string bytes, d) => bytes.length + uptoBulk d + 1
  | (_, d) => uptoBulk d + 1
 end
def uptoSmall : (H : Type) → List (DataW H) → Bool := fun _ ds => decide (uptoBulkAll ds ≤ 1048576)
def OpenSpec.upto (s : _root_.Go.ChangeSpec) : _root_.Go.OpenSpec := { _root_.Go.OpenSpec.ofChange s with cond := some uptoSmall }

/-- 'sennitlaw17.CliquesMeet', WHERE WHAT IT READS IS OF BULK AT MOST 1048576: true; the input reads as it did. -/
def cliquesMeetUptoRow : OpenClaim := { program := "ytlfpchkoeipcdaa", sum := "bdf9cf06df4a3550bff7baa0d99aa574d1f7fc10a36150042984ac0e65255945", func := "sennit/sennitlaw17.CliquesMeet", spec := "cliquesMeet", unfollowed := true, recurses := true, apart := false, narrowed := true }
def CliquesMeetUptoSaid : Prop := cliquesMeetUptoRow.holds Try.pinned (OpenSpec.upto cliquesMeetSpec)

/-- 'sennitlaw16.AgesCommon', WHERE WHAT IT READS IS OF BULK AT MOST 1048576: true; the input reads as it did. -/
def agesCommonUptoRow : OpenClaim := { program := "ytlfpchkoeipcdaa", sum := "bdf9cf06df4a3550bff7baa0d99aa574d1f7fc10a36150042984ac0e65255945", func := "sennit/sennitlaw16.AgesCommon", spec := "agesCommon", unfollowed := true, recurses := true, apart := false, narrowed := true }
def AgesCommonUptoSaid : Prop := agesCommonUptoRow.holds Try.pinned (OpenSpec.upto agesCommonSpec)

/-- 'sennitlaw16.AgesPlay', WHERE WHAT IT READS IS OF BULK AT MOST 1048576: true; the input reads as it did. -/
def agesPlayUptoRow : OpenClaim := { program := "ytlfpchkoeipcdaa", sum := "bdf9cf06df4a3550bff7baa0d99aa574d1f7fc10a36150042984ac0e65255945", func := "sennit/sennitlaw16.AgesPlay", spec := "agesPlay", unfollowed := true, recurses := true, apart := false, narrowed := true }
def AgesPlayUptoSaid : Prop := agesPlayUptoRow.holds Try.pinned (OpenSpec.upto agesPlaySpec)

/-- 'sennitlaw16.AgesVoid', WHERE WHAT IT READS IS OF BULK AT MOST 1048576: true; the input reads as it did. -/
def agesVoidUptoRow : OpenClaim := { program := "ytlfpchkoeipcdaa", sum := "bdf9cf06df4a3550bff7baa0d99aa574d1f7fc10a36150042984ac0e65255945", func := "sennit/sennitlaw16.AgesVoid", spec := "agesVoid", unfollowed := true, recurses := true, apart := false, narrowed := true }
def AgesVoidUptoSaid : Prop := agesVoidUptoRow.holds Try.pinned (OpenSpec.upto agesVoidSpec)

/-- 'sennitlaw16.AgesMiddle', WHERE WHAT IT READS IS OF BULK AT MOST 1048576: true; the input reads as it did. -/
def agesMiddleUptoRow : OpenClaim := { program := "ytlfpchkoeipcdaa", sum := "bdf9cf06df4a3550bff7baa0d99aa574d1f7fc10a36150042984ac0e65255945", func := "sennit/sennitlaw16.AgesMiddle", spec := "agesMiddle", unfollowed := true, recurses := true, apart := false, narrowed := true }
def AgesMiddleUptoSaid : Prop := agesMiddleUptoRow.holds Try.pinned (OpenSpec.upto agesMiddleSpec)

/-- 'sennitlaw16.AgesRun', WHERE WHAT IT READS IS OF BULK AT MOST 1048576: true; the input reads as it did. -/
def agesRunUptoRow : OpenClaim := { program := "ytlfpchkoeipcdaa", sum := "bdf9cf06df4a3550bff7baa0d99aa574d1f7fc10a36150042984ac0e65255945", func := "sennit/sennitlaw16.AgesRun", spec := "agesRun", unfollowed := true, recurses := true, apart := false, narrowed := true }
def AgesRunUptoSaid : Prop := agesRunUptoRow.holds Try.pinned (OpenSpec.upto agesRunSpec)

end Rows
end Go.Proofs.Ytlfpchkoeipcdaa
