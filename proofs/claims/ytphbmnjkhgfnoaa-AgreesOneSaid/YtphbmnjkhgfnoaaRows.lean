/-
  No cell of these rows narrows 'for every input' (looked for: loops, veiled, ifaces, maps, wideKeys, modest, calm, conditions, laid).
  DERIVED. THE GIVEN ROWS OF THIS SEAT. 12 by the template 'for every input the law returns true; each argument reads behind the call as it read before'; 0 by the template 'total and deterministic' (their statements: YtphbmnjkhgfnoaaTotals.lean).
  GIVEN WITH THE SEED: the statements are not yours to turn. If you find one false, say at which input.
  Laid BY PROGRAM, IN A SANDBOX (cutbox-rows.mjs): the forced cells as the released guide's own fill.sh prints them over the translation 79e70f62d58d9742… (all of the seat's roots in one cut). By AI agents, Wed Nov 11 2026. No macro, syntax, notation, axiom, sorry.
-/
import Derived.Test.YtphbmnjkhgfnoaaChecked
import GoSem.Claim
import GoSem.ClaimJoined
import GoSem.ClaimMapViews
import Derived.JoinedTies
import Derived.KernelRfl
namespace Go.Proofs.Ytphbmnjkhgfnoaa
/- THE CELL 'sum', in the pinned program and in every row, IS THE sha256 OF THE DUMP (.gsa) THAT YtphbmnjkhgfnoaaProg.lean LOADS. Nothing in Lean hashes anything: it is a label: what it is worth is what the hold of that sum in a sandbox is worth. -/
noncomputable def Try.pinned : Pinned := { name := "ytphbmnjkhgfnoaa", sum := "79e70f62d58d9742b58db6ee044e2fc66146d52fca3c660e8f12a7049182c86c", checked := Try.checked }
namespace Rows
def none {H : Type} : Left H := { results := [], args := [] }

/-- 'sennitlaw15.AgreesAny': WHATEVER THE INPUT: true; the input reads as it did. -/
def agreesAnySpec : ChangeSpec := { name := "agreesAny", fn := fun _ => fun
  | [d1, d2] => { results := [.lit (.bool true)], args := [d1, d2] }
  | _ => none }
def agreesAnyRow : OpenClaim := { program := "ytphbmnjkhgfnoaa", sum := "79e70f62d58d9742b58db6ee044e2fc66146d52fca3c660e8f12a7049182c86c", func := "sennit/sennitlaw15.AgreesAny", spec := "agreesAny", plainKeys := false, apart := false }
def AgreesAnySaid : Prop := agreesAnyRow.holds Try.pinned (OpenSpec.ofChange agreesAnySpec)

/-- ITS FALSE NEIGHBOUR: 'it returns false'. Refute it at one input. -/
def agreesAnyWrong : ChangeSpec := { name := "agreesAny", fn := fun _ => fun
  | [d1, d2] => { results := [.lit (.bool false)], args := [d1, d2] }
  | _ => none }
def AgreesAnyWrongFalsely : Prop := agreesAnyRow.holds Try.pinned (OpenSpec.ofChange agreesAnyWrong)

/-- 'sennitlaw15.AgreesOne': WHATEVER THE INPUT: true; the input reads as it did. -/
def agreesOneSpec : ChangeSpec := { name := "agreesOne", fn := fun _ => fun
  | [d1, d2, d3] => { results := [.lit (.bool true)], args := [d1, d2, d3] }
  | _ => none }
def agreesOneRow : OpenClaim := { program := "ytphbmnjkhgfnoaa", sum := "79e70f62d58d9742b58db6ee044e2fc66146d52fca3c660e8f12a7049182c86c", func := "sennit/sennitlaw15.AgreesOne", spec := "agreesOne", plainKeys := false, apart := false }
def AgreesOneSaid : Prop := agreesOneRow.holds Try.pinned (OpenSpec.ofChange agreesOneSpec)

/-- ITS FALSE NEIGHBOUR: 'it returns false'. Refute it at one input. -/
def agreesOneWrong : ChangeSpec := { name := "agreesOne", fn := fun _ => fun
  | [d1, d2, d3] => { results := [.lit (.bool false)], args := [d1, d2, d3] }
  | _ => none }
def AgreesOneWrongFalsely : Prop := agreesOneRow.holds Try.pinned (OpenSpec.ofChange agreesOneWrong)

/-- 'sennitlaw17.CliquesPlay': WHATEVER THE INPUT: true; the input reads as it did. -/
def cliquesPlaySpec : ChangeSpec := { name := "cliquesPlay", fn := fun _ => fun
  | [d1, d2] => { results := [.lit (.bool true)], args := [d1, d2] }
  | _ => none }
def cliquesPlayRow : OpenClaim := { program := "ytphbmnjkhgfnoaa", sum := "79e70f62d58d9742b58db6ee044e2fc66146d52fca3c660e8f12a7049182c86c", func := "sennit/sennitlaw17.CliquesPlay", spec := "cliquesPlay", plainKeys := false, apart := false }
def CliquesPlaySaid : Prop := cliquesPlayRow.holds Try.pinned (OpenSpec.ofChange cliquesPlaySpec)

/-- ITS FALSE NEIGHBOUR: 'it returns false'. Refute it at one input. -/
def cliquesPlayWrong : ChangeSpec := { name := "cliquesPlay", fn := fun _ => fun
  | [d1, d2] => { results := [.lit (.bool false)], args := [d1, d2] }
  | _ => none }
def CliquesPlayWrongFalsely : Prop := cliquesPlayRow.holds Try.pinned (OpenSpec.ofChange cliquesPlayWrong)

/-- 'sennitlaw17.CliquesVoid': WHATEVER THE INPUT: true; the input reads as it did. -/
def cliquesVoidSpec : ChangeSpec := { name := "cliquesVoid", fn := fun _ => fun
  | [d] => { results := [.lit (.bool true)], args := [d] }
  | _ => none }
def cliquesVoidRow : OpenClaim := { program := "ytphbmnjkhgfnoaa", sum := "79e70f62d58d9742b58db6ee044e2fc66146d52fca3c660e8f12a7049182c86c", func := "sennit/sennitlaw17.CliquesVoid", spec := "cliquesVoid", plainKeys := false, apart := false }
def CliquesVoidSaid : Prop := cliquesVoidRow.holds Try.pinned (OpenSpec.ofChange cliquesVoidSpec)

/-- ITS FALSE NEIGHBOUR: 'it returns false'. Refute it at one input. -/
def cliquesVoidWrong : ChangeSpec := { name := "cliquesVoid", fn := fun _ => fun
  | [d] => { results := [.lit (.bool false)], args := [d] }
  | _ => none }
def CliquesVoidWrongFalsely : Prop := cliquesVoidRow.holds Try.pinned (OpenSpec.ofChange cliquesVoidWrong)

/-- 'sennitlaw17.CliquesRun': WHATEVER THE INPUT: true; the input reads as it did. -/
def cliquesRunSpec : ChangeSpec := { name := "cliquesRun", fn := fun _ => fun
  | [d1, d2] => { results := [.lit (.bool true)], args := [d1, d2] }
  | _ => none }
def cliquesRunRow : OpenClaim := { program := "ytphbmnjkhgfnoaa", sum := "79e70f62d58d9742b58db6ee044e2fc66146d52fca3c660e8f12a7049182c86c", func := "sennit/sennitlaw17.CliquesRun", spec := "cliquesRun", plainKeys := false, apart := false }
def CliquesRunSaid : Prop := cliquesRunRow.holds Try.pinned (OpenSpec.ofChange cliquesRunSpec)

/-- ITS FALSE NEIGHBOUR: 'it returns false'. Refute it at one input. -/
def cliquesRunWrong : ChangeSpec := { name := "cliquesRun", fn := fun _ => fun
  | [d1, d2] => { results := [.lit (.bool false)], args := [d1, d2] }
  | _ => none }
def CliquesRunWrongFalsely : Prop := cliquesRunRow.holds Try.pinned (OpenSpec.ofChange cliquesRunWrong)

/-- 'sennitlaw18.BootsPlay': WHATEVER THE INPUT: true; the input reads as it did. -/
def bootsPlaySpec : ChangeSpec := { name := "bootsPlay", fn := fun _ => fun
  | [d1, d2] => { results := [.lit (.bool true)], args := [d1, d2] }
  | _ => none }
def bootsPlayRow : OpenClaim := { program := "ytphbmnjkhgfnoaa", sum := "79e70f62d58d9742b58db6ee044e2fc66146d52fca3c660e8f12a7049182c86c", func := "sennit/sennitlaw18.BootsPlay", spec := "bootsPlay", plainKeys := false, apart := false }
def BootsPlaySaid : Prop := bootsPlayRow.holds Try.pinned (OpenSpec.ofChange bootsPlaySpec)

/-- ITS FALSE NEIGHBOUR: 'it returns false'. Refute it at one input. -/
def bootsPlayWrong : ChangeSpec := { name := "bootsPlay", fn := fun _ => fun
  | [d1, d2] => { results := [.lit (.bool false)], args := [d1, d2] }
  | _ => none }
def BootsPlayWrongFalsely : Prop := bootsPlayRow.holds Try.pinned (OpenSpec.ofChange bootsPlayWrong)

/-- 'sennitlaw18.BootsVoid': WHATEVER THE INPUT: true; the input reads as it did. -/
def bootsVoidSpec : ChangeSpec := { name := "bootsVoid", fn := fun _ => fun
  | [d] => { results := [.lit (.bool true)], args := [d] }
  | _ => none }
def bootsVoidRow : OpenClaim := { program := "ytphbmnjkhgfnoaa", sum := "79e70f62d58d9742b58db6ee044e2fc66146d52fca3c660e8f12a7049182c86c", func := "sennit/sennitlaw18.BootsVoid", spec := "bootsVoid", plainKeys := false, apart := false }
def BootsVoidSaid : Prop := bootsVoidRow.holds Try.pinned (OpenSpec.ofChange bootsVoidSpec)

/-- ITS FALSE NEIGHBOUR: 'it returns false'. Refute it at one input. -/
def bootsVoidWrong : ChangeSpec := { name := "bootsVoid", fn := fun _ => fun
  | [d] => { results := [.lit (.bool false)], args := [d] }
  | _ => none }
def BootsVoidWrongFalsely : Prop := bootsVoidRow.holds Try.pinned (OpenSpec.ofChange bootsVoidWrong)

/-- 'sennitlaw18.BootsAge': WHATEVER THE INPUT: true; the input reads as it did. -/
def bootsAgeSpec : ChangeSpec := { name := "bootsAge", fn := fun _ => fun
  | [d1, d2] => { results := [.lit (.bool true)], args := [d1, d2] }
  | _ => none }
def bootsAgeRow : OpenClaim := { program := "ytphbmnjkhgfnoaa", sum := "79e70f62d58d9742b58db6ee044e2fc66146d52fca3c660e8f12a7049182c86c", func := "sennit/sennitlaw18.BootsAge", spec := "bootsAge", plainKeys := false, apart := false }
def BootsAgeSaid : Prop := bootsAgeRow.holds Try.pinned (OpenSpec.ofChange bootsAgeSpec)

/-- ITS FALSE NEIGHBOUR: 'it returns false'. Refute it at one input. -/
def bootsAgeWrong : ChangeSpec := { name := "bootsAge", fn := fun _ => fun
  | [d1, d2] => { results := [.lit (.bool false)], args := [d1, d2] }
  | _ => none }
def BootsAgeWrongFalsely : Prop := bootsAgeRow.holds Try.pinned (OpenSpec.ofChange bootsAgeWrong)

/-- 'sennitlaw13.WordsNorm': WHATEVER THE INPUT: true; the input reads as it did. -/
def wordsNormSpec : ChangeSpec := { name := "wordsNorm", fn := fun _ => fun
  | [d1, d2] => { results := [.lit (.bool true)], args := [d1, d2] }
  | _ => none }
def wordsNormRow : OpenClaim := { program := "ytphbmnjkhgfnoaa", sum := "79e70f62d58d9742b58db6ee044e2fc66146d52fca3c660e8f12a7049182c86c", func := "sennit/sennitlaw13.WordsNorm", spec := "wordsNorm", unfollowed := true, recurses := true, plainKeys := false, apart := false }
def WordsNormSaid : Prop := wordsNormRow.holds Try.pinned (OpenSpec.ofChange wordsNormSpec)

/-- ITS FALSE NEIGHBOUR: 'it returns false'. Refute it at one input. -/
def wordsNormWrong : ChangeSpec := { name := "wordsNorm", fn := fun _ => fun
  | [d1, d2] => { results := [.lit (.bool false)], args := [d1, d2] }
  | _ => none }
def WordsNormWrongFalsely : Prop := wordsNormRow.holds Try.pinned (OpenSpec.ofChange wordsNormWrong)

/-- 'sennitlaw13.WordsIdle': WHATEVER THE INPUT: true; the input reads as it did. -/
def wordsIdleSpec : ChangeSpec := { name := "wordsIdle", fn := fun _ => fun
  | [d1, d2] => { results := [.lit (.bool true)], args := [d1, d2] }
  | _ => none }
def wordsIdleRow : OpenClaim := { program := "ytphbmnjkhgfnoaa", sum := "79e70f62d58d9742b58db6ee044e2fc66146d52fca3c660e8f12a7049182c86c", func := "sennit/sennitlaw13.WordsIdle", spec := "wordsIdle", unfollowed := true, recurses := true, plainKeys := false, apart := false }
def WordsIdleSaid : Prop := wordsIdleRow.holds Try.pinned (OpenSpec.ofChange wordsIdleSpec)

/-- ITS FALSE NEIGHBOUR: 'it returns false'. Refute it at one input. -/
def wordsIdleWrong : ChangeSpec := { name := "wordsIdle", fn := fun _ => fun
  | [d1, d2] => { results := [.lit (.bool false)], args := [d1, d2] }
  | _ => none }
def WordsIdleWrongFalsely : Prop := wordsIdleRow.holds Try.pinned (OpenSpec.ofChange wordsIdleWrong)

/-- 'sennitlaw13.WordsRows': WHATEVER THE INPUT: true; the input reads as it did. -/
def wordsRowsSpec : ChangeSpec := { name := "wordsRows", fn := fun _ => fun
  | [d1, d2, d3] => { results := [.lit (.bool true)], args := [d1, d2, d3] }
  | _ => none }
def wordsRowsRow : OpenClaim := { program := "ytphbmnjkhgfnoaa", sum := "79e70f62d58d9742b58db6ee044e2fc66146d52fca3c660e8f12a7049182c86c", func := "sennit/sennitlaw13.WordsRows", spec := "wordsRows", unfollowed := true, recurses := true, plainKeys := false, apart := false }
def WordsRowsSaid : Prop := wordsRowsRow.holds Try.pinned (OpenSpec.ofChange wordsRowsSpec)

/-- ITS FALSE NEIGHBOUR: 'it returns false'. Refute it at one input. -/
def wordsRowsWrong : ChangeSpec := { name := "wordsRows", fn := fun _ => fun
  | [d1, d2, d3] => { results := [.lit (.bool false)], args := [d1, d2, d3] }
  | _ => none }
def WordsRowsWrongFalsely : Prop := wordsRowsRow.holds Try.pinned (OpenSpec.ofChange wordsRowsWrong)

/-- 'sennitlaw13.WordsChange': WHATEVER THE INPUT: true; the input reads as it did. -/
def wordsChangeSpec : ChangeSpec := { name := "wordsChange", fn := fun _ => fun
  | [d1, d2, d3] => { results := [.lit (.bool true)], args := [d1, d2, d3] }
  | _ => none }
def wordsChangeRow : OpenClaim := { program := "ytphbmnjkhgfnoaa", sum := "79e70f62d58d9742b58db6ee044e2fc66146d52fca3c660e8f12a7049182c86c", func := "sennit/sennitlaw13.WordsChange", spec := "wordsChange", unfollowed := true, recurses := true, plainKeys := false, apart := false }
def WordsChangeSaid : Prop := wordsChangeRow.holds Try.pinned (OpenSpec.ofChange wordsChangeSpec)

/-- ITS FALSE NEIGHBOUR: 'it returns false'. Refute it at one input. -/
def wordsChangeWrong : ChangeSpec := { name := "wordsChange", fn := fun _ => fun
  | [d1, d2, d3] => { results := [.lit (.bool false)], args := [d1, d2, d3] }
  | _ => none }
def WordsChangeWrongFalsely : Prop := wordsChangeRow.holds Try.pinned (OpenSpec.ofChange wordsChangeWrong)

/- THE SECOND FORM. 'bulk': how many values and letters a reading holds, each counted each time it is reached (what is shared counts as often as it is met; a slice's spare places count too). A statement '..UptoSaid' is the law's where the arguments, and the package variables that the reading takes, are together of bulk at most 1048576: NARROWER than '..Said'. Prove '..Said' where nothing that the law and all that it calls make is longer than what came in: it says more and counts as full. Else prove '..UptoSaid'. A law counts once. -/
mutual
def uptoBulk {H : Type} : DataW H → Nat
  | .lit (.string bytes) => bytes.length + 1
  | .lit _ => 1
  | .nil => 1
  | .ptr d => uptoBulk d + 1
  | .slice elems spare => uptoBulkAll elems + uptoBulkAll spare + 1
  | .agg parts => uptoBulkAll parts + 1
  | .iface _ d => uptoBulk d + 1
  | .map entries => uptoBulkEntries entries + 1
  | .held _ => 1
def uptoBulkAll {H : Type} : List (DataW H) → Nat
  | [] => 0
  | d :: r => uptoBulk d + uptoBulkAll r
def uptoBulkEntries {H : Type} : List (Lit × DataW H) → Nat
  | [] => 0
  | x :: r => uptoBulkEntry x + uptoBulkEntries r
def uptoBulkEntry {H : Type} : Lit × DataW H → Nat
  | (.string bytes, d) => bytes.length + uptoBulk d + 1
  | (_, d) => uptoBulk d + 1
 end
def uptoSmall : (H : Type) → List (DataW H) → Bool := fun _ ds => decide (uptoBulkAll ds ≤ 1048576)
def OpenSpec.upto (s : _root_.Go.ChangeSpec) : _root_.Go.OpenSpec := { _root_.Go.OpenSpec.ofChange s with cond := some uptoSmall }

/-- 'sennitlaw15.AgreesAny', WHERE WHAT IT READS IS OF BULK AT MOST 1048576: true; the input reads as it did. -/
def agreesAnyUptoRow : OpenClaim := { program := "ytphbmnjkhgfnoaa", sum := "79e70f62d58d9742b58db6ee044e2fc66146d52fca3c660e8f12a7049182c86c", func := "sennit/sennitlaw15.AgreesAny", spec := "agreesAny", plainKeys := false, apart := false, narrowed := true }
def AgreesAnyUptoSaid : Prop := agreesAnyUptoRow.holds Try.pinned (OpenSpec.upto agreesAnySpec)

/-- 'sennitlaw15.AgreesOne', WHERE WHAT IT READS IS OF BULK AT MOST 1048576: true; the input reads as it did. -/
def agreesOneUptoRow : OpenClaim := { program := "ytphbmnjkhgfnoaa", sum := "79e70f62d58d9742b58db6ee044e2fc66146d52fca3c660e8f12a7049182c86c", func := "sennit/sennitlaw15.AgreesOne", spec := "agreesOne", plainKeys := false, apart := false, narrowed := true }
def AgreesOneUptoSaid : Prop := agreesOneUptoRow.holds Try.pinned (OpenSpec.upto agreesOneSpec)

/-- 'sennitlaw17.CliquesPlay', WHERE WHAT IT READS IS OF BULK AT MOST 1048576: true; the input reads as it did. -/
def cliquesPlayUptoRow : OpenClaim := { program := "ytphbmnjkhgfnoaa", sum := "79e70f62d58d9742b58db6ee044e2fc66146d52fca3c660e8f12a7049182c86c", func := "sennit/sennitlaw17.CliquesPlay", spec := "cliquesPlay", plainKeys := false, apart := false, narrowed := true }
def CliquesPlayUptoSaid : Prop := cliquesPlayUptoRow.holds Try.pinned (OpenSpec.upto cliquesPlaySpec)

/-- 'sennitlaw17.CliquesVoid', WHERE WHAT IT READS IS OF BULK AT MOST 1048576: true; the input reads as it did. -/
def cliquesVoidUptoRow : OpenClaim := { program := "ytphbmnjkhgfnoaa", sum := "79e70f62d58d9742b58db6ee044e2fc66146d52fca3c660e8f12a7049182c86c", func := "sennit/sennitlaw17.CliquesVoid", spec := "cliquesVoid", plainKeys := false, apart := false, narrowed := true }
def CliquesVoidUptoSaid : Prop := cliquesVoidUptoRow.holds Try.pinned (OpenSpec.upto cliquesVoidSpec)

/-- 'sennitlaw17.CliquesRun', WHERE WHAT IT READS IS OF BULK AT MOST 1048576: true; the input reads as it did. -/
def cliquesRunUptoRow : OpenClaim := { program := "ytphbmnjkhgfnoaa", sum := "79e70f62d58d9742b58db6ee044e2fc66146d52fca3c660e8f12a7049182c86c", func := "sennit/sennitlaw17.CliquesRun", spec := "cliquesRun", plainKeys := false, apart := false, narrowed := true }
def CliquesRunUptoSaid : Prop := cliquesRunUptoRow.holds Try.pinned (OpenSpec.upto cliquesRunSpec)

/-- 'sennitlaw18.BootsPlay', WHERE WHAT IT READS IS OF BULK AT MOST 1048576: true; the input reads as it did. -/
def bootsPlayUptoRow : OpenClaim := { program := "ytphbmnjkhgfnoaa", sum := "79e70f62d58d9742b58db6ee044e2fc66146d52fca3c660e8f12a7049182c86c", func := "sennit/sennitlaw18.BootsPlay", spec := "bootsPlay", plainKeys := false, apart := false, narrowed := true }
def BootsPlayUptoSaid : Prop := bootsPlayUptoRow.holds Try.pinned (OpenSpec.upto bootsPlaySpec)

/-- 'sennitlaw18.BootsVoid', WHERE WHAT IT READS IS OF BULK AT MOST 1048576: true; the input reads as it did. -/
def bootsVoidUptoRow : OpenClaim := { program := "ytphbmnjkhgfnoaa", sum := "79e70f62d58d9742b58db6ee044e2fc66146d52fca3c660e8f12a7049182c86c", func := "sennit/sennitlaw18.BootsVoid", spec := "bootsVoid", plainKeys := false, apart := false, narrowed := true }
def BootsVoidUptoSaid : Prop := bootsVoidUptoRow.holds Try.pinned (OpenSpec.upto bootsVoidSpec)

/-- 'sennitlaw18.BootsAge', WHERE WHAT IT READS IS OF BULK AT MOST 1048576: true; the input reads as it did. -/
def bootsAgeUptoRow : OpenClaim := { program := "ytphbmnjkhgfnoaa", sum := "79e70f62d58d9742b58db6ee044e2fc66146d52fca3c660e8f12a7049182c86c", func := "sennit/sennitlaw18.BootsAge", spec := "bootsAge", plainKeys := false, apart := false, narrowed := true }
def BootsAgeUptoSaid : Prop := bootsAgeUptoRow.holds Try.pinned (OpenSpec.upto bootsAgeSpec)

/-- 'sennitlaw13.WordsNorm', WHERE WHAT IT READS IS OF BULK AT MOST 1048576: true; the input reads as it did. -/
def wordsNormUptoRow : OpenClaim := { program := "ytphbmnjkhgfnoaa", sum := "79e70f62d58d9742b58db6ee044e2fc66146d52fca3c660e8f12a7049182c86c", func := "sennit/sennitlaw13.WordsNorm", spec := "wordsNorm", unfollowed := true, recurses := true, plainKeys := false, apart := false, narrowed := true }
def WordsNormUptoSaid : Prop := wordsNormUptoRow.holds Try.pinned (OpenSpec.upto wordsNormSpec)

/-- 'sennitlaw13.WordsIdle', WHERE WHAT IT READS IS OF BULK AT MOST 1048576: true; the input reads as it did. -/
def wordsIdleUptoRow : OpenClaim := { program := "ytphbmnjkhgfnoaa", sum := "79e70f62d58d9742b58db6ee044e2fc66146d52fca3c660e8f12a7049182c86c", func := "sennit/sennitlaw13.WordsIdle", spec := "wordsIdle", unfollowed := true, recurses := true, plainKeys := false, apart := false, narrowed := true }
def WordsIdleUptoSaid : Prop := wordsIdleUptoRow.holds Try.pinned (OpenSpec.upto wordsIdleSpec)

/-- 'sennitlaw13.WordsRows', WHERE WHAT IT READS IS OF BULK AT MOST 1048576: true; the input reads as it did. -/
def wordsRowsUptoRow : OpenClaim := { program := "ytphbmnjkhgfnoaa", sum := "79e70f62d58d9742b58db6ee044e2fc66146d52fca3c660e8f12a7049182c86c", func := "sennit/sennitlaw13.WordsRows", spec := "wordsRows", unfollowed := true, recurses := true, plainKeys := false, apart := false, narrowed := true }
def WordsRowsUptoSaid : Prop := wordsRowsUptoRow.holds Try.pinned (OpenSpec.upto wordsRowsSpec)

/-- 'sennitlaw13.WordsChange', WHERE WHAT IT READS IS OF BULK AT MOST 1048576: true; the input reads as it did. -/
def wordsChangeUptoRow : OpenClaim := { program := "ytphbmnjkhgfnoaa", sum := "79e70f62d58d9742b58db6ee044e2fc66146d52fca3c660e8f12a7049182c86c", func := "sennit/sennitlaw13.WordsChange", spec := "wordsChange", unfollowed := true, recurses := true, plainKeys := false, apart := false, narrowed := true }
def WordsChangeUptoSaid : Prop := wordsChangeUptoRow.holds Try.pinned (OpenSpec.upto wordsChangeSpec)

end Rows
end Go.Proofs.Ytphbmnjkhgfnoaa
