/-
  No cell of these rows narrows 'for every input' (looked for: loops, veiled, ifaces, maps, wideKeys, modest, calm, conditions, laid).
  DERIVED. THE GIVEN ROWS OF THIS SEAT. 9 by the template 'for every input the law returns true; each argument reads behind the call as it read before'; 0 by the template 'total and deterministic' (their statements: YtbdklfcgcmdgaaaTotals.lean).
  GIVEN WITH THE SEED: the statements are not yours to turn. If you find one false, say at which input.
  Laid BY PROGRAM, IN A SANDBOX (cutbox-rows.mjs): the forced cells as the released guide's own fill.sh prints them over the translation 47e132903ae87123… (all of the seat's roots in one cut). By AI agents, Wed Nov 11 2026. No macro, syntax, notation, axiom, sorry.
-/
import Derived.Test.YtbdklfcgcmdgaaaChecked
import GoSem.Claim
import GoSem.ClaimJoined
import GoSem.ClaimMapViews
import Derived.JoinedTies
import Derived.KernelRfl
namespace Go.Proofs.Ytbdklfcgcmdgaaa
/- THE CELL 'sum', in the pinned program and in every row, IS THE sha256 OF THE DUMP (.gsa) THAT YtbdklfcgcmdgaaaProg.lean LOADS. Nothing in Lean hashes anything: it is a label: what it is worth is what the hold of that sum in a sandbox is worth. -/
noncomputable def Try.pinned : Pinned := { name := "ytbdklfcgcmdgaaa", sum := "47e132903ae871233033bd842b78d4e4685b4e1f2aee001b9980ebfcaaa1bd9d", checked := Try.checked }
namespace Rows
def none {H : Type} : Left H := { results := [], args := [] }

/-- 'sennitlaw14.TracksPlay': WHATEVER THE INPUT: true; the input reads as it did. -/
def tracksPlaySpec : ChangeSpec := { name := "tracksPlay", fn := fun _ => fun
  | [d1, d2, d3] => { results := [.lit (.bool true)], args := [d1, d2, d3] }
  | _ => none }
def tracksPlayRow : OpenClaim := { program := "ytbdklfcgcmdgaaa", sum := "47e132903ae871233033bd842b78d4e4685b4e1f2aee001b9980ebfcaaa1bd9d", func := "sennit/sennitlaw14.TracksPlay", spec := "tracksPlay", unfollowed := true, recurses := true, plainKeys := false, apart := false }
def TracksPlaySaid : Prop := tracksPlayRow.holds Try.pinned (OpenSpec.ofChange tracksPlaySpec)

/-- ITS FALSE NEIGHBOUR: 'it returns false'. Refute it at one input. -/
def tracksPlayWrong : ChangeSpec := { name := "tracksPlay", fn := fun _ => fun
  | [d1, d2, d3] => { results := [.lit (.bool false)], args := [d1, d2, d3] }
  | _ => none }
def TracksPlayWrongFalsely : Prop := tracksPlayRow.holds Try.pinned (OpenSpec.ofChange tracksPlayWrong)

/-- 'sennitlaw14.TracksVoid': WHATEVER THE INPUT: true; the input reads as it did. -/
def tracksVoidSpec : ChangeSpec := { name := "tracksVoid", fn := fun _ => fun
  | [d] => { results := [.lit (.bool true)], args := [d] }
  | _ => none }
def tracksVoidRow : OpenClaim := { program := "ytbdklfcgcmdgaaa", sum := "47e132903ae871233033bd842b78d4e4685b4e1f2aee001b9980ebfcaaa1bd9d", func := "sennit/sennitlaw14.TracksVoid", spec := "tracksVoid", unfollowed := true, recurses := true, plainKeys := false, apart := false }
def TracksVoidSaid : Prop := tracksVoidRow.holds Try.pinned (OpenSpec.ofChange tracksVoidSpec)

/-- ITS FALSE NEIGHBOUR: 'it returns false'. Refute it at one input. -/
def tracksVoidWrong : ChangeSpec := { name := "tracksVoid", fn := fun _ => fun
  | [d] => { results := [.lit (.bool false)], args := [d] }
  | _ => none }
def TracksVoidWrongFalsely : Prop := tracksVoidRow.holds Try.pinned (OpenSpec.ofChange tracksVoidWrong)

/-- 'sennitlaw14.TracksTruth': WHATEVER THE INPUT: true; the input reads as it did. -/
def tracksTruthSpec : ChangeSpec := { name := "tracksTruth", fn := fun _ => fun
  | [d1, d2, d3] => { results := [.lit (.bool true)], args := [d1, d2, d3] }
  | _ => none }
def tracksTruthRow : OpenClaim := { program := "ytbdklfcgcmdgaaa", sum := "47e132903ae871233033bd842b78d4e4685b4e1f2aee001b9980ebfcaaa1bd9d", func := "sennit/sennitlaw14.TracksTruth", spec := "tracksTruth", unfollowed := true, recurses := true, plainKeys := false, apart := false }
def TracksTruthSaid : Prop := tracksTruthRow.holds Try.pinned (OpenSpec.ofChange tracksTruthSpec)

/-- ITS FALSE NEIGHBOUR: 'it returns false'. Refute it at one input. -/
def tracksTruthWrong : ChangeSpec := { name := "tracksTruth", fn := fun _ => fun
  | [d1, d2, d3] => { results := [.lit (.bool false)], args := [d1, d2, d3] }
  | _ => none }
def TracksTruthWrongFalsely : Prop := tracksTruthRow.holds Try.pinned (OpenSpec.ofChange tracksTruthWrong)

/-- 'sennitlaw14.TracksOff': WHATEVER THE INPUT: true; the input reads as it did. -/
def tracksOffSpec : ChangeSpec := { name := "tracksOff", fn := fun _ => fun
  | [d1, d2, d3] => { results := [.lit (.bool true)], args := [d1, d2, d3] }
  | _ => none }
def tracksOffRow : OpenClaim := { program := "ytbdklfcgcmdgaaa", sum := "47e132903ae871233033bd842b78d4e4685b4e1f2aee001b9980ebfcaaa1bd9d", func := "sennit/sennitlaw14.TracksOff", spec := "tracksOff", unfollowed := true, recurses := true, plainKeys := false, apart := false }
def TracksOffSaid : Prop := tracksOffRow.holds Try.pinned (OpenSpec.ofChange tracksOffSpec)

/-- ITS FALSE NEIGHBOUR: 'it returns false'. Refute it at one input. -/
def tracksOffWrong : ChangeSpec := { name := "tracksOff", fn := fun _ => fun
  | [d1, d2, d3] => { results := [.lit (.bool false)], args := [d1, d2, d3] }
  | _ => none }
def TracksOffWrongFalsely : Prop := tracksOffRow.holds Try.pinned (OpenSpec.ofChange tracksOffWrong)

/-- 'sennitlaw14.TracksRound': WHATEVER THE INPUT: true; the input reads as it did. -/
def tracksRoundSpec : ChangeSpec := { name := "tracksRound", fn := fun _ => fun
  | [d1, d2] => { results := [.lit (.bool true)], args := [d1, d2] }
  | _ => none }
def tracksRoundRow : OpenClaim := { program := "ytbdklfcgcmdgaaa", sum := "47e132903ae871233033bd842b78d4e4685b4e1f2aee001b9980ebfcaaa1bd9d", func := "sennit/sennitlaw14.TracksRound", spec := "tracksRound", unfollowed := true, recurses := true, plainKeys := false, apart := false }
def TracksRoundSaid : Prop := tracksRoundRow.holds Try.pinned (OpenSpec.ofChange tracksRoundSpec)

/-- ITS FALSE NEIGHBOUR: 'it returns false'. Refute it at one input. -/
def tracksRoundWrong : ChangeSpec := { name := "tracksRound", fn := fun _ => fun
  | [d1, d2] => { results := [.lit (.bool false)], args := [d1, d2] }
  | _ => none }
def TracksRoundWrongFalsely : Prop := tracksRoundRow.holds Try.pinned (OpenSpec.ofChange tracksRoundWrong)

/-- 'sennitlaw15.AgreesRing': WHATEVER THE INPUT: true; the input reads as it did. -/
def agreesRingSpec : ChangeSpec := { name := "agreesRing", fn := fun _ => fun
  | [d1, d2, d3] => { results := [.lit (.bool true)], args := [d1, d2, d3] }
  | _ => none }
def agreesRingRow : OpenClaim := { program := "ytbdklfcgcmdgaaa", sum := "47e132903ae871233033bd842b78d4e4685b4e1f2aee001b9980ebfcaaa1bd9d", func := "sennit/sennitlaw15.AgreesRing", spec := "agreesRing", unfollowed := true, recurses := true, plainKeys := false, apart := false }
def AgreesRingSaid : Prop := agreesRingRow.holds Try.pinned (OpenSpec.ofChange agreesRingSpec)

/-- ITS FALSE NEIGHBOUR: 'it returns false'. Refute it at one input. -/
def agreesRingWrong : ChangeSpec := { name := "agreesRing", fn := fun _ => fun
  | [d1, d2, d3] => { results := [.lit (.bool false)], args := [d1, d2, d3] }
  | _ => none }
def AgreesRingWrongFalsely : Prop := agreesRingRow.holds Try.pinned (OpenSpec.ofChange agreesRingWrong)

/-- 'sennitlaw15.AgreesOff': WHATEVER THE INPUT: true; the input reads as it did. -/
def agreesOffSpec : ChangeSpec := { name := "agreesOff", fn := fun _ => fun
  | [d1, d2, d3] => { results := [.lit (.bool true)], args := [d1, d2, d3] }
  | _ => none }
def agreesOffRow : OpenClaim := { program := "ytbdklfcgcmdgaaa", sum := "47e132903ae871233033bd842b78d4e4685b4e1f2aee001b9980ebfcaaa1bd9d", func := "sennit/sennitlaw15.AgreesOff", spec := "agreesOff", unfollowed := true, recurses := true, plainKeys := false, apart := false }
def AgreesOffSaid : Prop := agreesOffRow.holds Try.pinned (OpenSpec.ofChange agreesOffSpec)

/-- ITS FALSE NEIGHBOUR: 'it returns false'. Refute it at one input. -/
def agreesOffWrong : ChangeSpec := { name := "agreesOff", fn := fun _ => fun
  | [d1, d2, d3] => { results := [.lit (.bool false)], args := [d1, d2, d3] }
  | _ => none }
def AgreesOffWrongFalsely : Prop := agreesOffRow.holds Try.pinned (OpenSpec.ofChange agreesOffWrong)

/-- 'sennitlaw18.BootsStart': WHATEVER THE INPUT: true; the input reads as it did. -/
def bootsStartSpec : ChangeSpec := { name := "bootsStart", fn := fun _ => fun
  | [d1, d2, d3] => { results := [.lit (.bool true)], args := [d1, d2, d3] }
  | _ => none }
def bootsStartRow : OpenClaim := { program := "ytbdklfcgcmdgaaa", sum := "47e132903ae871233033bd842b78d4e4685b4e1f2aee001b9980ebfcaaa1bd9d", func := "sennit/sennitlaw18.BootsStart", spec := "bootsStart", unfollowed := true, recurses := true, plainKeys := false, apart := false }
def BootsStartSaid : Prop := bootsStartRow.holds Try.pinned (OpenSpec.ofChange bootsStartSpec)

/-- ITS FALSE NEIGHBOUR: 'it returns false'. Refute it at one input. -/
def bootsStartWrong : ChangeSpec := { name := "bootsStart", fn := fun _ => fun
  | [d1, d2, d3] => { results := [.lit (.bool false)], args := [d1, d2, d3] }
  | _ => none }
def BootsStartWrongFalsely : Prop := bootsStartRow.holds Try.pinned (OpenSpec.ofChange bootsStartWrong)

/-- 'sennitlaw18.BootsOne': WHATEVER THE INPUT: true; the input reads as it did. -/
def bootsOneSpec : ChangeSpec := { name := "bootsOne", fn := fun _ => fun
  | [d1, d2, d3] => { results := [.lit (.bool true)], args := [d1, d2, d3] }
  | _ => none }
def bootsOneRow : OpenClaim := { program := "ytbdklfcgcmdgaaa", sum := "47e132903ae871233033bd842b78d4e4685b4e1f2aee001b9980ebfcaaa1bd9d", func := "sennit/sennitlaw18.BootsOne", spec := "bootsOne", unfollowed := true, recurses := true, plainKeys := false, apart := false }
def BootsOneSaid : Prop := bootsOneRow.holds Try.pinned (OpenSpec.ofChange bootsOneSpec)

/-- ITS FALSE NEIGHBOUR: 'it returns false'. Refute it at one input. -/
def bootsOneWrong : ChangeSpec := { name := "bootsOne", fn := fun _ => fun
  | [d1, d2, d3] => { results := [.lit (.bool false)], args := [d1, d2, d3] }
  | _ => none }
def BootsOneWrongFalsely : Prop := bootsOneRow.holds Try.pinned (OpenSpec.ofChange bootsOneWrong)

/- THE SECOND FORM. 'bulk': how many values and letters a reading holds, each counted each time it is reached (what is shared counts as often as it is met; a slice's spare places count too). A statement '..UptoSaid' is the law's where the arguments, and the package variables that the reading takes, are together of bulk at most 1048576: NARROWER than '..Said'. Prove '..Said' where nothing that the law and all that it calls make is longer than what came in: it says more and counts as full. Else prove '..UptoSaid'. A law counts once. -/
mutual
def uptoBulk {H : Type} : DataW H → Nat
  | .lit (.string bytes) => bytes.length + 1
  | .lit _ => 1
  | .nil => 1
  | .ptr d => uptoBulk d + 1
  | .slice elems spare => uptoBulkAll elems + uptoBulkAll spare + 1
  | .agg parts => uptoBulkAll parts + 1
  | .iface _ d => uptoBulk d + 1
  | .map entries => uptoBulkEntries entries + 1
  | .held _ => 1
def uptoBulkAll {H : Type} : List (DataW H) → Nat
  | [] => 0
  | d :: r => uptoBulk d + uptoBulkAll r
def uptoBulkEntries {H : Type} : List (Lit × DataW H) → Nat
  | [] => 0
  | x :: r => uptoBulkEntry x + uptoBulkEntries r
def uptoBulkEntry {H : Type} : Lit × DataW H → Nat
  | (.string bytes, d) => bytes.length + uptoBulk d + 1
  | (_, d) => uptoBulk d + 1
 end
def uptoSmall : (H : Type) → List (DataW H) → Bool := fun _ ds => decide (uptoBulkAll ds ≤ 1048576)
def OpenSpec.upto (s : _root_.Go.ChangeSpec) : _root_.Go.OpenSpec := { _root_.Go.OpenSpec.ofChange s with cond := some uptoSmall }

/-- 'sennitlaw14.TracksPlay', WHERE WHAT IT READS IS OF BULK AT MOST 1048576: true; the input reads as it did. -/
def tracksPlayUptoRow : OpenClaim := { program := "ytbdklfcgcmdgaaa", sum := "47e132903ae871233033bd842b78d4e4685b4e1f2aee001b9980ebfcaaa1bd9d", func := "sennit/sennitlaw14.TracksPlay", spec := "tracksPlay", unfollowed := true, recurses := true, plainKeys := false, apart := false, narrowed := true }
def TracksPlayUptoSaid : Prop := tracksPlayUptoRow.holds Try.pinned (OpenSpec.upto tracksPlaySpec)

/-- 'sennitlaw14.TracksVoid', WHERE WHAT IT READS IS OF BULK AT MOST 1048576: true; the input reads as it did. -/
def tracksVoidUptoRow : OpenClaim := { program := "ytbdklfcgcmdgaaa", sum := "47e132903ae871233033bd842b78d4e4685b4e1f2aee001b9980ebfcaaa1bd9d", func := "sennit/sennitlaw14.TracksVoid", spec := "tracksVoid", unfollowed := true, recurses := true, plainKeys := false, apart := false, narrowed := true }
def TracksVoidUptoSaid : Prop := tracksVoidUptoRow.holds Try.pinned (OpenSpec.upto tracksVoidSpec)

/-- 'sennitlaw14.TracksTruth', WHERE WHAT IT READS IS OF BULK AT MOST 1048576: true; the input reads as it did. -/
def tracksTruthUptoRow : OpenClaim := { program := "ytbdklfcgcmdgaaa", sum := "47e132903ae871233033bd842b78d4e4685b4e1f2aee001b9980ebfcaaa1bd9d", func := "sennit/sennitlaw14.TracksTruth", spec := "tracksTruth", unfollowed := true, recurses := true, plainKeys := false, apart := false, narrowed := true }
def TracksTruthUptoSaid : Prop := tracksTruthUptoRow.holds Try.pinned (OpenSpec.upto tracksTruthSpec)

/-- 'sennitlaw14.TracksOff', WHERE WHAT IT READS IS OF BULK AT MOST 1048576: true; the input reads as it did. -/
def tracksOffUptoRow : OpenClaim := { program := "ytbdklfcgcmdgaaa", sum := "47e132903ae871233033bd842b78d4e4685b4e1f2aee001b9980ebfcaaa1bd9d", func := "sennit/sennitlaw14.TracksOff", spec := "tracksOff", unfollowed := true, recurses := true, plainKeys := false, apart := false, narrowed := true }
def TracksOffUptoSaid : Prop := tracksOffUptoRow.holds Try.pinned (OpenSpec.upto tracksOffSpec)

/-- 'sennitlaw14.TracksRound', WHERE WHAT IT READS IS OF BULK AT MOST 1048576: true; the input reads as it did. -/
def tracksRoundUptoRow : OpenClaim := { program := "ytbdklfcgcmdgaaa", sum := "47e132903ae871233033bd842b78d4e4685b4e1f2aee001b9980ebfcaaa1bd9d", func := "sennit/sennitlaw14.TracksRound", spec := "tracksRound", unfollowed := true, recurses := true, plainKeys := false, apart := false, narrowed := true }
def TracksRoundUptoSaid : Prop := tracksRoundUptoRow.holds Try.pinned (OpenSpec.upto tracksRoundSpec)

/-- 'sennitlaw15.AgreesRing', WHERE WHAT IT READS IS OF BULK AT MOST 1048576: true; the input reads as it did. -/
def agreesRingUptoRow : OpenClaim := { program := "ytbdklfcgcmdgaaa", sum := "47e132903ae871233033bd842b78d4e4685b4e1f2aee001b9980ebfcaaa1bd9d", func := "sennit/sennitlaw15.AgreesRing", spec := "agreesRing", unfollowed := true, recurses := true, plainKeys := false, apart := false, narrowed := true }
def AgreesRingUptoSaid : Prop := agreesRingUptoRow.holds Try.pinned (OpenSpec.upto agreesRingSpec)

/-- 'sennitlaw15.AgreesOff', WHERE WHAT IT READS IS OF BULK AT MOST 1048576: true; the input reads as it did. -/
def agreesOffUptoRow : OpenClaim := { program := "ytbdklfcgcmdgaaa", sum := "47e132903ae871233033bd842b78d4e4685b4e1f2aee001b9980ebfcaaa1bd9d", func := "sennit/sennitlaw15.AgreesOff", spec := "agreesOff", unfollowed := true, recurses := true, plainKeys := false, apart := false, narrowed := true }
def AgreesOffUptoSaid : Prop := agreesOffUptoRow.holds Try.pinned (OpenSpec.upto agreesOffSpec)

/-- 'sennitlaw18.BootsStart', WHERE WHAT IT READS IS OF BULK AT MOST 1048576: true; the input reads as it did. -/
def bootsStartUptoRow : OpenClaim := { program := "ytbdklfcgcmdgaaa", sum := "47e132903ae871233033bd842b78d4e4685b4e1f2aee001b9980ebfcaaa1bd9d", func := "sennit/sennitlaw18.BootsStart", spec := "bootsStart", unfollowed := true, recurses := true, plainKeys := false, apart := false, narrowed := true }
def BootsStartUptoSaid : Prop := bootsStartUptoRow.holds Try.pinned (OpenSpec.upto bootsStartSpec)

/-- 'sennitlaw18.BootsOne', WHERE WHAT IT READS IS OF BULK AT MOST 1048576: true; the input reads as it did. -/
def bootsOneUptoRow : OpenClaim := { program := "ytbdklfcgcmdgaaa", sum := "47e132903ae871233033bd842b78d4e4685b4e1f2aee001b9980ebfcaaa1bd9d", func := "sennit/sennitlaw18.BootsOne", spec := "bootsOne", unfollowed := true, recurses := true, plainKeys := false, apart := false, narrowed := true }
def BootsOneUptoSaid : Prop := bootsOneUptoRow.holds Try.pinned (OpenSpec.upto bootsOneSpec)

end Rows
end Go.Proofs.Ytbdklfcgcmdgaaa
