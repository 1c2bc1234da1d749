/-
  NARROWER THAN 'FOR EVERY INPUT', by the rows' own cells (each row's printed sentence says how): NetsNew: laid · NetsVoid: laid.
  DERIVED. THE GIVEN ROWS OF THIS SEAT. 2 by the template 'for every input the law returns true; each argument reads behind the call as it read before'; 0 by the template 'total and deterministic' (their statements: YtdilbjikeilhbaaGreatDoorTotals.lean).
  GIVEN WITH THE SEED: the statements are not yours to turn. If you find one false, say at which input.
  Laid BY PROGRAM, IN A SANDBOX (cutbox-rows.mjs): the forced cells as the released guide's own fill.sh prints them over the translation 22cbfdde4c1567b0… (all of the seat's roots in one cut). By AI agents, Wed Nov 11 2026. No macro, syntax, notation, axiom, sorry.
-/
import Derived.Test.YtdilbjikeilhbaaGreatDoorChecked
import GoSem.Claim
import GoSem.ClaimJoined
import GoSem.ClaimMapViews
import Derived.JoinedTies
import Derived.KernelRfl
namespace Go.Proofs.YtdilbjikeilhbaaGreatDoor
/- THE CELL 'sum', in the pinned program and in every row, IS THE sha256 OF THE DUMP (.gsa) THAT YtdilbjikeilhbaaGreatDoorProg.lean LOADS. Nothing in Lean hashes anything: it is a label: what it is worth is what the hold of that sum in a sandbox is worth. -/
noncomputable def Tryz.pinned : Pinned := { name := "ytdilbjikeilhbaagreatdoor", sum := "22cbfdde4c1567b0d6064da0c84f11d21b045ad56f6b2c6ec36b39516f0a9678", checked := Tryz.checked }
namespace Rows
def none {H : Type} : Left H := { results := [], args := [] }

/- WHAT THE LISTED PACKAGE-LEVEL VARIABLES READ AS WHEN THE CALL BEGINS. Each datum BY PROGRAM (the guide's laid-datum.mjs) off the statement by which the dump's own 'gosem.cut.vars' lays the variable. In a bare row this is a premise. The card (YtdilbjikeilhbaaGreatDoorCards.lean) ties it to the program's text. -/
def laid_sennit_rings_signs {H : Type} : DataW H := .agg [.lit (.int .i64 1), .lit (.int .i64 (-1))]
def laid_sennit_modes_edges {H : Type} : DataW H := .agg [.agg [.lit (.bool true), .lit (.bool true), .lit (.bool true), .lit (.bool true), .lit (.bool true)], .agg [.lit (.bool false), .lit (.bool true), .lit (.bool true), .lit (.bool true), .lit (.bool true)], .agg [.lit (.bool false), .lit (.bool true), .lit (.bool true), .lit (.bool true), .lit (.bool true)], .agg [.lit (.bool false), .lit (.bool false), .lit (.bool true), .lit (.bool true), .lit (.bool true)], .agg [.lit (.bool false), .lit (.bool false), .lit (.bool false), .lit (.bool true), .lit (.bool true)]]
def laid_sennit_windows_roles {H : Type} : DataW H := .agg [.lit (.int .u8 1), .lit (.int .u8 1), .lit (.int .u8 2)]

/-- 'sennitlaw31.NetsNew': WHATEVER THE INPUT: true; the input reads as it did. -/
def netsNewSpec : ChangeSpec := { name := "netsNew", fn := fun _ => fun
  | [d] => { results := [.lit (.bool true)], args := [d] }
  | _ => none }
def netsNewRow : OpenClaim := { program := "ytdilbjikeilhbaagreatdoor", sum := "22cbfdde4c1567b0d6064da0c84f11d21b045ad56f6b2c6ec36b39516f0a9678", func := "sennit/sennitlaw31.NetsNew", spec := "netsNew", unfollowed := true, recurses := true, named := ["sennit/rings.signs", "sennit/windows.roles", "sennit/modes.edges"], plainKeys := false, apart := false, laid := [("sennit/rings.signs", laid_sennit_rings_signs), ("sennit/modes.edges", laid_sennit_modes_edges), ("sennit/windows.roles", laid_sennit_windows_roles)] }
def NetsNewSaid : Prop := netsNewRow.holds Tryz.pinned (OpenSpec.ofChange netsNewSpec)

/-- ITS FALSE NEIGHBOUR: 'it returns false'. Refute it at one input. -/
def netsNewWrong : ChangeSpec := { name := "netsNew", fn := fun _ => fun
  | [d] => { results := [.lit (.bool false)], args := [d] }
  | _ => none }
def NetsNewWrongFalsely : Prop := netsNewRow.holds Tryz.pinned (OpenSpec.ofChange netsNewWrong)

/-- 'sennitlaw31.NetsVoid': WHATEVER THE INPUT: true; the input reads as it did. -/
def netsVoidSpec : ChangeSpec := { name := "netsVoid", fn := fun _ => fun
  | [d1, d2] => { results := [.lit (.bool true)], args := [d1, d2] }
  | _ => none }
def netsVoidRow : OpenClaim := { program := "ytdilbjikeilhbaagreatdoor", sum := "22cbfdde4c1567b0d6064da0c84f11d21b045ad56f6b2c6ec36b39516f0a9678", func := "sennit/sennitlaw31.NetsVoid", spec := "netsVoid", unfollowed := true, recurses := true, named := ["sennit/rings.signs", "sennit/windows.roles", "sennit/modes.edges"], plainKeys := false, apart := false, laid := [("sennit/rings.signs", laid_sennit_rings_signs), ("sennit/modes.edges", laid_sennit_modes_edges), ("sennit/windows.roles", laid_sennit_windows_roles)] }
def NetsVoidSaid : Prop := netsVoidRow.holds Tryz.pinned (OpenSpec.ofChange netsVoidSpec)

/-- ITS FALSE NEIGHBOUR: 'it returns false'. Refute it at one input. -/
def netsVoidWrong : ChangeSpec := { name := "netsVoid", fn := fun _ => fun
  | [d1, d2] => { results := [.lit (.bool false)], args := [d1, d2] }
  | _ => none }
def NetsVoidWrongFalsely : Prop := netsVoidRow.holds Tryz.pinned (OpenSpec.ofChange netsVoidWrong)

/- THE SECOND FORM. 'bulk': how many values and letters a reading holds, each counted each time it is reached (what is shared counts as often as it is met; a slice's spare places count too). A statement '..UptoSaid' is the law's where the arguments, and the package variables that the reading takes, are together of bulk at most 1048576: NARROWER than '..Said'. Prove '..Said' where nothing that the law and all that it calls make is longer than what came in: it says more and counts as full. Else prove '..UptoSaid'. A law counts once. -/
mutual
def uptoBulk {H : Type} : DataW H → Nat
  | .lit (.string bytes) => bytes.length + 1
  | .lit _ => 1
  | .nil => 1
  | .ptr d => uptoBulk d + 1
  | .slice elems spare => uptoBulkAll elems + uptoBulkAll spare + 1
  | .agg parts => uptoBulkAll parts + 1
  | .iface _ d => uptoBulk d + 1
  | .map entries => uptoBulkEntries entries + 1
  | .held _ => 1
def uptoBulkAll {H : Type} : List (DataW H) → Nat
  | [] => 0
  | d :: r => uptoBulk d + uptoBulkAll r
def uptoBulkEntries {H : Type} : List (Lit × DataW H) → Nat
  | [] => 0
  | x :: r => uptoBulkEntry x + uptoBulkEntries r
def uptoBulkEntry {H : Type} : Lit × DataW H → Nat
  | (.string bytes, d) => bytes.length + uptoBulk d + 1
  | (_, d) => uptoBulk d + 1
 end
def uptoSmall : (H : Type) → List (DataW H) → Bool := fun _ ds => decide (uptoBulkAll ds ≤ 1048576)
def OpenSpec.upto (s : _root_.Go.ChangeSpec) : _root_.Go.OpenSpec := { _root_.Go.OpenSpec.ofChange s with cond := some uptoSmall }

/-- 'sennitlaw31.NetsNew', WHERE WHAT IT READS IS OF BULK AT MOST 1048576: true; the input reads as it did. -/
def netsNewUptoRow : OpenClaim := { program := "ytdilbjikeilhbaagreatdoor", sum := "22cbfdde4c1567b0d6064da0c84f11d21b045ad56f6b2c6ec36b39516f0a9678", func := "sennit/sennitlaw31.NetsNew", spec := "netsNew", unfollowed := true, recurses := true, named := ["sennit/rings.signs", "sennit/windows.roles", "sennit/modes.edges"], plainKeys := false, apart := false, laid := [("sennit/rings.signs", laid_sennit_rings_signs), ("sennit/modes.edges", laid_sennit_modes_edges), ("sennit/windows.roles", laid_sennit_windows_roles)], narrowed := true }
def NetsNewUptoSaid : Prop := netsNewUptoRow.holds Tryz.pinned (OpenSpec.upto netsNewSpec)

/-- 'sennitlaw31.NetsVoid', WHERE WHAT IT READS IS OF BULK AT MOST 1048576: true; the input reads as it did. -/
def netsVoidUptoRow : OpenClaim := { program := "ytdilbjikeilhbaagreatdoor", sum := "22cbfdde4c1567b0d6064da0c84f11d21b045ad56f6b2c6ec36b39516f0a9678", func := "sennit/sennitlaw31.NetsVoid", spec := "netsVoid", unfollowed := true, recurses := true, named := ["sennit/rings.signs", "sennit/windows.roles", "sennit/modes.edges"], plainKeys := false, apart := false, laid := [("sennit/rings.signs", laid_sennit_rings_signs), ("sennit/modes.edges", laid_sennit_modes_edges), ("sennit/windows.roles", laid_sennit_windows_roles)], narrowed := true }
def NetsVoidUptoSaid : Prop := netsVoidUptoRow.holds Tryz.pinned (OpenSpec.upto netsVoidSpec)

end Rows
end Go.Proofs.YtdilbjikeilhbaaGreatDoor
