/-
  DERIVED. GIVEN WITH THE SEED: THE CARDS: each row of YtdilbjikeilhbaaGreatDoorRows.lean that lists a variable, with what it lists TIED to the program's text (the seventh form; the later family's looks); each row that meets fmt, with fmt's text TOLD by the authors' own Lean function (tested against real Go, not proved from fmt's source: count such statements apart). THE CARD IS WHAT COUNTS. Prove the row's statement (the work); the ties are given (YtdilbjikeilhbaaGreatDoorTie.lean); close each card by the builder's one call (the guide's Derived/Test/ToyasCard.lean, 'card_holds'). Laid BY PROGRAM, IN A SANDBOX (cutbox-door.mjs). By AI agents, Wed Nov 11 2026. No macro, syntax, notation, axiom, sorry.
-/
import Derived.Test.YtdilbjikeilhbaaGreatDoorRows
import GoSem.ClaimSeven
namespace Go.Proofs.YtdilbjikeilhbaaGreatDoor
namespace Rows

/-- THE TIED CARD OF 'sennitlaw31.NetsNew'. -/
def netsNewCard : Claim7 := { stood := { row := netsNewRow, standIns := [], harness := (true, "b336f3e2e7a183094b16e9450958cae1de47c613dce7ca9399484cdd3e9eee4b"), looks := true }, kinds := [], alts := [], laidByText := true, laidKinds := [.data, .data, .data], laidTests := true, laidLooks := .later }
def NetsNewCardSaid : Prop := Claim7.holds Tryz.pinned (.plain (OpenSpec.ofChange netsNewSpec)) netsNewCard

/-- THE TIED CARD OF 'sennitlaw31.NetsVoid'. -/
def netsVoidCard : Claim7 := { stood := { row := netsVoidRow, standIns := [], harness := (true, "b336f3e2e7a183094b16e9450958cae1de47c613dce7ca9399484cdd3e9eee4b"), looks := true }, kinds := [], alts := [], laidByText := true, laidKinds := [.data, .data, .data], laidTests := true, laidLooks := .later }
def NetsVoidCardSaid : Prop := Claim7.holds Tryz.pinned (.plain (OpenSpec.ofChange netsVoidSpec)) netsVoidCard

/-- THE SECOND FORM's CARD OF 'sennitlaw31.NetsNew'. -/
def netsNewUptoCard : Claim7 := { stood := { row := netsNewUptoRow, standIns := [], harness := (true, "b336f3e2e7a183094b16e9450958cae1de47c613dce7ca9399484cdd3e9eee4b"), looks := true }, kinds := [], alts := [], laidByText := true, laidKinds := [.data, .data, .data], laidTests := true, laidLooks := .later }
def NetsNewUptoCardSaid : Prop := Claim7.holds Tryz.pinned (.plain (OpenSpec.upto netsNewSpec)) netsNewUptoCard

/-- THE SECOND FORM's CARD OF 'sennitlaw31.NetsVoid'. -/
def netsVoidUptoCard : Claim7 := { stood := { row := netsVoidUptoRow, standIns := [], harness := (true, "b336f3e2e7a183094b16e9450958cae1de47c613dce7ca9399484cdd3e9eee4b"), looks := true }, kinds := [], alts := [], laidByText := true, laidKinds := [.data, .data, .data], laidTests := true, laidLooks := .later }
def NetsVoidUptoCardSaid : Prop := Claim7.holds Tryz.pinned (.plain (OpenSpec.upto netsVoidSpec)) netsVoidUptoCard
end Rows
end Go.Proofs.YtdilbjikeilhbaaGreatDoor
