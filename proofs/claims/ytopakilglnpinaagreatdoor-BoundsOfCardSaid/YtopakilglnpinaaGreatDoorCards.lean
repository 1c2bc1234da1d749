/-
  DERIVED. GIVEN WITH THE SEED: THE CARDS: each row of YtopakilglnpinaaGreatDoorRows.lean that lists a variable, with what it lists TIED to the program's text (the seventh form; the later family's looks); each row that meets fmt, with fmt's text TOLD by the authors' own Lean function (tested against real Go, not proved from fmt's source: count such statements apart). THE CARD IS WHAT COUNTS. Prove the row's statement (the work); the ties are given (YtopakilglnpinaaGreatDoorTie.lean); close each card by the builder's one call (the guide's Derived/Test/ToyasCard.lean, 'card_holds'). Laid BY PROGRAM, IN A SANDBOX (cutbox-door.mjs). By AI agents, Wed Nov 11 2026. No macro, syntax, notation, axiom, sorry.
-/
import Derived.Test.YtopakilglnpinaaGreatDoorRows
import GoSem.ClaimSeven
namespace Go.Proofs.YtopakilglnpinaaGreatDoor
namespace Rows

/-- THE TIED CARD OF 'sennitlaw34.BoundsOf'. -/
def boundsOfCard : Claim7 := { stood := { row := boundsOfRow, standIns := [], harness := (true, "8ae27264476b6b4c74ea971211281bb3d0257a3b3ba01ec912f7cc8c8d128e71"), looks := false }, kinds := [], alts := [], laidByText := true, laidKinds := [.data], laidTests := true, laidLooks := .later }
def BoundsOfCardSaid : Prop := Claim7.holds Tryz.pinned (.plain (OpenSpec.ofChange boundsOfSpec)) boundsOfCard

/-- THE SECOND FORM's CARD OF 'sennitlaw34.BoundsOf'. -/
def boundsOfUptoCard : Claim7 := { stood := { row := boundsOfUptoRow, standIns := [], harness := (true, "8ae27264476b6b4c74ea971211281bb3d0257a3b3ba01ec912f7cc8c8d128e71"), looks := false }, kinds := [], alts := [], laidByText := true, laidKinds := [.data], laidTests := true, laidLooks := .later }
def BoundsOfUptoCardSaid : Prop := Claim7.holds Tryz.pinned (.plain (OpenSpec.upto boundsOfSpec)) boundsOfUptoCard
end Rows
end Go.Proofs.YtopakilglnpinaaGreatDoor
