import Derived.Test.YtdilbjikeilhbaaGreatDoorCards
import Derived.Test.YtdilbjikeilhbaaGreatDoorTie
import Derived.ProofKit
import Derived.SevenTiedAt
namespace Go.Proofs.YtdilbjikeilhbaaGreatDoor.netsNew
open Go.RowKit
theorem jc1:Rows.netsNewRow.wfByText (OpenSpec.ofChange Rows.netsNewSpec)=true:=by kernel_rfl
theorem jc2:Tryz.pinned.checked.prog.mainIs=some (true, "b336f3e2e7a183094b16e9450958cae1de47c613dce7ca9399484cdd3e9eee4b".toList):=by kernel_rfl
theorem jc3:Tryz.pinned.checked.prog.funcNamed Rows.netsNewRow.func=some 3:=by kernel_rfl
theorem jc4:true=Tryz.pinned.checked.prog.looks []:=by kernel_rfl
theorem jc5:([31].all fun u=> !Tryz.pinned.checked.prog.wantsStandIn u)=true:=by kernel_rfl
theorem jc6:false=Rows.netsNewRow.goesBy Tryz.pinned.checked.prog:=by kernel_rfl
end Go.Proofs.YtdilbjikeilhbaaGreatDoor.netsNew
