import Derived.JoinedOf
import Derived.Test.YtdilbjikeilhbaaGreatDoorCards
import Derived.ProofKit
import Derived.Stop.Joined
namespace Go.Proofs.YtdilbjikeilhbaaGreatDoor
def kdJ (P:Program) (fn:Func) (c:OpenClaim):List (Option IntKind):=if c.domain.isEmpty then [] else fn.params.toList.map fun t=>match P.underlying t with | some (.int k)=>some k | _=>none
theorem joined_of (P:Program) (f:FuncId) (fn:Func) (s:ChangeSpec) (c:OpenClaim)
 (k1:c.wf (OpenSpec.ofChange s)=true) (k2:laidOutB P=true) (k3:mapsRowed P=true)
 (k4:fn.params.all (P.readableRec ·)=true) (k5:namedTie P c.named s.vars=true)
 (k6:(c.stops== [])=true) (k7:(P.stops== [])=true) (k8:(c.knobs== [])=true) (k9:(P.stopKnobs== [])=true)
 (k10:(c.inPlace==P.inPlace f)=true) (k11:(c.unfollowed==P.unfollowed f)=true) (k12:(c.recurses==P.recurses f)=true) (k13:(c.named==P.varsNamed f)=true)
 (k14:(c.maps==(fn.params.toList++s.plain.varTypes P).any (P.mapsRec ·))=true) (k15:(c.ifaces==(fn.params.toList++s.plain.varTypes P).any (P.ifacesRec ·))=true) (k16:(c.mapsOut==P.mapsAmong fn.resultTypes.toList)=true)
 (k17:(c.loops==(fn.params.toList++s.plain.varTypes P).any (P.loopsFrom ·))=true) (k17b:(c.wideKeys==(fn.params.toList++s.plain.varTypes P++fn.resultTypes.toList).any (P.wideKeysFrom ·))=true)
 (k18:s.vars.all (P.varReadable ·)=true) (k19:(fn.resultTypes.all (fun t=>P.readableRec t&&decide (t<P.types.size)))=true) (k20:(c.ifacesOut==fn.resultTypes.toList.any (P.ifacesRec ·))=true) (k21:(c.loopsOut==fn.resultTypes.toList.any (P.loopsFrom ·))=true)
 (k22:(c.plainKeys==P.plainKeys)=true) (k23:c.shortTexts.isNone=true) (k23b:P.stopsHeard=true) (k24:P.mayEnter=true) (k24b:(c.lifted==P.liftsFinal)=true) (k24c:(P.make==some c.make)=true)
 (k25:(c.kinds==kdJ P fn c)=true) (k26:(c.pinned==c.pinnedBy)=true)
 (k27:(c.veiled==(fn.params.toList++s.plain.varTypes P++fn.resultTypes.toList).any (P.veiledRec ·))=true) (k28:c.veiledFits P fn.params.toList (fn.params.toList++s.plain.varTypes P++fn.resultTypes.toList)=true) :
 joinedFacts P f fn s c=true:=by
 unfold joinedFacts
 simp only [Bool.and_eq_true]
 exact⟨⟨⟨⟨⟨⟨⟨⟨⟨⟨⟨⟨⟨⟨⟨⟨⟨⟨⟨⟨⟨⟨⟨⟨⟨⟨⟨⟨⟨⟨⟨k1,k2⟩,k3⟩,k4⟩,k5⟩,k6⟩,k7⟩,k8⟩,k9⟩,k10⟩,k11⟩,k12⟩,k13⟩,k14⟩,k15⟩,k16⟩,k17⟩,k17b⟩,k18⟩,k19⟩,k20⟩,k21⟩,k22⟩,k23⟩,k23b⟩,k24⟩,k24b⟩,k24c⟩,k25⟩,k26⟩,k27⟩,k28⟩
end Go.Proofs.YtdilbjikeilhbaaGreatDoor
namespace Go.Proofs.YtdilbjikeilhbaaGreatDoor.netsNew
open Go.RowKit
theorem jk1:Rows.netsNewRow.wf (OpenSpec.ofChange Rows.netsNewSpec)=true:=by kernel_rfl
theorem jk2:laidOutB Tryz.pinned.checked.prog=true:=by kernel_rfl
theorem jk3:mapsRowed Tryz.pinned.checked.prog=true:=by kernel_rfl
theorem jk4:Tryz.f3.params.all (Tryz.pinned.checked.prog.readableRec ·)=true:=by kernel_rfl
theorem jk5:namedTie Tryz.pinned.checked.prog Rows.netsNewRow.named Rows.netsNewSpec.vars=true:=by kernel_rfl
theorem jk6:(Rows.netsNewRow.stops== [])=true:=by kernel_rfl
theorem jk7:(Tryz.pinned.checked.prog.stops== [])=true:=by kernel_rfl
theorem jk8:(Rows.netsNewRow.knobs== [])=true:=by kernel_rfl
theorem jk9:(Tryz.pinned.checked.prog.stopKnobs== [])=true:=by kernel_rfl
theorem jk10:(Rows.netsNewRow.inPlace==Tryz.pinned.checked.prog.inPlace 3)=true:=by kernel_rfl
theorem jk11:(Rows.netsNewRow.unfollowed==Tryz.pinned.checked.prog.unfollowed 3)=true:=by kernel_rfl
theorem jk12:(Rows.netsNewRow.recurses==Tryz.pinned.checked.prog.recurses 3)=true:=by kernel_rfl
theorem jk13:(Rows.netsNewRow.named==Tryz.pinned.checked.prog.varsNamed 3)=true:=by kernel_rfl
theorem jk14:(Rows.netsNewRow.maps==(Tryz.f3.params.toList++Rows.netsNewSpec.plain.varTypes Tryz.pinned.checked.prog).any (Tryz.pinned.checked.prog.mapsRec ·))=true:=by kernel_rfl
theorem jk15:(Rows.netsNewRow.ifaces==(Tryz.f3.params.toList++Rows.netsNewSpec.plain.varTypes Tryz.pinned.checked.prog).any (Tryz.pinned.checked.prog.ifacesRec ·))=true:=by kernel_rfl
theorem jk16:(Rows.netsNewRow.mapsOut==Tryz.pinned.checked.prog.mapsAmong Tryz.f3.resultTypes.toList)=true:=by kernel_rfl
theorem jk17:(Rows.netsNewRow.loops==(Tryz.f3.params.toList++Rows.netsNewSpec.plain.varTypes Tryz.pinned.checked.prog).any (Tryz.pinned.checked.prog.loopsFrom ·))=true:=by kernel_rfl
theorem jk17b:(Rows.netsNewRow.wideKeys==(Tryz.f3.params.toList++Rows.netsNewSpec.plain.varTypes Tryz.pinned.checked.prog++Tryz.f3.resultTypes.toList).any (Tryz.pinned.checked.prog.wideKeysFrom ·))=true:=by kernel_rfl
theorem jk18:Rows.netsNewSpec.vars.all (Tryz.pinned.checked.prog.varReadable ·)=true:=by kernel_rfl
theorem jk19:(Tryz.f3.resultTypes.all (fun t=>Tryz.pinned.checked.prog.readableRec t&&decide (t<Tryz.pinned.checked.prog.types.size)))=true:=by kernel_rfl
theorem jk20:(Rows.netsNewRow.ifacesOut==Tryz.f3.resultTypes.toList.any (Tryz.pinned.checked.prog.ifacesRec ·))=true:=by kernel_rfl
theorem jk21:(Rows.netsNewRow.loopsOut==Tryz.f3.resultTypes.toList.any (Tryz.pinned.checked.prog.loopsFrom ·))=true:=by kernel_rfl
theorem jk22:(Rows.netsNewRow.plainKeys==Tryz.pinned.checked.prog.plainKeys)=true:=by kernel_rfl
theorem jk23:Rows.netsNewRow.shortTexts.isNone=true:=by kernel_rfl
theorem jk23b:Tryz.pinned.checked.prog.stopsHeard=true:=by kernel_rfl
theorem jk24:Tryz.pinned.checked.prog.mayEnter=true:=by kernel_rfl
theorem jk24b:(Rows.netsNewRow.lifted==Tryz.pinned.checked.prog.liftsFinal)=true:=by kernel_rfl
theorem jk24c:(Tryz.pinned.checked.prog.make==some Rows.netsNewRow.make)=true:=by kernel_rfl
theorem jk25:(Rows.netsNewRow.kinds==kdJ Tryz.pinned.checked.prog Tryz.f3 Rows.netsNewRow)=true:=by kernel_rfl
theorem jk26:(Rows.netsNewRow.pinned==Rows.netsNewRow.pinnedBy)=true:=by kernel_rfl
theorem jk27:(Rows.netsNewRow.veiled==(Tryz.f3.params.toList++Rows.netsNewSpec.plain.varTypes Tryz.pinned.checked.prog++Tryz.f3.resultTypes.toList).any (Tryz.pinned.checked.prog.veiledRec ·))=true:=by kernel_rfl
theorem jk28:Rows.netsNewRow.veiledFits Tryz.pinned.checked.prog Tryz.f3.params.toList (Tryz.f3.params.toList++Rows.netsNewSpec.plain.varTypes Tryz.pinned.checked.prog++Tryz.f3.resultTypes.toList)=true:=by kernel_rfl
theorem closedN:joinedFacts Tryz.pinned.checked.prog 3 Tryz.f3 Rows.netsNewSpec Rows.netsNewRow=true:=
 joined_of Tryz.pinned.checked.prog 3 Tryz.f3 Rows.netsNewSpec Rows.netsNewRow jk1 jk2 jk3 jk4 jk5 jk6 jk7 jk8 jk9 jk10 jk11 jk12 jk13 jk14 jk15 jk16 jk17 jk17b jk18 jk19 jk20 jk21 jk22 jk23 jk23b jk24 jk24b jk24c jk25 jk26 jk27 jk28
end Go.Proofs.YtdilbjikeilhbaaGreatDoor.netsNew
