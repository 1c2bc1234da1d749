import Derived.Test.YtdilbjikeilhbaaGreatDoorGn20
import Derived.Shelf.SortM.Plain
import Derived.Shelf.SortM.SortNone
import Derived.Ground.SlgmProg
import Derived.Test.YtdilbjikeilhbaaGreatDoorProg
import Derived.RangeFuncBox
import Derived.RangeFuncLeaves
import Derived.RangeFuncNested
import Derived.RangeFuncBound
import Derived.RangeFuncCalls
import Derived.Shelf.Abstract
import Derived.Shelf.RegionOpen
import Derived.WalkKit
import Derived.OwnWalkIn
import Derived.TacticsInMore
import Derived.LoopNIn
import Derived.LoopIn
import Derived.Maps.AppendAt
namespace Go.Proofs.YtdilbjikeilhbaaGreatDoor
open Go.RowKit
set_option linter.unusedVariables false
set_option linter.unusedSimpArgs false
structure Cfg where
 N:Int
 P:List Int
 Sl:List Int
 lo:Int
 B:List Int
 St:List (Int×Int×Int)
 mi:Int
 go:Int
 fr:Int
structure CfA where
 pa:Option Addr
 pn:Nat
 pc:Nat
 sa:Option Addr
 sn:Nat
 sc:Nat
 ba:Option Addr
 bn:Nat
 bc:Nat
 ta:Option Addr
 tn:Nat
 tc:Nat
def cfV (A:CfA) (c:Cfg):List Value:=[.int .i64 c.N,.slice A.pa A.pn A.pc,.slice A.sa A.sn A.sc,.int .i64 c.lo,.slice A.ba A.bn A.bc,.slice A.ta A.tn A.tc,.int .i64 c.mi,.int .i64 c.go,.int .i64 c.fr]
def RdSt (S:Nat→Prop) (w:World) (a:Option Addr) (len:Nat) (l:List (Int×Int×Int)):Prop:=
 l.length=len∧∀k s,l[k]? =some s→∃b off,a=some ⟨b,off,none⟩∧S b∧b<w.heap.size∧w.cell? ⟨b,off+k*3,none⟩=some (.int .i64 s.1)∧w.cell? ⟨b,off+k*3+1,none⟩=some (.int .u32 s.2.1)∧w.cell? ⟨b,off+k*3+2,none⟩=some (.int .i64 s.2.2)
section
variable {S S':Nat→Prop} {w w':World} {a:Option Addr} {len:Nat} {l:List (Int×Int×Int)}
theorem RdSt.keep (h:RdSt S w a len l) (hs:w.heap.size≤w'.heap.size) (hk:∀b,S b→b<w.heap.size→w'.heap[b]? =w.heap[b]?):RdSt S w' a len l:=
 ⟨h.1,fun k z hz=>by
   obtain⟨b,off,e,hS,hb,h1,h2,h3⟩:=h.2 k z hz
   have hq:=hk b hS hb
   exact⟨b,off,e,hS,by omega,(World.cell?_of_block hq).trans h1,(World.cell?_of_block hq).trans h2,(World.cell?_of_block hq).trans h3⟩⟩
theorem RdSt.below (h:RdSt S w a len l) (hb:Below w.heap.size w w'):RdSt S w' a len l:=h.keep hb.size fun b _ hl=>hb.block b hl
theorem RdSt.mono (h:RdSt S w a len l) (hs:∀b,b<w.heap.size→S b→S' b):RdSt S' w a len l:=
 ⟨h.1,fun k z hz=>by
   obtain⟨b,off,e,hS,hb,h1⟩:=h.2 k z hz
   exact⟨b,off,e,hs b hb hS,hb,h1⟩⟩
end
structure CfR (S:Nat→Prop) (w:World) (A:CfA) (c:Cfg):Prop where
 p:RdZ S w A.pa A.pn c.P
 s:RdZ S w A.sa A.sn c.Sl
 b:RdZ S w A.ba A.bn c.B
 t:RdSt S w A.ta A.tn c.St
 cp:(A.pn≤A.pc∧A.pc≤maxLen)∧(A.sn≤A.sc∧A.sc≤maxLen)∧(A.bn≤A.bc∧A.bc≤maxLen)∧(A.tn≤A.tc∧A.tc≤maxLen)
theorem CfR.below {S:Nat→Prop} {w w':World} {A:CfA} {c:Cfg} (h:CfR S w A c) (hb:Below w.heap.size w w'):CfR S w' A c:=⟨h.p.below hb,h.s.below hb,h.b.below hb,h.t.below hb,h.cp⟩
theorem CfR.mono {S S':Nat→Prop} {w:World} {A:CfA} {c:Cfg} (h:CfR S w A c) (hs:∀b,b<w.heap.size→S b→S' b):CfR S' w A c:=⟨h.p.mono hs,h.s.mono hs,h.b.mono hs,h.t.mono hs,h.cp⟩
theorem cfV_cells {w:World} {g:Nat} {A:CfA} {c:Cfg} (h:Blk w g 25 (cfV A c).toArray) :
 w.cell? ⟨g,0,none⟩=some (.int .i64 c.N)∧w.cell? ⟨g,1,none⟩=some (.slice A.pa A.pn A.pc)∧w.cell? ⟨g,2,none⟩=some (.slice A.sa A.sn A.sc)∧w.cell? ⟨g,3,none⟩=some (.int .i64 c.lo)∧w.cell? ⟨g,4,none⟩=some (.slice A.ba A.bn A.bc)∧w.cell? ⟨g,5,none⟩=some (.slice A.ta A.tn A.tc)∧w.cell? ⟨g,6,none⟩=some (.int .i64 c.mi)∧w.cell? ⟨g,7,none⟩=some (.int .i64 c.go)∧w.cell? ⟨g,8,none⟩=some (.int .i64 c.fr):=
 ⟨h.cell 0,h.cell 1,h.cell 2,h.cell 3,h.cell 4,h.cell 5,h.cell 6,h.cell 7,h.cell 8⟩
theorem ag_cfg:aggOf Tryz.prog 25 9=true:=by kernel_rfl
@[go_sem ↓] theorem ld_cfg (ρ:Operand→Value) (d:Option Tmp) (x:Operand) (ty:TypeId) (s:String) (af:Array Edge) (g:Option (Nat×Bool)) (w:World) (h:hasRowV w 9 (ρ x)=true) :
 (execOp ρ { dst:=d,op:=.load 25 x,type:=ty,pos:=s,after:=af,guard:=g }).run Tryz.prog w=.ok (.value (.agg (rowV w 9 (ρ x)).toArray)) w:=exec_load ag_cfg ρ d x ty s af g w h
theorem app_int:AppOk Tryz.prog 22 3 1:=appOk_of Tryz.underlying22 (by kernel_rfl)
theorem lt_of_heap {w:World} {b:Nat} {o:Obj} (h:w.heap[b]? =some o):b<w.heap.size:=(Array.getElem?_eq_some_iff.1 h).1
def ints (zs:List Int):List Value:=zs.map fun z=> .int .i64 z
theorem own_rdz {base n:Nat} {w:World} {v:Value} {zs:List Int} (h:w.ownsRow base 3 1 v n (ints zs)):zs.length=n∧∃a cap,v=.slice a n cap∧RdZ (base≤·) w a n zs∧n≤cap∧cap≤maxLen:=by
 have hl:zs.length=n:=by have:=h.1;simp [ints] at this;exact this
 refine⟨hl,?_⟩
 rcases h.2 with ⟨rfl,h0⟩ | ⟨g,cap,cur,rfl,hb,hg,hnc,hcm,hcs,htake⟩
 ·subst h0
  have:zs=[]:=List.eq_nil_of_length_eq_zero hl
  subst this
  exact⟨none,0,rfl,RdZ.nil _ _,Nat.le_refl _,by simp⟩
 ·refine⟨_,cap,rfl,⟨hl,fun k z hz=>⟨g,0,rfl,hb,lt_of_heap hg,?_⟩⟩,hnc,hcm⟩
  have hk:k<zs.length:=(List.getElem?_eq_some_iff.1 hz).1
  rw [cell_of_row w g _ cur _ (0,0) hg,Nat.zero_add]
  have e1:cur[k]? =(cur.toList.take (n*1))[k]?:=by rw [List.getElem?_take,if_pos (by omega)];simp
  rw [e1,htake,ints,List.getElem?_map,hz]
  rfl
def halvesL (N:Int) (P:List Int):List Int:=P.flatMap fun a=>[a,stepE N a]
theorem halvesL_step {N:Int} {P:List Int} {k:Nat} {z:Int} (hz:P[k]? =some z):halvesL N (P.take (k+1))=halvesL N (P.take k)++ [z,stepE N z]:=by
 rw [List.take_add_one,hz]
 simp [halvesL]
theorem halvesL_len {N:Int} {P:List Int}:(halvesL N P).length=P.length*2:=by
 induction P with
 | nil=>rfl
 | cons x r ih=>simp only [halvesL,List.flatMap_cons,List.length_append] at ih ⊢;rw [ih];simp;omega
def NewZ (l:List Int) (w:World) (e:Ending) (w':World):Prop:=∃a cap,e=.returned (.slice a l.length cap)∧RdZ (w.heap.size≤·) w' a l.length l∧l.length≤cap∧cap≤maxLen∧Below w.heap.size w w'
set_option maxRecDepth 100000 in
set_option maxHeartbeats 2000000 in
theorem halves_any (S:Nat→Prop) (A:CfA) (c:Cfg) (w:World) (h:CfR S w A c) (hsg:SgW w) (hbig:A.pn≤1000) :
 Calls Tryz.prog 34 #[.agg (cfV A c).toArray] w (NewZ (halvesL c.N c.P) w):=by
 obtain⟨pa,pn,pc,sa,sn,sc,ba,bn,bc,ta,tn,tc⟩:=A
 have HR:=Lib.hid h.p
 have hpl:=h.p.1
 obtain⟨⟨hm1,hm2⟩,-⟩:=h.cp
 unfold maxLen at hm2
 simp only at HR hpl hm1 hm2 hbig
 have HSG:=Lib.hid hsg
 clear h hsg
 obtain⟨cv,hcv⟩:∃cv,cv=cfV ⟨pa,pn,pc,sa,sn,sc,ba,bn,bc,ta,tn,tc⟩ c:=⟨_,rfl⟩
 rw [←hcv]
 have HCV:=Lib.hid hcv
 clear hcv
 go_enter Tryz.func34,Tryz.ntmps34
 go_upto_region 1 with fail
 have HB0:Hid (Below w.heap.size w (w.alloc (.cells cv.toArray 25))∧Blk (w.alloc (.cells cv.toArray 25)) w.heap.size 25 cv.toArray):=Lib.hid ⟨(Below.refl _ _).alloc (Nat.le_refl _) _,Blk.new _ _ _⟩
 generalize w.alloc (.cells cv.toArray 25)=w0 at HB0 ⊢
 rw [HCV.out] at HB0
 obtain⟨c0,c1,-⟩:=cfV_cells HB0.out.2
 have c1:w0.cell? ⟨w.heap.size,1,none⟩=some (.slice pa pn pc):=c1
 have c0:w0.cell? ⟨w.heap.size,0,none⟩=some (.int .i64 c.N):=c0
 have hw0:w.heap.size<w0.heap.size:=HB0.out.2.lt
 go_wp2_with fail
 go_loopw [8,2] (fun i v wr=> ∃k:Nat,k≤pn∧i=.int .i64 k∧wr.ownsRow w0.heap.size 3 1 v (k*2) (ints (halvesL c.N (c.P.take k)))∧Below w0.heap.size w0 wr) (fun i _ _=>pn - (intOf i).toNat)
 case atStart=>exact⟨0,by omega,rfl,World.ownsRow_nil _ _ _ _,Below.refl _ _⟩
 case round=>
  obtain⟨k,hk,rfl,ho,hb⟩:=hrel
  obtain⟨wq,rfl⟩:∃wq,wq=wr:=⟨_,rfl⟩
  obtain⟨v,rfl⟩:∃v,v=u2:=⟨_,rfl⟩
  have HO:=Lib.hid (And.intro ho hb)
  clear ho hb
  have d0:=(HO.out.2.cell (p:=⟨w.heap.size,0,none⟩) hw0).trans c0
  by_cases hlt:k<pn
  ·obtain⟨b,off,z,rfl,-,hbl,hz,hc⟩:=HR.out.at_ hlt
   have hlt':(k:Int)<pn:=by omega
   have hk0:(0:Int)≤k:=by omega
   have HZ:=Lib.hid hz
   have hcz:=((HB0.out.1.trans (HO.out.2.mono HB0.out.1.size)).cell (p:=⟨b,off+k,none⟩) hbl).trans hc
   have HS:=Lib.hid (step_any c.N z wq ((HSG.out.below HB0.out.1).below HO.out.2))
   obtain⟨q,hq⟩:∃q,q=stepE c.N z:=⟨_,rfl⟩
   have HQ:=Lib.hid hq
   rw [←hq] at HS
   clear hz hc hq
   go_wp2_with fail
   (with_reducible refine HS.out.mono ?_)
   rintro e w2 ⟨rfl,hb2⟩
   have HO2:Hid (w2.ownsRow w0.heap.size 3 1 v (k*2) (ints (halvesL c.N (c.P.take k)))):=Lib.hid (own_block HO.out.1 fun q hq=>hb2.block q (HO.out.1.lt q hq).2)
   have HB2:=Lib.hid (HO.out.2.trans (hb2.mono HO.out.2.size))
   have hsz2:=HB2.out.size
   clear hb2
   go_wp2_with (at_builtin;refine wpList_lies app_int (by rfl) (.tmp 12) (.tmp 18) (by rfl) w0.heap.size _ _ _ (by rfl) (HO2.out.alloc _) ⟨w2.heap.size,0,none⟩ 2 2 [.int .i64 z,.int .i64 q] (by rfl) (by rfl) (hasRow_new w2 _ _ 0 2 (by simp)) (rowOf_new w2 _ _ 0 2 (by simp)) (by rfl) (by omega) (by omega) (by simp;omega) ?_;intro gg cp w4 hown1 hgrow hlie;have HO4:=Lib.hid (And.intro hown1 ((HB2.out.alloc HB2.out.size _).grown hgrow (by simp;omega) (fun q hq=>(HO2.out.lt q hq).1)));clear hown1 hgrow hlie)
   exact⟨⟨k+1,by omega,by go_num,by rw [halvesL_step HZ.out,←HQ.out,show (k+1)*2=k*2+2 from by omega];simpa [ints] using HO4.out.1,HO4.out.2⟩,by simp [intOf];omega⟩
  ·have hlt':¬(k:Int)<pn:=by omega
   obtain rfl:k=pn:=by omega
   have HN:Hid (NewZ (halvesL c.N c.P) w (.returned v) wq):=Lib.hid (by
    have ho:=HO.out.1
    rw [List.take_of_length_le (by omega)] at ho
    obtain⟨hl,a,cap,rfl,h1,h2,h3⟩:=own_rdz ho
    exact⟨a,cap,by rw [hl],by rw [hl];exact h1.mono fun b _ hb=>by omega,by rw [hl];exact h2,h3,HB0.out.1.trans (HO.out.2.mono HB0.out.1.size)⟩)
   go_wp2_with fail
   go_ret
   exact HN.out
open Go.Shelf Go.Sort Go.RowKit
def sortI_ren:Go.Shelf.Ren:=⟨fun | 5=>182 | 8=>189 | 7=>221 | 19=>234 | 20=>235 | 10=>268 | 11=>269 | 12=>270 | 13=>271 | 14=>272 | 15=>273 | 16=>122 | 17=>274 | 18=>275 | 30=>315 | 31=>278 | 32=>279 | 33=>316 | 34=>317 | 35=>180 | 40=>334 | n=>n,fun | 23=>22 | 25=>3 | 3=>3 | 32=>224 | 22=>22 | 0=>0 | 44=>78 | 46=>125 | 4=>4 | 36=>466 | 35=>465 | 41=>471 | 5=>5 | 9=>9 | 53=>518 | 57=>522 | 63=>557 | 64=>558 | n=>n,fun | n=>n⟩
theorem sortI:Go.Proofs.SlLaysM.n5 Tryz.prog sortI_ren:={
 mixed:=by kernel_rfl,
 f5:=⟨Tryz.f182.name,by decide,Tryz.func182.trans (congrArg some (by kernel_rfl))⟩,
 f7:=⟨Tryz.f221.name,by decide,Tryz.func221.trans (congrArg some (by kernel_rfl))⟩,
 f8:=Tryz.func189.trans (congrArg some (by kernel_rfl)),
 f10:=⟨Tryz.f268.name,by decide,Tryz.func268.trans (congrArg some (by kernel_rfl))⟩,
 f11:=⟨Tryz.f269.name,by decide,Tryz.func269.trans (congrArg some (by kernel_rfl))⟩,
 f12:=⟨Tryz.f270.name,by decide,Tryz.func270.trans (congrArg some (by kernel_rfl))⟩,
 f13:=⟨Tryz.f271.name,by decide,Tryz.func271.trans (congrArg some (by kernel_rfl))⟩,
 f14:=⟨Tryz.f272.name,by decide,Tryz.func272.trans (congrArg some (by kernel_rfl))⟩,
 f15:=⟨Tryz.f273.name,by decide,Tryz.func273.trans (congrArg some (by kernel_rfl))⟩,
 f16:=⟨Tryz.f122.name,by decide,Tryz.func122.trans (congrArg some (by kernel_rfl))⟩,
 f17:=⟨Tryz.f274.name,by decide,Tryz.func274.trans (congrArg some (by kernel_rfl))⟩,
 f18:=⟨Tryz.f275.name,by decide,Tryz.func275.trans (congrArg some (by kernel_rfl))⟩,
 f19:=Tryz.func234.trans (congrArg some (by kernel_rfl)),
 f20:=Tryz.func235.trans (congrArg some (by kernel_rfl)),
 f30:=⟨Tryz.f315.name,by decide,Tryz.func315.trans (congrArg some (by kernel_rfl))⟩,
 f31:=Tryz.func278.trans (congrArg some (by kernel_rfl)),
 f32:=Tryz.func279.trans (congrArg some (by kernel_rfl)),
 f33:=⟨Tryz.f316.name,by decide,Tryz.func316.trans (congrArg some (by kernel_rfl))⟩,
 f34:=⟨Tryz.f317.name,by decide,Tryz.func317.trans (congrArg some (by kernel_rfl))⟩,
 f35:=⟨Tryz.f180.name,by decide,Tryz.func180.trans (congrArg some (by kernel_rfl))⟩,
 f40:=⟨Tryz.f334.name,by decide,Tryz.func334.trans (congrArg some (by kernel_rfl))⟩,
 t0:=Tryz.underlying0,
 a0:=Tryz.isAgg0,
 z0:=Tryz.sizeOf0,
 v0:=Tryz.zeroValue0,
 t3:=Tryz.underlying3,
 a3:=Tryz.isAgg3,
 z3:=Tryz.sizeOf3,
 v3:=Tryz.zeroValue3,
 t4:=Tryz.underlying4,
 a4:=Tryz.isAgg4,
 z4:=Tryz.sizeOf4,
 v4:=Tryz.zeroValue4,
 t5:=Tryz.underlying5,
 a5:=Tryz.isAgg5,
 z5:=Tryz.sizeOf5,
 v5:=Tryz.zeroValue5,
 t9:=Tryz.underlying9,
 a9:=Tryz.isAgg9,
 z9:=Tryz.sizeOf9,
 v9:=Tryz.zeroValue9,
 t22:=Tryz.underlying22,
 a22:=Tryz.isAgg22,
 z22:=Tryz.sizeOf22,
 v22:=Tryz.zeroValue22,
 t23:=Tryz.underlying22,
 a23:=Tryz.isAgg22,
 z23:=Tryz.sizeOf22,
 v23:=Tryz.zeroValue22,
 t25:=Tryz.underlying3,
 a25:=Tryz.isAgg3,
 z25:=Tryz.sizeOf3,
 v25:=Tryz.zeroValue3,
 t32:=Tryz.underlying224,
 a32:=Tryz.isAgg224,
 z32:=Tryz.sizeOf224,
 v32:=Tryz.zeroValue224,
 t35:=Tryz.underlying465,
 a35:=Tryz.isAgg465,
 z35:=Tryz.sizeOf465,
 v35:=Tryz.zeroValue465,
 t36:=Tryz.underlying466,
 a36:=Tryz.isAgg466,
 z36:=Tryz.sizeOf466,
 v36:=Tryz.zeroValue466,
 t41:=Tryz.underlying471,
 a41:=Tryz.isAgg471,
 z41:=Tryz.sizeOf471,
 v41:=Tryz.zeroValue471,
 t44:=Tryz.underlying78,
 a44:=Tryz.isAgg78,
 z44:=Tryz.sizeOf78,
 v44:=Tryz.zeroValue78,
 t46:=Tryz.underlying125,
 a46:=Tryz.isAgg125,
 z46:=Tryz.sizeOf125,
 v46:=Tryz.zeroValue125,
 t53:=Tryz.underlying518,
 a53:=Tryz.isAgg518,
 z53:=Tryz.sizeOf518,
 v53:=Tryz.zeroValue518,
 t57:=Tryz.underlying522,
 a57:=Tryz.isAgg522,
 z57:=Tryz.sizeOf522,
 v57:=Tryz.zeroValue522,
 t63:=Tryz.underlying557,
 a63:=Tryz.isAgg557,
 z63:=Tryz.sizeOf557,
 v63:=Tryz.zeroValue557,
 t64:=Tryz.underlying558,
 a64:=Tryz.isAgg558,
 z64:=Tryz.sizeOf558,
 v64:=Tryz.zeroValue558 }
def srtI (l:List Int):List Int:=l.mergeSort fun x y=>decide (x≤y)
theorem srtI_perm (l:List Int):(srtI l).Perm l:=List.mergeSort_perm _ _
theorem srtI_len (l:List Int):(srtI l).length=l.length:=(srtI_perm l).length_eq
theorem sorti_some (blk off cap:Nat) (zs:List Int) (w:World) (hH:Holds (Value.int .i64) w blk off zs.toArray) (hblk:blk<w.heap.size) (hsz:zs.length<4611686018427387904) :
 Calls Tryz.prog 182 #[.slice (some ⟨blk,off,none⟩) zs.length cap] w fun e w'=>e=.returned (.tuple #[])∧∃n os,w'=grow (Go.Sort.putRow (Value.int .i64) (Sort.ahead w n) blk off (srtI zs).toArray) os:=AnyM.slices_Sort_int sortI blk off cap zs w hH hblk hsz
theorem sorti_none (p:Option Addr) (cap:Nat) (w:World):Calls Tryz.prog 182 #[.slice p 0 cap] w fun e w'=>e=.returned (.tuple #[])∧w'=w:=AnyM.slices_Sort_int_none sortI p cap w
end Go.Proofs.YtdilbjikeilhbaaGreatDoor
namespace Go.Proofs.YtdilbjikeilhbaaGreatDoor
open Go.RowKit Go.Shelf
set_option linter.unusedVariables false
set_option linter.unusedSimpArgs false
attribute [local go_sem] Oper.semAt_some
def upto {α:Type} (f:Nat→α) (k:Nat):List α:=(List.range k).map f
theorem upto_succ {α:Type} (f:Nat→α) (k:Nat):upto f (k+1)=upto f k++ [f k]:=by simp [upto,List.range_succ]
theorem upto_length {α:Type} (f:Nat→α) (k:Nat):(upto f k).length=k:=by simp [upto]
theorem upto_all (zs:List Int):upto (fun j=>zs[j]?.getD 0) zs.length=zs:=by
 apply List.ext_getElem
 ·simp [upto]
 ·intro i h1 h2
  simp [upto,h2]
theorem upto_take (zs:List Int) {k:Nat} (hk:k≤zs.length):upto (fun j=>zs[j]?.getD 0) k=zs.take k:=by
 apply List.ext_getElem
 ·simp [upto,hk]
 ·intro i h1 h2
  have:i<zs.length:=by simp [upto] at h1;omega
  simp [upto,this]
set_option maxRecDepth 100000 in
set_option maxHeartbeats 2000000 in
theorem values1_in (F:Fence) (n:Nat) (h7:F.fn 183) (hro:F.round=none) (hn:1≤n) (l Bs n₀ b off len cap:Nat) (zs:List Int) (hreach:len*8≤140737488351232) (hb:b<n₀) (J Jx:List Int→World→Prop)
 (hY:∀pre x W,J pre W→pre.length<len→YieldAt F (n - 1) Tryz.prog l #[.int .i64 x] W fun e W'=>
   (e=.returned (.bool true)∧J (pre++ [x]) W'∧Below n₀ W W')∨(e=.returned (.bool false)∧Jx (pre++ [x]) W'))
 (W:World) (hBs:W.cell? ⟨Bs,0,none⟩=some (.slice (some ⟨b,off,none⟩) len cap)) (hc:∀j,j<len→W.cell? ⟨b,off+j,none⟩=some (.int .i64 (zs[j]?.getD 0))) (h0:J [] W) :
 CallsIn F n Tryz.prog 183 #[.func (.yield l) #[] #[],.pointer (some ⟨Bs,0,none⟩)] W fun e W'=>(∃v,e=.returned v)∧
  ((∃ys,ys=upto (fun j=>zs[j]?.getD 0) len∧J ys W')∨(∃pre,(∃k,k≤len∧pre=upto (fun j=>zs[j]?.getD 0) k)∧Jx pre W')):=by
 refine callsIn_of_wp Tryz.func183 rfl h7 ?_ hro
 simp only [Tryz.ntmps183,List.size_toArray,List.length_cons,List.length_nil,Nat.reduceAdd,Nat.reduceSub,Array.replicate_succ,Array.replicate_zero,List.push_toArray,List.append_toArray,List.nil_append,List.cons_append]
 gi_wp2
 gi_loopw [7] (fun i wr=> ∃k:Nat,k≤len∧i=.int .i64 k∧J (upto (fun j=>zs[j]?.getD 0) k) wr∧Below n₀ W wr)
  (fun i _=>len - (intOf i).toNat)
 case atStart=>exact⟨0,Nat.zero_le _,rfl,h0,Below.refl _ _⟩
 case round=>
  obtain⟨k,hk,rfl,hJs,hnx⟩:=hrel
  have hcx:k<len→wr.cell? ⟨b,off+k,none⟩=some (.int .i64 (zs[k]?.getD 0)):=fun h=>(hnx.cell (p:=⟨b,off+k,none⟩) hb).trans (hc k h)
  by_cases hlt:k<len
  ·obtain⟨fn,tmps,assign,body,hy,hR⟩:=hY _ (zs[k]?.getD 0) wr hJs (by rw [upto_length];exact hlt)
   have hcx':=hcx hlt
   gi_wp2
   refine hR.mono ?_
   rintro e W3 (⟨rfl,hJ3,hk3⟩ | ⟨rfl,hJx3⟩)
   ·gi_wp2
    go_roundw
    case rel=>exact⟨k+1,by omega,by simp,by rw [upto_succ];exact hJ3,hnx.trans hk3⟩
    case measure=>simp [intOf];omega
   ·gi_wp2
    refine bodyPost_ret (results_none rfl _ _ _) rfl ?_
    exact⟨⟨_,rfl⟩,.inr ⟨_,⟨k+1,by omega,(upto_succ _ _).symm⟩,hJx3⟩⟩
  ·obtain rfl:k=len:=by omega
   gi_wp2
   go_end0
   exact⟨⟨_,rfl⟩,.inl ⟨_,rfl,hJs⟩⟩
def IntsB (n₀:Nat) (W:World) (sv:Value) (zs:List Int):Prop:=
 (∃a cap,sv=.slice a 0 cap∧zs=[])∨∃b off cap,sv=.slice (some ⟨b,off,none⟩) zs.length cap∧b<n₀∧∀j,j<zs.length→W.cell? ⟨b,off+j,none⟩=some (.int .i64 (zs[j]?.getD 0))
theorem IntsB.below {n₀:Nat} {A B:World} (h:Below n₀ A B) {sv:Value} {zs:List Int}:IntsB n₀ A sv zs→IntsB n₀ B sv zs
 | .inl e=> .inl e
 | .inr ⟨b,off,cap,e,hb,hc⟩=> .inr ⟨b,off,cap,e,hb,fun j hj=>(h.cell (p:=⟨b,off+j,none⟩) hb).trans (hc j hj)⟩
set_option maxRecDepth 100000 in
set_option maxHeartbeats 1000000 in
theorem values1_nil_in (F:Fence) (n:Nat) (h7:F.fn 183) (hro:F.round=none) (l Bs:Nat) (J:List Int→World→Prop) (W:World) (a:Option Addr) (cap:Nat) (hBs:W.cell? ⟨Bs,0,none⟩=some (.slice a 0 cap)) (h0:J [] W) :
 CallsIn F n Tryz.prog 183 #[.func (.yield l) #[] #[],.pointer (some ⟨Bs,0,none⟩)] W fun e W'=>(∃v,e=.returned v)∧J [] W':=by
 refine callsIn_of_wp Tryz.func183 rfl h7 ?_ hro
 simp only [Tryz.ntmps183,List.size_toArray,List.length_cons,List.length_nil,Nat.reduceAdd,Nat.reduceSub,Array.replicate_succ,Array.replicate_zero,List.push_toArray,List.append_toArray,List.nil_append,List.cons_append]
 gi_wp2
 gi_loopw [7] (fun i wr=>i=.int .i64 0∧J [] wr) (fun _ _=>0)
 case atStart=>exact⟨rfl,h0⟩
 case round=>
  obtain⟨rfl,hJs⟩:=hrel
  gi_wp2
  go_end0
  exact⟨⟨_,rfl⟩,hJs⟩
theorem values_stops (F:Fence) (n:Nat) (h7:F.fn 183) (hro:F.round=none) (hn:1≤n) (Bs n₀:Nat) (sv:Value) (zs:List Int) (hreach:zs.length*8≤140737488351232) (w:World) (hBs:Bs<w.heap.size) (hn₀:n₀≤w.heap.size)
 (hc:w.cell? ⟨Bs,0,none⟩=some sv) (hI:IntsB n₀ w sv zs) :
 SeqStopsK F n Tryz.prog 183 #[.pointer (some ⟨Bs,0,none⟩)] (fun x:Int=> #[Value.int .i64 x]) (Below n₀) (fun ys=>ys=zs) (fun pre=>pre <+: zs) zs.length w:=fun l J Jx W hW _ _ hY h0=>by
 have hc':=(hW.cell (p:=⟨Bs,0,none⟩) hBs).trans hc
 rcases hI.below (hW.mono hn₀) with ⟨a,cap,rfl,rfl⟩ | ⟨b,off,cap,rfl,hb,hcs⟩
 ·exact (values1_nil_in F n h7 hro l Bs J W a cap hc' h0).mono fun e W' ⟨he,hj⟩=>⟨he,.inl ⟨_,rfl,hj⟩⟩
 ·refine (values1_in F n h7 hro hn l Bs n₀ b off zs.length cap zs hreach hb J Jx hY W hc' hcs h0).mono ?_
  rintro e W' ⟨he,⟨ys,rfl,hj⟩ | ⟨pre,⟨k,hk,rfl⟩,hj⟩⟩
  ·exact⟨he,.inl ⟨_,upto_all zs,hj⟩⟩
  ·exact⟨he,.inr ⟨_,by rw [upto_take zs hk];exact List.take_prefix _ _,hj⟩⟩
theorem infoInt:(Tryz.prog.info? 3).map (fun i=>(i.zero,i.size,i.bytes))=some (some (.int .i64 0),1,8):=by kernel_rfl
set_option maxRecDepth 100000 in
set_option maxHeartbeats 2000000 in
theorem appendSeq_in (F:Fence) (n:Nat) (h3:F.fn 220) (h5:F.fn 183) (hro:F.round=none) (hn:3≤n) (Bs:Nat) (sv:Value) (zs:List Int) (hlen:zs.length≤1000000) (w:World) (hBs:Bs<w.heap.size) (hc0:w.cell? ⟨Bs,0,none⟩=some sv) (hI:IntsB w.heap.size w sv zs) :
 CallsIn F n Tryz.prog 220 #[.slice none 0 0,.func (.func 183) #[] #[.pointer (some ⟨Bs,0,none⟩)]] w fun e W'=> ∃v,e=.returned v∧W'.ownsRow w.heap.size 3 1 v zs.length (zs.map (Value.int .i64))∧Below w.heap.size w W':=by
 have h1:1≤n:=by omega
 obtain⟨i0,hi,hz0,hz1,hz2⟩:=info_parts infoInt
 refine callsIn_of_wp_marks Tryz.func220 rfl h3 ?_ hro
 simp only [Tryz.ntmps220,List.size_toArray,List.length_cons,List.length_nil,Nat.reduceAdd,Nat.reduceSub,Array.replicate_succ,Array.replicate_zero,List.push_toArray,List.append_toArray,List.nil_append,List.cons_append]
 gi_wp2
 have bO:=Boxed.new w 22 (.slice none 0 0)
 have hB0:Below w.heap.size w (w.alloc (.cells #[.slice none 0 0] 22)):=(Below.refl _ w).alloc (Nat.le_refl _) _
 refine wpIn_rangeFunc_ownG hro h1 (gf:=183) (lb:=#[.pointer (some ⟨Bs,0,none⟩)]) rfl h5 (enters_of Tryz.func183 (by kernel_rfl) rfl)
  (values_stops F (n - 1) h5 hro (by omega) Bs w.heap.size sv zs (by omega) _ (by simp;omega) (by simp) ((hB0.cell (p:=⟨Bs,0,none⟩) hBs).trans hc0) (hI.below hB0)) belowK_t (belowK_b (by simp)) (Below.refl _ _) (fun _=>rfl)
  (fun pre W=>(∃v,Boxed W w.heap.size 22 v∧W.ownsRow w.heap.size 3 1 v pre.length (pre.map (Value.int .i64))∧(v=.slice none 0 0↔pre=[]))∧Below w.heap.size w W)
  (fun _ _ _=>False)
  (OwnFrom.and (Own.from (holdsRow_own w.heap.size w.heap.size 22 3 1 (fun pre=>pre.length) (fun pre=>pre.map (Value.int .i64)) (fun pre v=>v=.slice none 0 0↔pre=[])) _) (ownFrom_below (Nat.le_refl _) (by simp)))
  (fun _ _ _ _ _ hs _ _=>hs)
  ⟨⟨_,bO,World.ownsRow_nil _ _ _ _,by simp⟩,hB0⟩
  (fun x=>{ tmps:=#[.slice none 0 0,.func (.func 183) #[] #[.pointer (some ⟨Bs,0,none⟩)],.pointer (some ⟨w.heap.size,0,none⟩),undef,.slice none 0 0,.int .i64 x,.func (.func 183) #[] #[.pointer (some ⟨Bs,0,none⟩)],.int .i64 x,undef,undef,undef,undef,undef],defers:=[] }) ?assign ?body ?done ?stop
 case assign=>
  intro l x W K hK
  gi_wp2
  exact hK
 case body=>
  rintro l pre x W ⟨⟨v,hv,hrow,hnil⟩,hB⟩ hlt
  have hc:=hv.cell
  gi_wp2_with (gi_at_builtin;refine wpListIn_append_own _ rfl _ _ 22 rfl w.heap.size 3 i0 (.int .i64 0) 1 8 Tryz.underlying22 hi hz0 hz1 hz2 rfl (by decide) _ _ _ rfl (hrow.alloc _) ⟨W.heap.size,0,none⟩ 1 1 [.int .i64 x] rfl rfl (cell_one_new _ _ _) (by simp [Value.oneCell']) (by unfold maxLen;omega) (by omega) (by have:=hB.size;simp;omega) ?_;intro v' w1 hown' hgrow _;obtain⟨g',cap',rfl⟩:=ownsRow_succ hown';obtain⟨hv1,hv2,hr2,hk2,hb2⟩:=hv.appended (by decide) hrow hB.size (Nat.le_refl _) hown' hgrow;have hc1:=hv1.cell;have hf1:=hv1.frozen)
  exact⟨hk2.from _,hb2,⟨_,hv2,by simpa using hr2,by simp⟩,hB.trans hb2⟩
 case done=>
  rintro D ys W hD rfl ⟨⟨v,hv,hrow,hnil⟩,hB⟩ hK
  have hc:=hv.cell
  gi_wp2
  refine⟨by simp,.inl ⟨_,_,rfl,run_takeDeferred hK,?_⟩⟩
  exact⟨_,results_tmp rfl _ _ _,v,rfl,ownsRow_putObj hrow _ hK rfl,hB.trans (belowK_b (w:=w) (Nat.le_refl _) W D _ _ (by simp at hD;omega) hK rfl rfl)⟩
 case stop=>
  rintro D c pre W _ _ h _
  exact h.elim
end Go.Proofs.YtdilbjikeilhbaaGreatDoor
