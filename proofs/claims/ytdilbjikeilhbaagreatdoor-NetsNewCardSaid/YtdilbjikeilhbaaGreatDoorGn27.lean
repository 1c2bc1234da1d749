import Derived.Test.YtdilbjikeilhbaaGreatDoorGn24
import Derived.Deep.RegionHeld3
import Derived.Shelf.Bits.Mul64
import Derived.Laws.CopyOwn
import Derived.Laws.IdiomCopy
import Derived.Deep.RegionHeldLaw
namespace Go.Proofs.YtdilbjikeilhbaaGreatDoor
open Go.RowKit
set_option linter.unusedVariables false
set_option linter.unusedSimpArgs false
theorem rdz3 (w:World) (x y z:Int):RdZ (fun _=>True) (w.alloc (.cells #[.int .i64 x,.int .i64 y,.int .i64 z] 3)) (some ⟨w.heap.size,0,none⟩) 3 [x,y,z]:=by
 refine⟨rfl,fun k v hv=>⟨w.heap.size,0,rfl,trivial,by simp,?_⟩⟩
 have hB:=Blk.new w 3 #[.int .i64 x,.int .i64 y,.int .i64 z]
 match k,hv with
 | 0,hv=>simp at hv;subst hv;exact hB.cell 0
 | 1,hv=>simp at hv;subst hv;exact hB.cell 1
 | 2,hv=>simp at hv;subst hv;exact hB.cell 2
 | n+3,hv=>simp at hv
set_option maxRecDepth 100000 in
set_option maxHeartbeats 1000000 in
theorem r10_any (A:CfA) (c:Cfg) (w:World):Calls Tryz.prog 74 #[.agg (cfV A c).toArray] w (RuS (eachE 1 100 [c.mi,c.go,c.fr]) w):=by
 obtain⟨pa,pn,pc,sa,sn,sc,ba,bn,bc,ta,tn,tc⟩:=A
 obtain⟨cv,hcv⟩:∃cv,cv=cfV ⟨pa,pn,pc,sa,sn,sc,ba,bn,bc,ta,tn,tc⟩ c:=⟨_,rfl⟩
 rw [←hcv]
 have HCV:=Lib.hid hcv
 clear hcv
 go_enter Tryz.func74,Tryz.ntmps74
 go_upto_region 1 with fail
 have HB0:Hid (Below w.heap.size w (w.alloc (.cells cv.toArray 25))∧Blk (w.alloc (.cells cv.toArray 25)) w.heap.size 25 cv.toArray):=Lib.hid ⟨(Below.refl _ _).alloc (Nat.le_refl _) _,Blk.new _ _ _⟩
 generalize w.alloc (.cells cv.toArray 25)=w0 at HB0 ⊢
 rw [HCV.out] at HB0
 obtain⟨c0,c1,c2,c3,c4,c5,c6,c7,c8⟩:=cfV_cells HB0.out.2
 have c0:w0.cell? ⟨w.heap.size,0,none⟩=some (.int .i64 c.N):=c0
 have c1:w0.cell? ⟨w.heap.size,1,none⟩=some (.slice pa pn pc):=c1
 have c2:w0.cell? ⟨w.heap.size,2,none⟩=some (.slice sa sn sc):=c2
 have c3:w0.cell? ⟨w.heap.size,3,none⟩=some (.int .i64 c.lo):=c3
 have c4:w0.cell? ⟨w.heap.size,4,none⟩=some (.slice ba bn bc):=c4
 have c5:w0.cell? ⟨w.heap.size,5,none⟩=some (.slice ta tn tc):=c5
 have c6:w0.cell? ⟨w.heap.size,6,none⟩=some (.int .i64 c.mi):=c6
 have c7:w0.cell? ⟨w.heap.size,7,none⟩=some (.int .i64 c.go):=c7
 have c8:w0.cell? ⟨w.heap.size,8,none⟩=some (.int .i64 c.fr):=c8
 have HW:=Lib.hid (eachI_any _ _ 3 3 [c.mi,c.go,c.fr] 1 100 _ (rdz3 w0 c.mi c.go c.fr) (by omega) (by unfold maxLen;omega))
 have HB2:Hid (Below w.heap.size w (w0.alloc (.cells #[.int .i64 c.mi,.int .i64 c.go,.int .i64 c.fr] 3))):=Lib.hid (HB0.out.1.alloc (by have:=HB0.out.2.lt;omega) _)
 have hs2:w.heap.size≤(w0.alloc (.cells #[.int .i64 c.mi,.int .i64 c.go,.int .i64 c.fr] 3)).heap.size:=HB2.out.size
 have HS2:=Lib.hid hs2
 clear hs2
 go_wp2_with fail
 (with_reducible refine HW.out.mono ?_)
 rintro e w' ⟨rfl,hb⟩
 have HB3:=Lib.hid (HB2.out.trans (hb.mono HS2.out))
 clear hb
 go_wp2_with fail
 go_ret
 exact⟨rfl,HB3.out⟩
def coverB (n:Nat) (l:List Int):Bool:=(List.range n).all fun i=>hasB (i:Int) l
theorem coverB_succ (n:Nat) (l:List Int):coverB (n+1) l=(coverB n l&&hasB (n:Int) l):=by simp [coverB,List.range_succ,List.all_append]
set_option maxRecDepth 100000 in
set_option maxHeartbeats 1000000 in
theorem r5_any (S:Nat→Prop) (A:CfA) (c:Cfg) (w:World) (h:CfR S w A c) (hbig:A.pn≤1000):Calls Tryz.prog 66 #[.agg (cfV A c).toArray] w (RuS (mustE (insideB (A.pn:Int) c.Sl&&coverB A.pn c.Sl)) w):=by
 obtain⟨pa,pn,pc,sa,sn,sc,ba,bn,bc,ta,tn,tc⟩:=A
 have HRR:=Lib.hid h
 obtain⟨-,⟨hm1,hm2⟩,-⟩:=h.cp
 simp only at hm1 hm2 hbig
 clear h
 obtain⟨cv,hcv⟩:∃cv,cv=cfV ⟨pa,pn,pc,sa,sn,sc,ba,bn,bc,ta,tn,tc⟩ c:=⟨_,rfl⟩
 rw [←hcv]
 have HCV:=Lib.hid hcv
 clear hcv
 go_enter Tryz.func66,Tryz.ntmps66
 go_upto_region 1 with fail
 have HB0:Hid (Below w.heap.size w (w.alloc (.cells cv.toArray 25))∧Blk (w.alloc (.cells cv.toArray 25)) w.heap.size 25 cv.toArray):=Lib.hid ⟨(Below.refl _ _).alloc (Nat.le_refl _) _,Blk.new _ _ _⟩
 generalize w.alloc (.cells cv.toArray 25)=w0 at HB0 ⊢
 rw [HCV.out] at HB0
 obtain⟨c0,c1,c2,c3,c4,c5,c6,c7,c8⟩:=cfV_cells HB0.out.2
 have c0:w0.cell? ⟨w.heap.size,0,none⟩=some (.int .i64 c.N):=c0
 have c1:w0.cell? ⟨w.heap.size,1,none⟩=some (.slice pa pn pc):=c1
 have c2:w0.cell? ⟨w.heap.size,2,none⟩=some (.slice sa sn sc):=c2
 have c3:w0.cell? ⟨w.heap.size,3,none⟩=some (.int .i64 c.lo):=c3
 have c4:w0.cell? ⟨w.heap.size,4,none⟩=some (.slice ba bn bc):=c4
 have c5:w0.cell? ⟨w.heap.size,5,none⟩=some (.slice ta tn tc):=c5
 have c6:w0.cell? ⟨w.heap.size,6,none⟩=some (.int .i64 c.mi):=c6
 have c7:w0.cell? ⟨w.heap.size,7,none⟩=some (.int .i64 c.go):=c7
 have c8:w0.cell? ⟨w.heap.size,8,none⟩=some (.int .i64 c.fr):=c8
 have HI:=Lib.hid (inside_any S sa sn sc c.Sl (pn:Int) w0 (HRR.out.below HB0.out.1).s hm1 hm2)
 have hw0:w.heap.size<w0.heap.size:=HB0.out.2.lt
 have HM:=Lib.hid fun b w=>must_any b w
 obtain⟨b1,hb1⟩:∃b,Hid (b=insideB (pn:Int) c.Sl):=⟨_,Lib.hid rfl⟩
 rw [←hb1.out] at HI
 have HX:=Lib.hid (And.intro hm1 hm2)
 clear hm1 hm2
 go_upto_region 2 with fail
 (with_reducible refine HI.out.mono ?_)
 rintro e w1 ⟨rfl,hB1⟩
 have HB1:Hid (Below w0.heap.size w0 w1):=Lib.hid hB1
 have c1a:w1.cell? ⟨w.heap.size,1,none⟩=some (.slice pa pn pc):=(hB1.cell (p:=⟨w.heap.size,1,none⟩) hw0).trans c1
 have HC2:=Lib.hid c2
 clear hB1 c0 c1 c2 c3 c4 c5 c6 c7 c8
 go_wp2_with fail
 go_loopw [14,3] (fun i v wr=> ∃k:Nat,k≤pn∧i=.int .i64 k∧v=.bool (b1&&coverB k c.Sl)∧wr=w1) (fun i _ _=>pn - (intOf i).toNat)
 case atStart=>exact⟨0,by omega,rfl,by simp [coverB],rfl⟩
 case round=>
  obtain⟨k,hk,rfl,rfl,rfl⟩:=hrel
  obtain⟨q,hq⟩:∃q,Hid (q=(b1&&coverB k c.Sl)):=⟨_,Lib.hid rfl⟩
  rw [←hq.out]
  by_cases hlt:k<pn
  ·have hlt':(k:Int)<pn:=by omega
   have hk0:(0:Int)≤k:=by omega
   have c2a:wr.cell? ⟨w.heap.size,2,none⟩=some (.slice sa sn sc):=(HB1.out.cell (p:=⟨w.heap.size,2,none⟩) hw0).trans HC2.out
   have HK:=Lib.hid (contains_any S sa sn sc c.Sl (k:Int) wr (((HRR.out.below HB0.out.1).s).below HB1.out) HX.out.1 HX.out.2)
   obtain⟨b2,hb2⟩:∃b,Hid (b=hasB (k:Int) c.Sl):=⟨_,Lib.hid rfl⟩
   rw [←hb2.out] at HK
   cases q
   ·go_wp2_with fail
    go_roundw
    case rel=>exact⟨k+1,by omega,by simp,by rw [coverB_succ,←Bool.and_assoc,←hq.out];rfl,trivial⟩
    case measure=>simp [intOf];omega
   ·go_wp2_with fail
    (with_reducible refine HK.out.mono ?_)
    rintro e w2 ⟨rfl,rfl⟩
    go_wp2_with fail
    go_roundw
    case rel=>exact⟨k+1,by omega,by simp,by rw [coverB_succ,←Bool.and_assoc,←hq.out,←hb2.out];rfl,trivial⟩
    case measure=>simp [intOf];omega
  ·obtain rfl:k=pn:=by omega
   go_wp2_with fail
   (with_reducible refine (HM.out q wr).mono ?_)
   rintro e w2 ⟨rfl,rfl⟩
   go_wp2_with fail
   go_ret
   exact⟨by rw [←hb1.out,←hq.out];rfl,HB0.out.1.trans (HB1.out.mono (by omega))⟩
theorem rdz2 (w:World) (x y:Int):RdZ (fun _=>True) (w.alloc (.cells #[.int .i64 x,.int .i64 y] 35)) (some ⟨w.heap.size,0,none⟩) 2 [x,y]:=by
 refine⟨rfl,fun k v hv=>⟨w.heap.size,0,rfl,trivial,by simp,?_⟩⟩
 have hB:=Blk.new w 35 #[.int .i64 x,.int .i64 y]
 match k,hv with
 | 0,hv=>simp at hv;subst hv;exact hB.cell 0
 | 1,hv=>simp at hv;subst hv;exact hB.cell 1
 | n+2,hv=>simp at hv
theorem first2_any (x y:Int) (w:World):Calls Tryz.prog 70 #[.slice (some ⟨w.heap.size,0,none⟩) 2 2] (w.alloc (.cells #[.int .i64 x,.int .i64 y] 35)) fun e w'=>e=.returned (.int .i64 (firstE [x,y]))∧Below w.heap.size w w':=by
 refine (first_any _ _ 2 2 [x,y] _ (rdz2 w x y) (by omega) (by unfold maxLen;omega)).mono ?_
 rintro e w' ⟨rfl,rfl⟩
 exact⟨rfl,(Below.refl _ _).alloc (Nat.le_refl _) _⟩
set_option maxRecDepth 100000 in
set_option maxHeartbeats 1000000 in
theorem r7_any (S:Nat→Prop) (A:CfA) (c:Cfg) (w:World) (h:CfR S w A c):Calls Tryz.prog 69 #[.agg (cfV A c).toArray] w (RuS (firstE [mustE (decide ((A.bn:Int)=c.N)),eachE 0 4096 c.B]) w):=by
 obtain⟨pa,pn,pc,sa,sn,sc,ba,bn,bc,ta,tn,tc⟩:=A
 have HRR:=Lib.hid h
 obtain⟨-,-,⟨hm1,hm2⟩,-⟩:=h.cp
 simp only at hm1 hm2
 clear h
 obtain⟨cv,hcv⟩:∃cv,cv=cfV ⟨pa,pn,pc,sa,sn,sc,ba,bn,bc,ta,tn,tc⟩ c:=⟨_,rfl⟩
 rw [←hcv]
 have HCV:=Lib.hid hcv
 clear hcv
 go_enter Tryz.func69,Tryz.ntmps69
 go_upto_region 1 with fail
 have HB0:Hid (Below w.heap.size w (w.alloc (.cells cv.toArray 25))∧Blk (w.alloc (.cells cv.toArray 25)) w.heap.size 25 cv.toArray):=Lib.hid ⟨(Below.refl _ _).alloc (Nat.le_refl _) _,Blk.new _ _ _⟩
 generalize w.alloc (.cells cv.toArray 25)=w0 at HB0 ⊢
 rw [HCV.out] at HB0
 obtain⟨c0,c1,c2,c3,c4,c5,c6,c7,c8⟩:=cfV_cells HB0.out.2
 have c0:w0.cell? ⟨w.heap.size,0,none⟩=some (.int .i64 c.N):=c0
 have c1:w0.cell? ⟨w.heap.size,1,none⟩=some (.slice pa pn pc):=c1
 have c2:w0.cell? ⟨w.heap.size,2,none⟩=some (.slice sa sn sc):=c2
 have c3:w0.cell? ⟨w.heap.size,3,none⟩=some (.int .i64 c.lo):=c3
 have c4:w0.cell? ⟨w.heap.size,4,none⟩=some (.slice ba bn bc):=c4
 have c5:w0.cell? ⟨w.heap.size,5,none⟩=some (.slice ta tn tc):=c5
 have c6:w0.cell? ⟨w.heap.size,6,none⟩=some (.int .i64 c.mi):=c6
 have c7:w0.cell? ⟨w.heap.size,7,none⟩=some (.int .i64 c.go):=c7
 have c8:w0.cell? ⟨w.heap.size,8,none⟩=some (.int .i64 c.fr):=c8
 have hw0:w.heap.size<w0.heap.size:=HB0.out.2.lt
 have HE:Hid (∀w',Below w0.heap.size w0 w'→Calls Tryz.prog 71 #[.slice ba bn bc,.int .i64 0,.int .i64 4096] w' fun e w''=>e=.returned (.int .i64 (eachE 0 4096 c.B))∧Below w0.heap.size w0 w''):=Lib.hid fun w' hb=>by
  refine (eachI_any _ ba bn bc c.B 0 4096 w' (((HRR.out.below HB0.out.1).b).below hb) hm1 hm2).mono ?_
  rintro e w'' ⟨rfl,hb2⟩
  exact⟨rfl,hb.trans (hb2.mono hb.size)⟩
 have HM:=Lib.hid fun b w=>must_any b w
 have HF:=Lib.hid fun x y w=>first2_any x y w
 obtain⟨q,hq⟩:∃q,Hid (q=eachE 0 4096 c.B):=⟨_,Lib.hid rfl⟩
 rw [←hq.out] at HE
 obtain⟨N,hN⟩:∃N,Hid (N=c.N):=⟨_,Lib.hid rfl⟩
 have c0:w0.cell? ⟨w.heap.size,0,none⟩=some (.int .i64 N):=by rw [hN.out];exact c0
 have FA:Hid (∀w',Below w0.heap.size w0 w'→w'.cell? ⟨w.heap.size,4,none⟩=some (.slice ba bn bc)∧w'.cell? ⟨w.heap.size,0,none⟩=some (.int .i64 N)):=Lib.hid fun w' hb=>⟨(hb.cell (p:=⟨w.heap.size,4,none⟩) hw0).trans c4,(hb.cell (p:=⟨w.heap.size,0,none⟩) hw0).trans c0⟩
 have c4':=c4
 have c0':=c0
 clear hm1 hm2 c1 c2 c3 c5 c6 c7 c8
 go_region_held3 (fun w'=>w'.cell? ⟨w.heap.size,4,none⟩=some (.slice ba bn bc)∧w'.cell? ⟨w.heap.size,0,none⟩=some (.int .i64 N))
  (with_reducible (first | assumption | exact FA.out _ (Below.refl _ _).drew | exact FA.out _ HB2.out | exact FA.out _ (HB2.out.alloc HB2.out.size _) | exact FA.out _ (HB2.out.trans (HB3.out.mono HB2.out.size))))
  ((first
    | (go_at_call 61;refine (HM.out _ _).mono ?_;rintro e w1 ⟨rfl,rfl⟩)
    | (go_at_call 71;refine (HE.out _ (Below.refl _ _).drew).mono ?_;rintro e w2 ⟨rfl,hb2⟩;have HB2:=Lib.hid hb2;clear hb2)
    | (go_at_call 70;refine (HF.out _ _ _).mono ?_;rintro e w3 ⟨rfl,hb3⟩;have HB3:=Lib.hid hb3;clear hb3)))
 go_wp2_with fail
 go_ret
 exact⟨by rw [←hN.out,←hq.out];rfl,HB0.out.1.trans ((HB2.out.trans (HB3.out.mono HB2.out.size)).mono (by omega))⟩
def stOk (c:Cfg):Prop:=∀s ∈ c.St,0≤s.1∧s.1<c.N∧1≤s.2.2∧s.2.2≤100
theorem RdSt.row {S:Nat→Prop} {w:World} {x:Option Addr} {m:Nat} {l:List (Int×Int×Int)} (h:RdSt S w x m l) {k:Nat} (hk:k<m) :
 ∃b off s,x=some ⟨b,off,none⟩∧S b∧b<w.heap.size∧l[k]? =some s∧hasRow w ⟨b,off+k*3,none⟩ 3=true∧rowOf w ⟨b,off+k*3,none⟩ 3=stv s:=by
 obtain⟨h1,h3⟩:=h
 have hkk:l[k]? =some (l[k]'(by omega)):=List.getElem?_eq_getElem (by omega)
 obtain⟨b,off,hx,hS,hb,hr1,hr2,hr3⟩:=h3 k _ hkk
 refine⟨b,off,_,hx,hS,hb,hkk,?_⟩
 exact row_of_cells (w:=w) (p:=⟨b,off+k*3,none⟩) (l:=stv (l[k]'(by omega))) (fun j v hv=>by
  have hj:j<3:=by have:=(List.getElem?_eq_some_iff.1 hv).1;simpa [stv] using this
  rw [add_at]
  have hm3:j=0∨j=1∨j=2:=by omega
  rcases hm3 with rfl | rfl | rfl
  ·rw [Nat.add_zero,hr1];exact hv
  ·rw [hr2];exact hv
  ·rw [hr3];exact hv)
theorem ag_st:aggOf Tryz.prog 183 3=true:=by kernel_rfl
@[go_sem ↓] theorem ld_st (ρ:Operand→Value) (d:Option Tmp) (x:Operand) (ty:TypeId) (s:String) (af:Array Edge) (g:Option (Nat×Bool)) (w:World) (h:hasRowV w 3 (ρ x)=true) :
 (execOp ρ { dst:=d,op:=.load 183 x,type:=ty,pos:=s,after:=af,guard:=g }).run Tryz.prog w=.ok (.value (.agg (rowV w 3 (ρ x)).toArray)) w:=exec_load ag_st ρ d x ty s af g w h
@[go_sem ↓] theorem st_st (ρ:Operand→Value) (d:Option Tmp) (x y:Operand) (ty:TypeId) (s:String) (af:Array Edge) (g:Option (Nat×Bool)) (w:World) (h1:okAgg 3 (ρ y)=true) (h2:canPutV w 3 (ρ x)=true) :
 (execOp ρ { dst:=d,op:=.store 183 x y,type:=ty,pos:=s,after:=af,guard:=g }).run Tryz.prog w=.ok .skip (putV w (ρ x) (ρ y)):=exec_store ag_st ρ d x y ty s af g w h1 h2
def ruleFs:List Nat:=[57,59,60,65,66,68,69,72,73,74]
set_option maxRecDepth 100000 in
set_option maxHeartbeats 1000000 in
theorem rules_any (w:World):Calls Tryz.prog 31 #[] w fun e w'=>e=.returned (.slice (some ⟨w.heap.size,0,none⟩) 10 10)∧Blk w' w.heap.size 157 ((ruleFs.map fun f=>Value.func (.func f) #[] #[]).toArray)∧Below w.heap.size w w':=by
 go_enter Tryz.func31,Tryz.ntmps31
 go_wp2
 go_ret
 exact⟨rfl,Blk.new _ _ _,(Below.refl _ _).alloc (Nat.le_refl _) _⟩
open Go.Shelf Go.RowKit
def mul_ren:Go.Shelf.Ren:=⟨fun | 212=>79 | 263=>129 | 264=>130 | n=>n,fun | 46=>224 | 51=>78 | 53=>125 | 146=>307 | 148=>309 | n=>n,fun | n=>n⟩
theorem mulL:Lays.n212 Tryz.prog mul_ren:={
 mixed:=by kernel_rfl,
 f212:=Tryz.func79.trans (congrArg some (by kernel_rfl)),
 f263:=Tryz.func129.trans (congrArg some (by kernel_rfl)),
 f264:=Tryz.func130.trans (congrArg some (by kernel_rfl)),
 t46:=Tryz.underlying224,
 a46:=Tryz.isAgg224,
 z46:=Tryz.sizeOf224,
 v46:=Tryz.zeroValue224,
 t51:=Tryz.underlying78,
 a51:=Tryz.isAgg78,
 z51:=Tryz.sizeOf78,
 v51:=Tryz.zeroValue78,
 t53:=Tryz.underlying125,
 a53:=Tryz.isAgg125,
 z53:=Tryz.sizeOf125,
 v53:=Tryz.zeroValue125,
 t146:=Tryz.underlying307,
 a146:=Tryz.isAgg307,
 z146:=Tryz.sizeOf307,
 v146:=Tryz.zeroValue307,
 t148:=Tryz.underlying309,
 a148:=Tryz.isAgg309,
 z148:=Tryz.sizeOf309,
 v148:=Tryz.zeroValue309 }
theorem mul_any (x y:Nat) (hx:x<18446744073709551616) (hy:y<18446744073709551616) (w:World) :
 Calls Tryz.prog 79 #[.int .u64 x,.int .u64 y] w fun e w'=>e=.returned (.tuple #[.int .u64 ((x*y / 18446744073709551616:Nat):Int),.int .u64 ((x*y % 18446744073709551616:Nat):Int)])∧w'=w:=Any.bits_Mul mulL x y hx hy w
theorem mul1_any (y:Nat) (hy:y≤16) (w:World):Calls Tryz.prog 79 #[.int .u64 1,.int .u64 y] w fun e w'=>e=.returned (.tuple #[.int .u64 0,.int .u64 y])∧w'=w:=by
 refine (mul_any 1 y (by omega) (by omega) w).mono ?_
 rintro e w' ⟨rfl,rfl⟩
 have h1:1*y / 18446744073709551616=0:=by omega
 have h2:1*y % 18446744073709551616=y:=by omega
 rw [h1,h2]
 exact⟨rfl,rfl⟩
end Go.Proofs.YtdilbjikeilhbaaGreatDoor
namespace Go.Proofs.YtdilbjikeilhbaaGreatDoor
open Go.RowKit
set_option linter.unusedVariables false
set_option linter.unusedSimpArgs false
theorem mk_intB:MakeOk Tryz.prog 22 3 [.int .i64 0]:=⟨Tryz.underlying22,by kernel_rfl,by decide⟩
@[go_sem ↓] theorem ms_intB (ρ:Operand→Value) (d:Option Tmp) (x y:Operand) (ty:TypeId) (s:String) (af:Array Edge) (g:Option (Nat×Bool)) (w:World) (h:madeOk (ρ x) (ρ y)=true) :
 (execOp ρ { dst:=d,op:=.makeSlice 22 x y,type:=ty,pos:=s,after:=af,guard:=g }).run Tryz.prog w =
   .ok (.value (.slice (some ⟨w.heap.size,0,none⟩) (lenV (ρ x)) (lenV (ρ x)))) (w.alloc (.cells (zrep [.int .i64 0] (lenV (ρ x))).toArray 3)):=exec_make mk_intB ρ d x y ty s af g w h
def fillL (N k:Nat) (x:Int):List Value:=List.replicate k (.int .i64 x)++List.replicate (N - k) (.int .i64 0)
theorem fillL_len {N k:Nat} {x:Int} (h:k≤N):(fillL N k x).length=N:=by simp [fillL];omega
theorem fillL_more {N k m:Nat} {x:Int} (h:k+m≤N):(fillL N k x).take k++(List.replicate m (Value.int .i64 x)++(fillL N k x).drop (k+m))=fillL N (k+m) x:=by
 simp only [fillL]
 rw [List.take_left' (by simp),←List.append_assoc,List.replicate_append_replicate,List.drop_append,List.drop_eq_nil_of_le (by simp),List.nil_append,List.drop_replicate]
 congr 2
 simp
 omega
theorem zrep0 (N:Nat) (x:Int):zrep [.int .i64 0] N=fillL N 0 x:=by
 simp [fillL,zrep,List.flatMap_singleton']
def RepP (N:Nat) (x:Int) (w:World) (e:Ending) (w':World):Prop:=e=.returned (.slice (some ⟨w.heap.size,0,none⟩) N N)∧Blk w' w.heap.size 3 (ints (List.replicate N x)).toArray∧Below w.heap.size w w'
set_option maxRecDepth 100000 in
set_option maxHeartbeats 2000000 in
theorem repeat_any (bb:Nat) (x:Int) (N:Nat) (h4:4≤N) (h16:N≤16) (w:World) (hbb:bb<w.heap.size) (hc:w.cell? ⟨bb,0,none⟩=some (.int .i64 x)) :
 Calls Tryz.prog 33 #[.slice (some ⟨bb,0,none⟩) 1 1,.int .i64 N] w (RepP N x w):=by
 have HM:=Lib.hid (mul1_any N h16 w)
 have h0:(0:Int)≤N:=by omega
 have hb9:decide ((9223372036854775807:Int)<N)=false:=by simp;omega
 have hmk:madeOk (.int .i64 (N:Int)) (.int .i64 (N:Int))=true:=by simp [madeOk];omega
 have hln:lenV (.int .i64 (N:Int))=N:=by simp [lenV]
 have hi:IntKind.i64.wrap (N:Int)=N:=IntWalk.i64_in _ (by omega)
 have hB:Below w.heap.size w (w.alloc (.cells (zrep [.int .i64 0] N).toArray 3)):=(Below.refl _ _).alloc (Nat.le_refl _) _
 have hK:Blk (w.alloc (.cells (zrep [.int .i64 0] N).toArray 3)) w.heap.size 3 (fillL N 0 x).toArray:=by rw [zrep0 N x];exact Blk.new _ _ _
 have hc1:=(hB.cell (p:=⟨bb,0,none⟩) hbb).trans hc
 have HK:=Lib.hid (And.intro hB (And.intro hK hc1))
 clear hB hK hc1
 go_enter Tryz.func33,Tryz.ntmps33
 go_upto_region 4 with fail
 (with_reducible refine HM.out.mono ?_)
 rintro e w' ⟨rfl,rfl⟩
 go_upto_region 7 with fail
 generalize w'.alloc (.cells (zrep [.int .i64 0] N).toArray 3)=w0 at HK ⊢
 have hcp:∃w1,(Builtin.copy_ #[22,22] 3 #[.slice (some ⟨w'.heap.size,0,none⟩) N N,.slice (some ⟨bb,0,none⟩) 1 1]).run Tryz.prog w0=.ok (.int .i64 1) w1∧Hid (Below w'.heap.size w' w1∧Blk w1 w'.heap.size 3 (fillL N 1 x).toArray):=by
  have h:=run_copy_row (P:=Tryz.prog) w0 22 22 3 3 w'.heap.size 0 N N ⟨bb,0,none⟩ 1 1 _ 3 [.int .i64 x] Tryz.underlying22 (by kernel_rfl) HK.out.2.1 (Nat.min_eq_left (show 1≤N by omega)).symm (by intro j v hv;match j,hv with | 0,hv=>{ simp at hv;subst hv;exact HK.out.2.2 } | j+1,hv=>{ simp at hv }) (by simp only [List.length_cons,List.length_nil,List.size_toArray,fillL_len (Nat.zero_le N)];omega) (by simp [Value.oneCell'])
  refine⟨_,h,Lib.hid ⟨below_setRow HK.out.1 (Nat.le_refl _) _,?_⟩⟩
  have h2:=setRow_heap w0 w'.heap.size _ ((fillL N 0 x).toArray.toList.take 0++ [Value.int .i64 x] ++(fillL N 0 x).toArray.toList.drop (0+ [Value.int .i64 x].length)).toArray 3 _ HK.out.2.1
  have h3:=fillL_more (N:=N) (k:=0) (m:=1) (x:=x) (by omega)
  refine h2.trans ?_
  simp only [List.append_assoc]
  rw [show [Value.int .i64 x]=List.replicate 1 (Value.int .i64 x) from rfl,List.length_replicate,h3]
 obtain⟨w1,hcp,HW⟩:=hcp
 clear HK
 go_wp2_with fail
 go_loopw [8] (fun i wr=> ∃k:Nat,1≤k∧k≤N∧i=.int .i64 k∧Hid (Below w'.heap.size w' wr∧Blk wr w'.heap.size 3 (fillL N k x).toArray)) (fun i _=>N - (intOf i).toNat)
 case atStart=>exact⟨1,by omega,by omega,rfl,HW⟩
 case round=>
  obtain⟨k,hk1,hk,rfl,HR⟩:=hrel
  clear hcp HW
  by_cases hlt:k<N
  ·have hlt':(k:Int)<N:=by omega
   have hk0:(0:Int)≤k:=by omega
   have hkN:(k:Int)≤N:=by omega
   have hkl:IntKind.i64.wrap (k:Int)=k:=IntWalk.i64_in _ (by omega)
   go_upto_region 9 with fail
   have hif:(if N=k then some (⟨w'.heap.size,0,none⟩:Addr) else some ⟨w'.heap.size,k,none⟩)=some ⟨w'.heap.size,k,none⟩:=if_neg (by omega)
   obtain⟨m,hm⟩:∃m,Hid (m=Nat.min k (N - k)):=⟨_,Lib.hid rfl⟩
   have hcp:∃w1,(Builtin.copy_ #[22,22] 3 #[.slice (some ⟨w'.heap.size,k,none⟩) (N - k) (N - k),.slice (some ⟨w'.heap.size,0,none⟩) k N]).run Tryz.prog wr.drew=.ok (.int .i64 m) w1∧Hid (Below w'.heap.size w' w1∧Blk w1 w'.heap.size 3 (fillL N (k+m) x).toArray):=by
    have hmk2:m≤k:=by rw [hm.out];exact Nat.min_le_left _ _
    have hmn:m≤N - k:=by rw [hm.out];exact Nat.min_le_right _ _
    have hd:Blk wr.drew w'.heap.size 3 (fillL N k x).toArray:=HR.out.2
    have h:=run_copy_row (P:=Tryz.prog) wr.drew 22 22 3 3 w'.heap.size k (N - k) (N - k) ⟨w'.heap.size,0,none⟩ k N _ 3 (List.replicate m (Value.int .i64 x)) Tryz.underlying22 (by kernel_rfl) hd (by rw [List.length_replicate,hm.out]) (by
     intro j v hv
     obtain⟨hj,rfl⟩:=List.getElem?_eq_some_iff.1 hv
     have hj2:j<m:=by simpa using hj
     rw [add_at,Nat.zero_add,hd.cell j]
     simp only [fillL,List.getElem?_toArray,List.getElem_replicate]
     rw [List.getElem?_append_left (by simp;omega),List.getElem?_replicate,if_pos (by omega)]) (by rw [List.length_replicate,List.size_toArray,fillL_len hk];omega) (by intro v hv;rw [List.eq_of_mem_replicate hv];rfl)
    rw [List.length_replicate] at h
    refine⟨_,h,Lib.hid ⟨below_setRow HR.out.1.drew (Nat.le_refl _) _,?_⟩⟩
    have h2:=setRow_heap wr.drew w'.heap.size _ ((fillL N k x).toArray.toList.take k++List.replicate m (Value.int .i64 x)++(fillL N k x).toArray.toList.drop (k+m)).toArray 3 _ hd
    refine h2.trans ?_
    have h3:=fillL_more (N:=N) (k:=k) (m:=m) (x:=x) (by omega)
    simp only [List.append_assoc]
    rw [h3]
   obtain⟨w1,hcp,HW1⟩:=hcp
   have hkm:IntKind.i64.wrap ((k:Int)+m)=((k+m:Nat):Int):=by
    have hmk2:m≤k:=by rw [hm.out];exact Nat.min_le_left _ _
    rw [IntWalk.i64_in _ (by omega)]
    omega
   have hmp:1≤m∧k+m≤N:=by
    have h1:=hm.out
    have h2:Nat.min k (N - k)≤N - k:=Nat.min_le_right _ _
    have h3:Nat.min k (N - k)=k∨Nat.min k (N - k)=N - k:=by rcases Nat.le_total k (N - k) with hh | hh;exact .inl (Nat.min_eq_left hh);exact .inr (Nat.min_eq_right hh)
    omega
   have HMP:=Lib.hid hmp
   clear hmp
   go_region_held3 (fun w''=>True)
    (trivial)
    (fail)
   go_wp2_with fail
   go_roundw
   case rel=>exact⟨k+m,by have:=HMP.out;omega,HMP.out.2,by simp,HW1⟩
   case measure=>have:=HMP.out;simp [intOf];omega
  ·obtain rfl:k=N:=by omega
   go_wp2_with fail
   go_ret
   have hf:fillL k k x=ints (List.replicate k x):=by simp [fillL,ints]
   exact⟨rfl,by rw [←hf];exact HR.out.2,HR.out.1⟩
def stP (c:Cfg) (s:Int×Int×Int):Int:=firstE [mustE (decide (0≤s.1)&&decide (s.1<c.N)),withE s.2.2 1 100]
def stE (c:Cfg):Int:=firstE (c.St.map (stP c))
theorem firstE_zero:∀{l:List Int},(∀z ∈ l,z=0)→firstE l=0
 | [],_=>rfl
 | x :: r,h=>by
   rw [firstE,if_pos (h x (by simp))]
   exact firstE_zero fun z hz=>h z (by simp [hz])
theorem stE_zero {c:Cfg} (h:∀s ∈ c.St,stP c s=0):stE c=0:=firstE_zero fun z hz=>by
 obtain⟨s,hs,rfl⟩:=List.mem_map.1 hz
 exact h s hs
theorem firstE_at:∀{l:List Int} {k:Nat} {z:Int},(∀y ∈ l.take k,y=0)→l[k]? =some z→z≠0→firstE l=z
 | [],k,z,_,h,_=>by simp at h
 | x :: r,0,z,_,h,hz=>by
   simp at h
   subst h
   rw [firstE,if_neg hz]
 | x :: r,k+1,z,hp,h,hz=>by
   rw [firstE,if_pos (hp x (by simp))]
   exact firstE_at (k:=k) (fun y hy=>hp y (by simp only [List.take_succ_cons,List.mem_cons];exact .inr hy)) (by simpa using h) hz
theorem stE_at {c:Cfg} {k:Nat} {s:Int×Int×Int} (hp:∀s ∈ c.St.take k,stP c s=0) (hs:c.St[k]? =some s) (hz:stP c s≠0):stE c=stP c s:=
 firstE_at (k:=k) (fun y hy=>by
  rw [←List.map_take] at hy
  obtain⟨u,hu,rfl⟩:=List.mem_map.1 hy
  exact hp u hu) (by rw [List.getElem?_map,hs];rfl) hz
theorem stP_step {c:Cfg} {k:Nat} {s:Int×Int×Int} (hp:∀s ∈ c.St.take k,stP c s=0) (hs:c.St[k]? =some s) (hz:stP c s=0):∀s ∈ c.St.take (k+1),stP c s=0:=fun u hu=>by
 rw [List.take_add_one,hs] at hu
 rcases List.mem_append.1 hu with h | h
 ·exact hp u h
 ·simp at h
  rw [h]
  exact hz
set_option maxRecDepth 100000 in
set_option maxHeartbeats 1000000 in
theorem r9_all (S:Nat→Prop) (A:CfA) (c:Cfg) (w:World) (h:CfR S w A c):Calls Tryz.prog 73 #[.agg (cfV A c).toArray] w (RuS (stE c) w):=by
 obtain⟨pa,pn,pc,sa,sn,sc,ba,bn,bc,ta,tn,tc⟩:=A
 have HT:=Lib.hid h.t
 obtain⟨-,-,-,⟨hm1,hm2⟩⟩:=h.cp
 unfold maxLen at hm2
 simp only at HT hm1 hm2
 clear h
 obtain⟨cv,hcv⟩:∃cv,cv=cfV ⟨pa,pn,pc,sa,sn,sc,ba,bn,bc,ta,tn,tc⟩ c:=⟨_,rfl⟩
 rw [←hcv]
 have HCV:=Lib.hid hcv
 clear hcv
 go_enter Tryz.func73,Tryz.ntmps73
 go_upto_region 1 with fail
 have HB0:Hid (Below w.heap.size w (w.alloc (.cells cv.toArray 25))∧Blk (w.alloc (.cells cv.toArray 25)) w.heap.size 25 cv.toArray):=Lib.hid ⟨(Below.refl _ _).alloc (Nat.le_refl _) _,Blk.new _ _ _⟩
 generalize w.alloc (.cells cv.toArray 25)=w0 at HB0 ⊢
 rw [HCV.out] at HB0
 obtain⟨c0,c1,c2,c3,c4,c5,c6,c7,c8⟩:=cfV_cells HB0.out.2
 have c0:w0.cell? ⟨w.heap.size,0,none⟩=some (.int .i64 c.N):=c0
 have c5:w0.cell? ⟨w.heap.size,5,none⟩=some (.slice ta tn tc):=c5
 have hw0:w.heap.size<w0.heap.size:=HB0.out.2.lt
 clear c1 c2 c3 c4 c6 c7 c8
 go_wp2_with fail
 go_loopw [9] (fun i wr=> ∃k:Nat,k≤tn∧i=.int .i64 k∧Hid (Below w0.heap.size w0 wr)∧Hid (∀s ∈ c.St.take k,stP c s=0)) (fun i _=>tn - (intOf i).toNat)
 case atStart=>exact⟨0,by omega,rfl,Lib.hid (Below.refl _ _),Lib.hid (by simp)⟩
 case round=>
  obtain⟨k,hk,rfl,HB,HZ⟩:=hrel
  by_cases hlt:k<tn
  ·obtain⟨b,off,s,rfl,-,hbl,hz,hrow,hrof⟩:=((HT.out.below HB0.out.1).below HB.out).row hlt
   have HPZ:=Lib.hid hz
   obtain⟨s1,s2,s3⟩:=s
   replace hrof:rowOf wr ⟨b,off+k*3,none⟩ 3=[.int .i64 s1,.int .u32 s2,.int .i64 s3]:=hrof
   have hlt':(k:Int)<tn:=by omega
   have hk0:(0:Int)≤k:=by omega
   have hb2:Below wr.heap.size wr (wr.alloc (.cells #[Value.int .i64 s1,.int .u32 s2,.int .i64 s3] 183)):=(Below.refl _ _).alloc (Nat.le_refl _) _
   have hk2:=Blk.new wr 183 #[Value.int .i64 s1,.int .u32 s2,.int .i64 s3]
   have HW2:=Lib.hid (And.intro hb2 hk2)
   clear hb2 hk2
   go_upto_region 4 with fail
   generalize wr.alloc (.cells #[Value.int .i64 s1,.int .u32 s2,.int .i64 s3] 183)=w2 at HW2 ⊢
   have HB2:=Lib.hid (HB.out.trans (HW2.out.1.mono HB.out.size))
   have hz2:=HB2.out.size
   obtain⟨N,hN⟩:∃N,Hid (N=c.N):=⟨_,Lib.hid rfl⟩
   have d0:w2.cell? ⟨w.heap.size,0,none⟩=some (.int .i64 N):=by rw [hN.out];exact (HB2.out.cell (p:=⟨w.heap.size,0,none⟩) hw0).trans c0
   have d1:w2.cell? ⟨wr.heap.size,0,none⟩=some (.int .i64 s1):=HW2.out.2.cell 0
   have d2:w2.cell? ⟨wr.heap.size,2,none⟩=some (.int .i64 s3):=HW2.out.2.cell 2
   have hz3:wr.heap.size<w2.heap.size:=HW2.out.2.lt
   have FA:Hid (∀w',Below w2.heap.size w2 w'→w'.cell? ⟨w.heap.size,0,none⟩=some (.int .i64 N)∧w'.cell? ⟨wr.heap.size,0,none⟩=some (.int .i64 s1)∧w'.cell? ⟨wr.heap.size,2,none⟩=some (.int .i64 s3)):=Lib.hid fun w' hb=>⟨(hb.cell (p:=⟨w.heap.size,0,none⟩) (show w.heap.size<_ by omega)).trans d0,(hb.cell (p:=⟨wr.heap.size,0,none⟩) hz3).trans d1,(hb.cell (p:=⟨wr.heap.size,2,none⟩) hz3).trans d2⟩
   clear hz hrow hrof
   obtain⟨E,hE⟩:∃E,Hid (E=stP c (s1,s2,s3)):=⟨_,Lib.hid rfl⟩
   have HW3:=Lib.hid fun w=>within_any s3 1 100 w
   by_cases h0:0≤s1
   ·have h0':decide (0≤s1)=true:=decide_eq_true h0
    have HFb:Hid (∀w,Calls Tryz.prog 70 #[.slice (some ⟨w.heap.size,0,none⟩) 2 2] (w.alloc (.cells #[.int .i64 (mustE (decide (s1<N))),.int .i64 (withE s3 1 100)] 35)) fun e w'=>e=.returned (.int .i64 (firstE [mustE (decide (s1<N)),withE s3 1 100]))∧Below w.heap.size w w'):=Lib.hid fun w=>first2_any _ _ w
    go_region_held3 (fun w'=>w'.cell? ⟨w.heap.size,0,none⟩=some (.int .i64 N)∧w'.cell? ⟨wr.heap.size,0,none⟩=some (.int .i64 s1)∧w'.cell? ⟨wr.heap.size,2,none⟩=some (.int .i64 s3))
     (with_reducible (first | assumption | exact FA.out _ (Below.refl _ _).drew | exact FA.out _ (Below.refl _ _) | exact FA.out _ HF3.out | exact FA.out _ ((Below.refl _ _).alloc (Nat.le_refl _) _).drew | exact FA.out _ ((Below.refl _ _).alloc (Nat.le_refl _) _)))
     ((first
       | (go_at_call 61;refine (must_any (decide (s1<N)) _).mono ?_;rintro e w1 ⟨rfl,rfl⟩)
       | (go_at_call 58;refine (HW3.out _).mono ?_;rintro e w1 ⟨rfl,rfl⟩)
       | (go_at_call 70;refine (HFb.out w2.drew).mono ?_;rintro e w3 ⟨rfl,hb3⟩;have HF3:Hid (Below w2.heap.size w2 w3):=Lib.hid ((Below.refl _ _).drew.trans hb3);clear hb3)))
    have HEv:Hid (firstE [mustE (decide (s1<N)),withE s3 1 100]=stP c (s1,s2,s3)):=Lib.hid (by unfold stP;rw [hN.out,decide_eq_true h0];rfl)
    generalize firstE [mustE (decide (s1<N)),withE s3 1 100]=Ev at HEv ⊢
    have HB4:Hid (Below w0.heap.size w0 w3):=Lib.hid (HB2.out.trans (HF3.out.mono HB2.out.size))
    by_cases hz0:Ev=0
    ·subst hz0
     go_wp2_with fail
     go_roundw
     case rel=>exact⟨k+1,by omega,by simp,HB4,Lib.hid (stP_step HZ.out HPZ.out HEv.out.symm)⟩
     case measure=>simp [intOf];omega
    ·have hz1:¬Ev=0:=hz0
     have HE:Hid (stE c=Ev):=Lib.hid ((stE_at HZ.out HPZ.out (by rw [←HEv.out];exact hz0)).trans HEv.out.symm)
     go_wp2_with fail
     go_ret
     rw [HE.out]
     exact⟨rfl,HB0.out.1.trans (HB4.out.mono HB0.out.1.size)⟩
   ·have h0':decide (0≤s1)=false:=decide_eq_false h0
    refine wp_region_held_drew (S:=(fun w'=>w'.cell? ⟨w.heap.size,0,none⟩=some (.int .i64 N)∧w'.cell? ⟨wr.heap.size,0,none⟩=some (.int .i64 s1)∧w'.cell? ⟨wr.heap.size,2,none⟩=some (.int .i64 s3))) (by kernel_rfl) ?_ (fun hHeld=> ?_)
    ·exact FA.out _ (Below.refl _ _).drew
    refine wpAnyH_take (i:=0) (oi:=?_) (v:=?_) ?_ (by kernel_rfl) (by kernel_rfl) (by kernel_rfl) ?_ (Or.inl ⟨?_,?_⟩) (by assumption) ?_
    rotate_left 2
    ·simp only [List.getElem?_toArray,List.getElem?_cons_zero,List.getElem?_cons_succ];rfl
    ·exact fun _ _ _ h=>h
    ·rfl
    ·intro w' hSw;(try dsimp only at hSw);(first | (go_simp;done) | (go_simp;with_reducible rfl))
    try simp only [Act.put,List.setIfInBounds_toArray,List.set_cons_zero,List.set_cons_succ]
    refine wpAnyH_take (i:=1) (oi:=?_) (v:=?_) ?_ (by kernel_rfl) (by kernel_rfl) (by kernel_rfl) ?_ (Or.inl ⟨?_,?_⟩) (by assumption) ?_
    rotate_left 2
    ·simp only [List.getElem?_toArray,List.getElem?_cons_zero,List.getElem?_cons_succ];rfl
    ·exact fun _ _ _ h=>h
    ·rfl
    ·intro w' hSw;(try dsimp only at hSw);(first | (go_simp;done) | (go_simp;with_reducible rfl))
    try simp only [Act.put,List.setIfInBounds_toArray,List.set_cons_zero,List.set_cons_succ]
    refine wpAnyH_take (i:=2) (oi:=?_) (v:=?_) ?_ (by kernel_rfl) (by kernel_rfl) (by kernel_rfl) ?_ (Or.inl ⟨?_,?_⟩) (by assumption) ?_
    rotate_left 2
    ·simp only [List.getElem?_toArray,List.getElem?_cons_zero,List.getElem?_cons_succ];rfl
    ·exact fun _ _ _ h=>h
    ·rfl
    ·intro w' hSw;(try dsimp only at hSw);(first | (go_simp;done) | (go_simp;with_reducible rfl))
    try simp only [Act.put,List.setIfInBounds_toArray,List.set_cons_zero,List.set_cons_succ]
    refine wpAnyH_take (i:=3) (oi:=?_) (v:=?_) ?_ (by kernel_rfl) (by kernel_rfl) (by kernel_rfl) ?_ (Or.inl ⟨?_,?_⟩) (by assumption) ?_
    rotate_left 2
    ·simp only [List.getElem?_toArray,List.getElem?_cons_zero,List.getElem?_cons_succ];rfl
    ·exact fun _ _ _ h=>h
    ·rfl
    ·intro w' hSw;(try dsimp only at hSw);(first | (go_simp;done) | (go_simp;with_reducible rfl))
    try simp only [Act.put,List.setIfInBounds_toArray,List.set_cons_zero,List.set_cons_succ]
    refine wpAnyH_take (i:=4) (oi:=?_) (v:=undef) ?_ (by kernel_rfl) (by kernel_rfl) (by kernel_rfl) ?_ (Or.inr ⟨?_,rfl⟩) (by assumption) ?_
    rotate_left 1
    ·simp only [List.getElem?_toArray,List.getElem?_cons_zero,List.getElem?_cons_succ];rfl
    ·exact fun _ _ _ h=>h
    ·rfl
    try simp only [Act.put,List.setIfInBounds_toArray,List.set_cons_zero,List.set_cons_succ]
    refine wpAnyH_take (i:=5) (oi:=?_) (v:=undef) ?_ (by kernel_rfl) (by kernel_rfl) (by kernel_rfl) ?_ (Or.inr ⟨?_,rfl⟩) (by assumption) ?_
    rotate_left 1
    ·simp only [List.getElem?_toArray,List.getElem?_cons_zero,List.getElem?_cons_succ];rfl
    ·exact fun _ _ _ h=>h
    ·rfl
    try simp only [Act.put,List.setIfInBounds_toArray,List.set_cons_zero,List.set_cons_succ]
    refine wpAnyH_take (i:=6) (oi:=?_) (v:=undef) ?_ (by kernel_rfl) (by kernel_rfl) (by kernel_rfl) ?_ (Or.inr ⟨?_,rfl⟩) (by assumption) ?_
    rotate_left 1
    ·simp only [List.getElem?_toArray,List.getElem?_cons_zero,List.getElem?_cons_succ];rfl
    ·exact fun _ _ _ h=>h
    ·rfl
    try simp only [Act.put,List.setIfInBounds_toArray,List.set_cons_zero,List.set_cons_succ]
    refine wpAnyH_take (i:=7) (oi:=?_) (v:=undef) ?_ (by kernel_rfl) (by kernel_rfl) (by kernel_rfl) ?_ (Or.inr ⟨?_,rfl⟩) (by assumption) ?_
    rotate_left 1
    ·simp only [List.getElem?_toArray,List.getElem?_cons_zero,List.getElem?_cons_succ];rfl
    ·exact fun _ _ _ h=>h
    ·rfl
    try simp only [Act.put,List.setIfInBounds_toArray,List.set_cons_zero,List.set_cons_succ]
    refine wpAnyH_take (i:=8) (oi:=?_) (v:=undef) ?_ (by kernel_rfl) (by kernel_rfl) (by kernel_rfl) ?_ (Or.inr ⟨?_,rfl⟩) (by assumption) ?_
    rotate_left 1
    ·simp only [List.getElem?_toArray,List.getElem?_cons_zero,List.getElem?_cons_succ];rfl
    ·exact fun _ _ _ h=>h
    ·rfl
    try simp only [Act.put,List.setIfInBounds_toArray,List.set_cons_zero,List.set_cons_succ]
    refine wpAnyH_take (i:=9) (oi:=?_) (v:=?_) ?_ (by kernel_rfl) (by kernel_rfl) (by kernel_rfl) ?_ (Or.inl ⟨?_,?_⟩) (by assumption) ?_
    rotate_left 2
    ·simp only [List.getElem?_toArray,List.getElem?_cons_zero,List.getElem?_cons_succ];rfl
    ·exact fun _ _ _ h=>h
    ·rfl
    ·intro w' hSw;(try dsimp only at hSw);(first | (go_simp;done) | (go_simp;with_reducible rfl))
    try simp only [Act.put,List.setIfInBounds_toArray,List.set_cons_zero,List.set_cons_succ]
    refine wpAnyH_take (i:=11) (oi:=?_) (v:=?_) ?_ (by kernel_rfl) (by kernel_rfl) (by kernel_rfl) ?_ (Or.inl ⟨?_,?_⟩) (by assumption) ?_
    rotate_left 2
    ·simp only [List.getElem?_toArray,List.getElem?_cons_zero,List.getElem?_cons_succ];rfl
    ·exact fun _ _ _ h=>h
    ·rfl
    ·intro w' hSw;(try dsimp only at hSw);(first | (go_simp;done) | (go_simp;with_reducible rfl))
    try simp only [Act.put,List.setIfInBounds_toArray,List.set_cons_zero,List.set_cons_succ]
    refine wpAnyH_take (i:=12) (oi:=?_) (v:=?_) ?_ (by kernel_rfl) (by kernel_rfl) (by kernel_rfl) ?_ (Or.inl ⟨?_,?_⟩) (by assumption) ?_
    rotate_left 2
    ·simp only [List.getElem?_toArray,List.getElem?_cons_zero,List.getElem?_cons_succ];rfl
    ·exact fun _ _ _ h=>h
    ·rfl
    ·intro w' hSw;(try dsimp only at hSw);(first | (go_simp;done) | (go_simp;with_reducible rfl))
    try simp only [Act.put,List.setIfInBounds_toArray,List.set_cons_zero,List.set_cons_succ]
    refine wpAnyH_ready (rs:=[10]) (by kernel_rfl) (by simp) ?_
    refine AllReadyH.cons (o:=?_) ?_ (fun K hK=> ?_) AllReadyH.nil
    rotate_left 1
    ·simp only [List.getElem?_toArray,List.getElem?_cons_zero,List.getElem?_cons_succ];rfl
    go_simp
    go_at_call 61
    refine (must_any false _).mono ?_
    rintro e w1 ⟨rfl,rfl⟩
    refine hK.out _ _ ?_ (fun hHeld=> ?_)
    ·exact FA.out _ (Below.refl _ _).drew
    clear hK K
    try simp only [Act.put,List.setIfInBounds_toArray,List.set_cons_zero,List.set_cons_succ]
    refine wpAnyH_ready (rs:=[13]) (by kernel_rfl) (by simp) ?_
    refine AllReadyH.cons (o:=?_) ?_ (fun K hK=> ?_) AllReadyH.nil
    rotate_left 1
    ·simp only [List.getElem?_toArray,List.getElem?_cons_zero,List.getElem?_cons_succ];rfl
    go_simp
    go_at_call 58
    refine (within_any s3 1 100 _).mono ?_
    rintro e w1 ⟨rfl,rfl⟩
    refine hK.out _ _ ?_ (fun hHeld=> ?_)
    ·exact FA.out _ (Below.refl _ _).drew
    clear hK K
    try simp only [Act.put,List.setIfInBounds_toArray,List.set_cons_zero,List.set_cons_succ]
    refine wpAnyH_ready (rs:=[14]) (by kernel_rfl) (by simp) ?_
    refine AllReadyH.cons (o:=?_) ?_ (fun K hK=> ?_) AllReadyH.nil
    rotate_left 1
    ·simp only [List.getElem?_toArray,List.getElem?_cons_zero,List.getElem?_cons_succ];rfl
    go_simp
    refine hK.out _ _ ?_ (fun hHeld=> ?_)
    ·exact FA.out _ ((Below.refl _ _).alloc (Nat.le_refl _) _).drew
    clear hK K
    try simp only [Act.put,List.setIfInBounds_toArray,List.set_cons_zero,List.set_cons_succ]
    refine wpAnyH_ready (rs:=[15]) (by kernel_rfl) (by simp) ?_
    refine AllReadyH.cons (o:=?_) ?_ (fun K hK=> ?_) AllReadyH.nil
    rotate_left 1
    ·simp only [List.getElem?_toArray,List.getElem?_cons_zero,List.getElem?_cons_succ];rfl
    go_simp
    go_at_call 70
    refine (first2_any (mustE false) (withE s3 1 100) w2.drew).mono ?_
    rintro e w3 ⟨rfl,hb3⟩
    have HF3:Hid (Below w2.heap.size w2 w3):=Lib.hid ((Below.refl _ _).drew.trans hb3)
    refine hK.out _ _ ?_ (fun hHeld=> ?_)
    ·exact FA.out _ HF3.out
    clear hK K
    try simp only [Act.put,List.setIfInBounds_toArray,List.set_cons_zero,List.set_cons_succ]
    refine wpAnyH_take (i:=16) (oi:=?_) (v:=?_) ?_ (by kernel_rfl) (by kernel_rfl) (by kernel_rfl) ?_ (Or.inl ⟨?_,?_⟩) (by assumption) ?_
    rotate_left 2
    ·simp only [List.getElem?_toArray,List.getElem?_cons_zero,List.getElem?_cons_succ];rfl
    ·exact fun _ _ _ h=>h
    ·rfl
    ·intro w' hSw;(try dsimp only at hSw);(first | (go_simp;done) | (go_simp;with_reducible rfl))
    try simp only [Act.put,List.setIfInBounds_toArray,List.set_cons_zero,List.set_cons_succ]
    refine wpAnyH_done (by kernel_rfl) ?_ _
    have HEv:Hid (firstE [mustE false,withE s3 1 100]=stP c (s1,s2,s3)):=Lib.hid (by unfold stP;rw [decide_eq_false h0];rfl)
    generalize firstE [mustE false,withE s3 1 100]=Ev at HEv ⊢
    have HB4:Hid (Below w0.heap.size w0 w3):=Lib.hid (HB2.out.trans (HF3.out.mono HB2.out.size))
    by_cases hz0:Ev=0
    ·subst hz0
     go_wp2_with fail
     go_roundw
     case rel=>exact⟨k+1,by omega,by simp,HB4,Lib.hid (stP_step HZ.out HPZ.out HEv.out.symm)⟩
     case measure=>simp [intOf];omega
    ·have hz1:¬Ev=0:=hz0
     have HE:Hid (stE c=Ev):=Lib.hid ((stE_at HZ.out HPZ.out (by rw [←HEv.out];exact hz0)).trans HEv.out.symm)
     go_wp2_with fail
     go_ret
     rw [HE.out]
     exact⟨rfl,HB0.out.1.trans (HB4.out.mono HB0.out.1.size)⟩
  ·have hlt':¬(k:Int)<tn:=by omega
   obtain rfl:k=tn:=by omega
   have HE:Hid (stE c=0):=Lib.hid (stE_zero (by have:=HZ.out;rwa [List.take_of_length_le (by rw [HT.out.1];omega)] at this))
   go_wp2_with fail
   go_ret
   rw [HE.out]
   exact⟨rfl,HB0.out.1.trans (HB.out.mono HB0.out.1.size)⟩
end Go.Proofs.YtdilbjikeilhbaaGreatDoor
