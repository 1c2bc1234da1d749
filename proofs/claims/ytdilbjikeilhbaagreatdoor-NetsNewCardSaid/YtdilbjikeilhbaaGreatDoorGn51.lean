import Derived.Test.YtdilbjikeilhbaaGreatDoorGn48
import Derived.Test.YtdilbjikeilhbaaGreatDoorGn38
import Derived.Test.YtdilbjikeilhbaaGreatDoorGn49
import Derived.Test.YtdilbjikeilhbaaGreatDoorGn37
import Derived.Test.YtdilbjikeilhbaaGreatDoorGn50
namespace Go.Proofs.YtdilbjikeilhbaaGreatDoor
open Go.RowKit
set_option linter.unusedVariables false
set_option linter.unusedSimpArgs false
set_option maxRecDepth 100000
structure StB (b:Nat) (cv sv:List Value) (ea:Option Addr) (en ec:Nat) (nd lk:Int) (sa:Option Addr) (sn sc:Nat) (w:World):Prop where
 c1:hasRow w ⟨b,0,none⟩ 9=true
 c2:rowOf w ⟨b,0,none⟩ 9=cv
 s1:hasRow w ⟨b,0,none⟩ 13=true
 s2:rowOf w ⟨b,0,none⟩ 13=sv
 e:w.cell? ⟨b,9,none⟩=some (.slice ea en ec)
 l:w.cell? ⟨b,12,none⟩=some (.slice sa sn sc)
 f1:hasRow w ⟨b,10,none⟩ 3=true
 f2:rowOf w ⟨b,10,none⟩ 3=[.int .i64 nd,.int .i64 lk,.slice sa sn sc]
theorem StB.of {b:Nat} {cv sv:List Value} {ea:Option Addr} {en ec:Nat} {nd lk:Int} {sa:Option Addr} {sn sc:Nat} {w:World} (hc:cv.length=9) (hs:sv=stpV cv ea en ec nd lk sa sn sc) (k:Blk w b 31 sv.toArray):StB b cv sv ea en ec nd lk sa sn sc w:=by
 have hsl:sv.length=13:=by rw [hs];simp [stpV,hc]
 obtain⟨q1,q2,-⟩:=k.whole hsl
 obtain⟨q3,q4⟩:=row_part q1 q2 10 3 (by omega)
 obtain⟨q5,q6⟩:=row_part q1 q2 0 9 (by omega)
 refine⟨by simpa using q5,?_,q1,q2,?_,?_,by simpa using q3,?_⟩
 ·have:(sv.drop 0).take 9=cv:=by rw [List.drop_zero,hs];unfold stpV;rw [←hc,List.take_left]
  rw [←this];simpa using q6
 ·rw [k.cell,hs];simp [stpV,hc]
 ·rw [k.cell,hs];simp [stpV,hc]
 ·have:(sv.drop 10).take 3=[.int .i64 nd,.int .i64 lk,.slice sa sn sc]:=by
   rw [hs,stpV,List.drop_append,List.drop_eq_nil_of_le (by omega),hc];rfl
  rw [←this];simpa using q4
theorem StB.held {b:Nat} {cv sv:List Value} {ea:Option Addr} {en ec:Nat} {nd lk:Int} {sa:Option Addr} {sn sc:Nat} {w:World} (h:StB b cv sv ea en ec nd lk sa sn sc w):hasRow w ⟨b,0,none⟩ 9=true∧rowOf w ⟨b,0,none⟩ 9=cv∧hasRow w ⟨b,0,none⟩ 13=true∧rowOf w ⟨b,0,none⟩ 13=sv∧hasRow w ⟨b,10,none⟩ 3=true∧rowOf w ⟨b,10,none⟩ 3=[.int .i64 nd,.int .i64 lk,.slice sa sn sc]:=⟨h.c1,h.c2,h.s1,h.s2,h.f1,h.f2⟩
theorem RdE.drew {S:Nat→Prop} {w:World} {a:Option Addr} {n:Nat} {X:List (Int×List Value)} (h:RdE S w a n X):RdE S w.drew a n X:=h.below (Below.refl _ _).drew
set_option maxHeartbeats 4000000 in
theorem netsNew_any (S:Nat→Prop) (A:CfA) (c:Cfg) (w:World) (h:CfR S w A c) (hsg:SgW w) (R:Nat→Prop) (ea:Option Addr) (en ec:Nat) (X:List (Int×List Value)) (hX:RdE R w ea en X) (nd lk:Int) (R2:Nat→Prop) (sa:Option Addr) (sn sc:Nat) (L:List (List Value)) (hL:RdF R2 w sa sn 5 L) (ht:SpT L) :
 Calls Tryz.prog 3 #[.agg (stpV (cfV A c) ea en ec nd lk sa sn sc).toArray] w fun e w'=>e=.returned (.bool true)∧Below w.heap.size w w':=by
 obtain⟨cv,hcv⟩:∃cv,Hid (cv=cfV A c):=⟨_,Lib.hid rfl⟩
 have hcvl:cv.length=9:=by rw [hcv.out];rfl
 rw [←hcv.out]
 obtain⟨sv,hsv⟩:∃sv,Hid (sv=stpV cv ea en ec nd lk sa sn sc):=⟨_,Lib.hid rfl⟩
 rw [←hsv.out]
 have hXL:X.length=en:=by have:=hX.2.1;simpa using this
 obtain⟨w0,hw0⟩:∃w0,Hid (w0=w.alloc (.cells sv.toArray 31)):=⟨_,Lib.hid rfl⟩
 have hb0:Below w.heap.size w w0:=by rw [hw0.out];exact balP (Below.refl w.heap.size w) _
 have HW:Hid (∀w',Below w0.heap.size w0 w'→Below w.heap.size w w'):=Lib.hid fun w' hb=>hb0.trans (hb.mono hb0.size)
 obtain⟨b,hbb⟩:∃b,Hid (b=w.heap.size):=⟨_,Lib.hid rfl⟩
 have k0:Blk w0 b 31 sv.toArray:=by rw [hw0.out,hbb.out];exact Blk.new _ _ _
 have HF:Hid (∀w',Below w0.heap.size w0 w'→StB b cv sv ea en ec nd lk sa sn sc w'):=Lib.hid fun w' hw=>StB.of hcvl hsv.out (k0.below hw k0.lt)
 replace h:=h.below hb0
 replace hsg:=hsg.below hb0
 replace hX:=hX.below hb0
 replace hL:=hL.below hb0
 have HG:=Lib.hid fun w=>great04_any A c w
 rw [←hcv.out] at HG
 have HL:Hid (∀w',Below w0.heap.size w0 w'→Calls Tryz.prog 6 #[] w' fun e w''=>e=.returned (.bool true)∧Below w0.heap.size w0 w''):=Lib.hid fun w' hb=>(lives31_any w' (hsg.below hb)).mono fun e w'' h=>⟨h.1,hb.trans (h.2.mono hb.size)⟩
 have HN:Hid (en≤200→sn≤100→∀w',Below w0.heap.size w0 w'→Calls Tryz.prog 7 #[.agg sv.toArray] w' fun e w''=> ∃(v:Option Addr) (k:Int),e=.returned (.tuple #[.pointer v,.int .i64 k])∧NetE c X nd lk sn k∧(v=none↔k≠0)∧Below w0.heap.size w0 w''):=Lib.hid fun h2 h1 w' hb=>by
  rw [hsv.out,hcv.out]
  exact (nnew31_any S A c w' (h.below hb) (hsg.below hb) R ea en ec X (hX.below hb) h2 nd lk R2 sa sn sc L (hL.below hb) h1).mono fun e w'' ⟨v,k,e1,e2,e3,e4⟩=>⟨v,k,e1,e2,e3,hb.trans (e4.mono hb.size)⟩
 have HE:Hid (en≤200→∀w',Below w0.heap.size w0 w'→Calls Tryz.prog 9 #[.agg sv.toArray] w' fun e w''=> ∃(a:Option Addr) (cap:Nat),e=.returned (.slice a en cap)∧RdE (fun _=>True) w'' a en X∧Below w0.heap.size w0 w''):=Lib.hid fun h2 w' hb=>by
  rw [hsv.out]
  exact (entries_any cv hcvl R ea en ec nd lk sa sn sc X w' (hX.below hb) h2).mono fun e w'' ⟨a,cap,e1,e2,e3⟩=>by
   rw [hXL] at e1 e2
   exact⟨a,cap,e1,⟨e2.1,e2.2.mono fun _ _ _=>trivial⟩,hb.trans (e3.mono hb.size)⟩
 have HO:Hid (sn≤100→∀w' a,Below w0.heap.size w0 w'→RdE (fun _=>True) w' a en X→Calls Tryz.prog 10 #[.agg #[.int .i64 nd,.int .i64 lk,.slice sa sn sc]] w' fun e w''=> ∃(sp:Option Addr) (cp:Nat),e=.returned (.agg #[.int .i64 nd,.int .i64 lk,.slice sp sn cp])∧RdE (fun _=>True) w'' a en X∧Below w0.heap.size w0 w''):=Lib.hid fun h1 w' a hb hx=>
  (other29_any R2 nd lk sa sn sc L w' (hL.below hb) ht h1).mono fun e w'' ⟨sp,cp,e1,e2⟩=>⟨sp,cp,e1,hx.below e2,hb.trans (e2.mono hb.size)⟩
 have HR:Hid (en≤200→sn≤100→∀k,NetE c X nd lk sn k→∀w' a cap sp cp,Below w0.heap.size w0 w'→RdE (fun _=>True) w' a en X→Calls Tryz.prog 8 #[.agg cv.toArray,.slice a en cap,.agg #[.int .i64 nd,.int .i64 lk,.slice sp sn cp]] w' fun e w''=> ∃v,e=.returned (.tuple #[v,.int .i64 k])∧Below w0.heap.size w0 w''):=Lib.hid fun h2 h1 k hk w' a cap sp cp hb hx=>by
  rw [hcv.out]
  exact (rnew31_any S A c w' (h.below hb) (fun _=>True) a en cap X hx h2 nd lk sp sn cp h1).mono fun e w'' ⟨v,k',e1,e2,e3⟩=>⟨v,by rw [e1,e2.one hk],hb.trans (e3.mono hb.size)⟩
 clear h hsg hX hL ht hb0 k0 hXL
 go_enter Tryz.func3,Tryz.ntmps3
 go_upto_region 1 with fail
 rw [←hw0.out,←hbb.out]
 obtain⟨a1,a2,a3,a4,a5,a6,a7,a8⟩:=HF.out w0 (Below.refl _ _)
 go_wp2_with fail
 (with_reducible refine (HG.out _).mono ?_)
 rintro e w1 ⟨bb,rfl,hb1⟩
 obtain⟨d1,d2,d3,d4,d5,d6,d7,d8⟩:=HF.out w1 hb1
 have HB1:=Lib.hid hb1
 clear hb1 a1 a2 a3 a4 a5 a6 a7 a8
 cases bb with
 | true=>
   go_wp2_with fail
   (with_reducible refine (HL.out _ HB1.out).mono ?_)
   rintro e w2 ⟨rfl,hb2⟩
   have H2:=Lib.hid hb2
   clear hb2
   go_wp2_with fail
   go_ret
   exact⟨rfl,HW.out _ H2.out⟩
 | false=>
   by_cases h2:(200:Int)<en
   ·go_wp2_with fail
    (with_reducible refine (HL.out _ HB1.out).mono ?_)
    rintro e w2 ⟨rfl,hb2⟩
    have H2:=Lib.hid hb2
    clear hb2
    go_wp2_with fail
    go_ret
    exact⟨rfl,HW.out _ H2.out⟩
   by_cases h1:(100:Int)<sn
   ·go_wp2_with fail
    (with_reducible refine (HL.out _ HB1.out).mono ?_)
    rintro e w2 ⟨rfl,hb2⟩
    have H2:=Lib.hid hb2
    clear hb2
    go_wp2_with fail
    go_ret
    exact⟨rfl,HW.out _ H2.out⟩
   have q2:en≤200:=by omega
   have q1:sn≤100:=by omega
   go_wp2_with fail
   (with_reducible refine (HN.out q2 q1 _ HB1.out).mono ?_)
   rintro e w2 ⟨v,k,rfl,hk,hv,hb2⟩
   have H2:=Lib.hid hb2
   have HK:=Lib.hid (And.intro hk hv)
   have HRK:=Lib.hid (HR.out q2 q1 k hk)
   have HF2:=Lib.hid (HF.out w2 hb2)
   obtain⟨g1,g2,g3,g4,g5,g6,g7,g8⟩:=HF.out w2 hb2
   clear hb2 hk hv d1 d2 d3 d4 d5 d6 d7 d8
   have HE2:=Lib.hid (HE.out q2)
   have HO2:=Lib.hid (HO.out q1)
   go_upto_region 4 with fail
   go_region_held3 (fun w'=>hasRow w' ⟨b,0,none⟩ 9=true∧rowOf w' ⟨b,0,none⟩ 9=cv∧hasRow w' ⟨b,0,none⟩ 13=true∧rowOf w' ⟨b,0,none⟩ 13=sv∧hasRow w' ⟨b,10,none⟩ 3=true∧rowOf w' ⟨b,10,none⟩ 3=[.int .i64 nd,.int .i64 lk,.slice sa sn sc])
    (((with_reducible refine StB.held (HF.out _ ?_));repeat' (with_reducible first | exact H2.out | exact H3.out.1 | exact H4.out.1 | exact H5.out | refine Below.drew ?_)))
    ((first
      | (go_at_call 9;(with_reducible refine (HE2.out _ (by repeat' (with_reducible first | exact H2.out | refine Below.drew ?_))).mono ?_);rintro e w3 ⟨a3,p3,rfl,hx3,hb3⟩;have H3:=Lib.hid (And.intro hb3 hx3);clear hb3 hx3)
      | (go_at_call 10;(with_reducible refine (HO2.out _ a3 (by repeat' (with_reducible first | exact H3.out.1 | refine Below.drew ?_)) (by with_reducible first | exact H3.out.2 | exact H3.out.2.drew)).mono ?_);rintro e w4 ⟨a4,p4,rfl,hx4,hb4⟩;have H4:=Lib.hid (And.intro hb4 hx4);clear hb4 hx4)
      | (go_at_call 8;(with_reducible refine (HRK.out _ a3 p3 a4 p4 (by repeat' (with_reducible first | exact H4.out.1 | refine Below.drew ?_)) (by with_reducible first | exact H4.out.2 | exact H4.out.2.drew)).mono ?_);rintro e w5 ⟨v5,rfl,hb5⟩;have H5:=Lib.hid hb5;clear hb5)))
   by_cases hk0:k=0
   ·obtain⟨ad,hv⟩:∃ad,v=some ad:=by
     cases v with
     | none=>exact absurd hk0 (HK.out.2.1 rfl)
     | some ad=>exact⟨ad,rfl⟩
    subst hk0 hv
    go_wp2_with fail
    (with_reducible refine (HL.out _ H5.out).mono ?_)
    rintro e w6 ⟨rfl,hb6⟩
    have H6:=Lib.hid hb6
    clear hb6
    go_wp2_with fail
    go_ret
    exact⟨rfl,HW.out _ H6.out⟩
   ·obtain rfl:=HK.out.2.2 hk0
    go_wp2_with fail
    (with_reducible refine (HL.out _ H5.out).mono ?_)
    rintro e w6 ⟨rfl,hb6⟩
    have H6:=Lib.hid hb6
    clear hb6
    go_wp2_with fail
    go_ret
    refine⟨?_,HW.out _ H6.out⟩
    show Ending.returned (.bool (k != 0))=_
    rw [show (k != 0)=true by simpa using hk0]
end Go.Proofs.YtdilbjikeilhbaaGreatDoor
