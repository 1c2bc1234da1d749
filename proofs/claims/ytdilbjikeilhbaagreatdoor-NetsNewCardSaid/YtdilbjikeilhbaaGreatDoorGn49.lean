import Derived.Test.YtdilbjikeilhbaaGreatDoorGn37
namespace Go.Proofs.YtdilbjikeilhbaaGreatDoor
open Go.RowKit
set_option linter.unusedVariables false
set_option linter.unusedSimpArgs false
set_option maxRecDepth 100000
def rn31Z:List Value:=cfZ++ [.slice none 0 0,.slice none 0 0,nilP,.slice none 0 0]
theorem bt_rn31:buildT Tryz.prog 117 rn31Z [(0,9),(9,1),(10,1),(11,1),(12,1)]:=⟨by kernel_rfl,by kernel_rfl⟩
theorem app_rnd:AppOk Tryz.prog 113 119 1:=appOk_of Tryz.underlying113 (by kernel_rfl)
theorem app_rent:AppOk Tryz.prog 118 110 6:=appOk_of Tryz.underlying118 (by kernel_rfl)
theorem ag_rent:aggOf Tryz.prog 110 6=true:=by kernel_rfl
section
variable (ρ:Operand→Value) (d:Option Tmp) (x y:Operand) (ty:TypeId) (s:String) (af:Array Edge) (g:Option (Nat×Bool)) (w:World)
@[go_sem ↓] theorem bd_rn31 (h0:lenC (ρ x) 9=true) (h1:lenC (ρ y) 1=true):(execOp ρ { dst:=d,op:=.build 117 #[(0,x),(2,y)],type:=ty,pos:=s,after:=af,guard:=g }).run Tryz.prog w=.ok (.value (.agg (cellsL (ρ x)++(Value.slice none 0 0 :: (cellsL (ρ y)++ [Value.pointer none,Value.slice none 0 0]))).toArray)) w:=
 exec_build ρ d _ ty s af g w (by
  have e0:=lenC_cells h0
  have e1:=lenC_cells h1
  obtain⟨u,hu⟩:=List.length_eq_one_iff.1 e1
  rw [built_of bt_rn31]
  simp only [List.map_toArray,List.map_cons,List.map_nil]
  rw [fill_one _ _ 0 0 9 _ _ rfl e0 (by decide),fill_one _ _ 2 10 1 _ _ rfl e1 (by rw [len_spl (by rw [e0];decide)];decide),fill_nil,hu]
  have e2:spl rn31Z 0 (cellsL (ρ x))=cellsL (ρ x)++ [Value.slice none 0 0,Value.slice none 0 0,nilP,Value.slice none 0 0]:=by simp only [spl,e0];rfl
  rw [e2]
  simp only [spl]
  rw [List.take_append,List.take_of_length_le (by omega),e0,List.drop_append,List.drop_eq_nil_of_le (by simp;omega),e0]
  simp [nilP])
@[go_sem ↓] theorem ld_rent (h:hasRowV w 6 (ρ x)=true):(execOp ρ { dst:=d,op:=.load 110 x,type:=ty,pos:=s,after:=af,guard:=g }).run Tryz.prog w=.ok (.value (.agg (rowV w 6 (ρ x)).toArray)) w:=exec_load ag_rent ρ d x ty s af g w h
@[go_sem ↓] theorem bs_rent (h:lenC (ρ x) 6=true):(execOp ρ { dst:=d,op:=.buildSlice 118 1 #[(0,x)],type:=ty,pos:=s,after:=af,guard:=g }).run Tryz.prog w=.ok (.value (.slice (some ⟨w.heap.size,0,none⟩) 1 1)) (w.alloc (.cells (cellsL (ρ x)).toArray 110)):=by
 have:=exec_bslice (n:=6) Tryz.underlying118 (by kernel_rfl) ρ d 1 [x] #[(0,x)] ty s af g w (by simp [iparts]) rfl (by omega) (by omega) (by simp [h])
 simpa using this
end
theorem balP2 {w0 w2 w':World} (h:Below w0.heap.size w0 w') (_:w0.heap.size≤w2.heap.size) (o:Obj):Below w0.heap.size w0 (w'.alloc o):=h.alloc h.size o
def RNew31 (c:Cfg) (X:List (Int×List Value)) (nd lk:Int) (m:Nat) (w:World) (e:Ending) (w':World):Prop:=∃v k,e=.returned (.tuple #[v,.int .i64 k])∧NetE c X nd lk m k∧Below w.heap.size w w'
structure RnI (w3:World) (nb k:Nat) (cv:List Value) (on v:Value) (wr:World):Prop where
 own:∃vs,wr.ownsRow w3.heap.size 119 1 v k vs
 b:Blk wr nb 117 (cv++ [v,on,.pointer none,.slice none 0 0]).toArray
 c:Chg (· =nb) w3 wr
section
variable {w3 wr wm w1:World} {nb k:Nat} {cv:List Value} {on v:Value}
theorem RnI.below (h:RnI w3 nb k cv on v wr) (hb:Below wr.heap.size wr w1):RnI w3 nb k cv on v w1:=by
 obtain⟨⟨vs,h1⟩,h2,h3⟩:=h
 exact⟨⟨vs,own_block h1 fun q hq=>hb.block q (h1.lt q hq).2⟩,h2.below hb h2.lt,h3.trans (Chg.of_below hb _)⟩
theorem RnI.cell9 (h:RnI w3 nb k cv on v wr) (hc:cv.length=9):wr.cell? ⟨nb,9,none⟩=some v∧wr.frozen? ⟨nb,9,none⟩=false∧wr.cell? ⟨nb,11,none⟩=some (.pointer none)∧wr.frozen? ⟨nb,11,none⟩=false:=
 ⟨(h.b.cell 9).trans (by simp [hc]),h.b.frozen 9,(h.b.cell 11).trans (by simp [hc]),h.b.frozen 11⟩
theorem RnI.push (h:RnI w3 nb k cv on v wr) (h3:nb<w3.heap.size) (hc:cv.length=9) (hm:Below wr.heap.size wr wm) {g cap:Nat} {xs:List Value}
 (ho:w1.ownsRow w3.heap.size 119 1 (.slice (some ⟨g,0,none⟩) (k+1) cap) (k+1) xs) (hg:wm.grownBy w1 v.ownBlock) :
 w1.cell? ⟨nb,9,none⟩=some v∧w1.frozen? ⟨nb,9,none⟩=false∧RnI w3 nb (k+1) cv on (.slice (some ⟨g,0,none⟩) (k+1) cap) (w1.setCell ⟨nb,9,none⟩ (.slice (some ⟨g,0,none⟩) (k+1) cap)):=by
 obtain⟨⟨vs,h1⟩,h2,h5⟩:=h
 have hms:=hm.size
 have hc5:=h5.size
 have hk1:∀b,b<w3.heap.size→w1.heap[b]? =wr.heap[b]?:=fun b hb=>(hg.block b (by omega) (fun e=>by have:=(h1.lt b e.symm).1;omega)).trans (hm.block b (by omega))
 have hb1:Blk w1 nb 117 (cv++ [v,on,.pointer none,.slice none 0 0]).toArray:=(hk1 _ h3).trans h2
 refine⟨(hb1.cell 9).trans (by simp [hc]),hb1.frozen 9,⟨xs,own_block ho fun q hq=> ?_⟩,?_,?_⟩
 ·have:=(ho.lt q hq).1
  exact Below.heap_setCell _ _ _ _ (by show q≠nb;omega)
 ·have:=hb1.set_ 9 (.slice (some ⟨g,0,none⟩) (k+1) cap)
  rwa [List.setIfInBounds_toArray,List.set_append_right _ _ (by omega),hc] at this
 ·have hc1:Chg (· =nb) w3 w1:=⟨hg.os.trans (hm.os.trans h5.os),hg.tape.trans (hm.tape.trans h5.tape),hg.output.trans (hm.output.trans h5.output),by have:=hg.size;omega,fun i hi hn=>(hk1 i hi).trans (h5.block i hi hn)⟩
  exact hc1.set_at 9 _
end
@[go_sem ↓] theorem bs_rnd (ρ:Operand→Value) (d:Option Tmp) (x:Operand) (ty:TypeId) (s:String) (af:Array Edge) (g:Option (Nat×Bool)) (w:World) (h:lenC (ρ x) 1=true):(execOp ρ { dst:=d,op:=.buildSlice 113 1 #[(0,x)],type:=ty,pos:=s,after:=af,guard:=g }).run Tryz.prog w=.ok (.value (.slice (some ⟨w.heap.size,0,none⟩) 1 1)) (w.alloc (.cells (cellsL (ρ x)).toArray 119)):=by
 have:=exec_bslice (n:=1) Tryz.underlying113 (by kernel_rfl) ρ d 1 [x] #[(0,x)] ty s af g w (by simp [iparts]) rfl (by omega) (by omega) (by simp [h])
 simpa using this
set_option maxHeartbeats 4000000 in
theorem rnew31_any (S:Nat→Prop) (A:CfA) (c:Cfg) (w:World) (h:CfR S w A c) (R:Nat→Prop) (a:Option Addr) (nl ncap:Nat) (X:List (Int×List Value)) (hX:RdE R w a nl X) (hnl:nl≤200) (nd lk:Int) (sp:Option Addr) (m cp:Nat) (hm:m≤100) :
 Calls Tryz.prog 8 #[.agg (cfV A c).toArray,.slice a nl ncap,.agg #[.int .i64 nd,.int .i64 lk,.slice sp m cp]] w (RNew31 c X nd lk m w):=by
 have HCF:=Lib.hid h
 have HX:=Lib.hid hX
 have hXl:X.length=nl:=by have:=hX.2.1;simpa using this
 have HXL:=Lib.hid hXl
 obtain⟨cv,hcv⟩:∃cv,Hid (cv=cfV A c):=⟨_,Lib.hid rfl⟩
 have hcvl:cv.length=9:=by rw [hcv.out];rfl
 have hcva:cv.all cell1=true:=by rw [hcv.out];rfl
 have HR4:Hid (∀w',Below w.heap.size w w'→Calls Tryz.prog 24 #[.agg cv.toArray] w' (NewR c w')):=Lib.hid fun w' hb=>by rw [hcv.out];exact rnew04_any S A c w' (h.below hb)
 rw [←hcv.out]
 obtain⟨fv,hfv⟩:∃fv:List Value,Hid (fv=[.int .i64 nd,.int .i64 lk,.slice sp m cp]):=⟨_,Lib.hid rfl⟩
 have hb1:=balP (Below.refl w.heap.size w) (.cells cv.toArray 25)
 have hb2:=balP hb1 (.cells #[.int .i64 nd,.int .i64 lk,.slice sp m cp] 45)
 have k1:=(Blk.new w 25 cv.toArray).alloc (.cells #[.int .i64 nd,.int .i64 lk,.slice sp m cp] 45)
 have k2:=Blk.new (w.alloc (.cells cv.toArray 25)) 45 #[.int .i64 nd,.int .i64 lk,.slice sp m cp]
 have hs1:(w.alloc (.cells cv.toArray 25)).heap.size=w.heap.size+1:=by simp
 rw [hs1] at k2
 have HB:=Lib.hid (And.intro hb2 (And.intro k1 k2))
 clear h hX hb1 hb2 k1 k2 hs1 hXl
 go_enter Tryz.func8,Tryz.ntmps8
 go_upto_region 1 with fail
 generalize (w.alloc (.cells cv.toArray 25)).alloc (.cells #[.int .i64 nd,.int .i64 lk,.slice sp m cp] 45)=w0 at HB ⊢
 obtain⟨r1,r2,-⟩:=HB.out.2.1.whole hcvl
 have HR:=Lib.hid (HR4.out w0 HB.out.1)
 go_wp2_with fail
 (with_reducible refine HR.out.mono ?_)
 rintro e w1 ⟨rfl,hok,hb⟩
 obtain⟨E0,hE0⟩:∃E0,Hid (E0=firstE (cfE c)):=⟨_,Lib.hid rfl⟩
 rw [←hE0.out] at hok ⊢
 have H1:=Lib.hid (And.intro hb (HB.out.1.trans (hb.mono HB.out.1.size)))
 have HOK:=Lib.hid hok
 clear hb hok r1 r2
 by_cases h0:E0=0
 ·subst h0
  have hok:=HOK.out rfl
  have HOk:=Lib.hid hok
  obtain⟨n,hn⟩:∃n:Nat,Hid (c.N=n):=⟨c.N.toNat,Lib.hid (by have:=hok.n;omega)⟩
  have hn4:4≤n∧n≤16:=by have:=hok.n;have:=hn.out;omega
  have HBad:Hid (¬EntOk c.N X→∀v w',Below w.heap.size w w'→RNew31 c X nd lk m w (.returned (.tuple #[v,.int .i64 1])) w'):=Lib.hid fun hb v w' hw=>⟨v,_,rfl,⟨fun e=>absurd hE0.out.symm e,fun _ _=>rfl,fun _ e=>absurd e hb,fun _ e=>absurd e hb⟩,hw⟩
  have HCN:Hid (∀w',Below w0.heap.size w0 w'→w'.cell? ⟨w.heap.size,0,none⟩=some (.int .i64 n)∧hasRow w' ⟨w.heap.size,0,none⟩ 9=true∧rowOf w' ⟨w.heap.size,0,none⟩ 9=cv):=Lib.hid fun w' hb=>by
   have k:=HB.out.2.1.below hb HB.out.2.1.lt
   obtain⟨r1,r2,-⟩:=k.whole hcvl
   refine⟨?_,r1,r2⟩
   rw [hcv.out] at k
   rw [(cfV_cells k).1,hn.out]
  clear hok
  go_wp2_with fail
  go_loopw [9] (fun i wr=> ∃k:Nat,k≤nl∧i=.int .i64 k∧Hid (Below w0.heap.size w0 wr∧∀x ∈ X.take k,0≤x.1∧x.1<c.N)) (fun i _=>nl - (intOf i).toNat)
  case atStart=>exact⟨0,by omega,rfl,Lib.hid ⟨H1.out.1,by simp⟩⟩
  case round=>
   obtain⟨k,hk,rfl,HK⟩:=hrel
   obtain⟨c0,r1,r2⟩:=HCN.out wr HK.out.1
   by_cases hlt:k<nl
   ·obtain⟨b,off,z,e,rfl,-,hbl,hx,he1,he2,hz,-⟩:=(HX.out.below (HB.out.1.trans (HK.out.1.mono HB.out.1.size))).row hlt
    have hlt':(k:Int)<nl:=by omega
    have hk0:(0:Int)≤k:=by omega
    have HZ:=Lib.hid hx
    have HNo:Hid (¬(0≤z∧z<c.N)→¬EntOk c.N X):=Lib.hid fun hh he=>hh (he.1 _ (List.mem_of_getElem? hx))
    have HD:Hid (∀q,Below w.heap.size w (wr.drewN q)):=Lib.hid fun q=>HB.out.1.trans ((HK.out.1.mono HB.out.1.size).trans ((belowD wr q).mono (Nat.le_trans HB.out.1.size HK.out.1.size)))
    clear hx
    by_cases hz0:z<0
    ·go_upto_region 7 with fail
     go_quiet (fail)
     go_wp2_with fail
     go_ret2
     exact HBad.out (HNo.out fun e=>by omega) _ _ (HD.out _)
    ·by_cases hzn:(n:Int)≤z
     ·go_upto_region 7 with fail
      go_quiet (fail)
      go_wp2_with fail
      go_ret2
      exact HBad.out (HNo.out fun e=>by have:=hn.out;omega) _ _ (HD.out _)
     ·go_upto_region 7 with fail
      go_quiet (fail)
      go_wp2_with fail
      refine⟨⟨k+1,by omega,by go_num,Lib.hid ⟨HK.out.1.trans ((belowD wr _).mono HK.out.1.size),fun x hx=> ?_⟩⟩,by simp [intOf];omega⟩
      rw [List.take_add_one,HZ.out,Option.toList_some,List.mem_append,List.mem_singleton] at hx
      rcases hx with hx | rfl
      ·exact HK.out.2 x hx
      ·have:=hn.out
       exact⟨by show 0≤z;omega,by show z<c.N;omega⟩
   ·obtain rfl:nl=k:=by omega
    have hlt':¬(nl:Int)<nl:=by omega
    have HIn:Hid (∀x ∈ X,0≤x.1∧x.1<c.N):=Lib.hid (by have:=HK.out.2;rwa [List.take_of_length_le (by rw [HXL.out];omega)] at this)
    have HBr:=Lib.hid HK.out.1
    obtain⟨w2,rfl⟩:∃w2,w2=wr:=⟨_,rfl⟩
    clear HK
    have hmk:madeOk (.int .i64 (n:Int)) (.int .i64 (n:Int))=true:=by simp [madeOk];omega
    have hlv:lenV (.int .i64 (n:Int))=n:=by simp [lenV]
    go_upto_region 9 with fail
    go_region_held3 (fun w'=>w'.cell? ⟨w.heap.size,0,none⟩=some (.int .i64 n)∧hasRow w' ⟨w.heap.size,0,none⟩ 9=true∧rowOf w' ⟨w.heap.size,0,none⟩ 9=cv)
     (((with_reducible refine HCN.out _ ?_);repeat' (with_reducible first | exact HBr.out | refine Below.drew ?_ | refine balP2 ?_ HBr.out.size _)))
     (fail)
    have hb3:Below w2.heap.size w2 ((w2.alloc (.cells (zrep [Value.bool false] n).toArray 4)).alloc (.cells (cv++ [Value.slice none 0 0,.slice (some ⟨w2.heap.size,0,none⟩) n n,.pointer none,.slice none 0 0]).toArray 117)).drew:=(balP (balP (Below.refl w2.heap.size w2) (.cells (zrep [Value.bool false] n).toArray 4)) _).drew
    have hkn:Blk ((w2.alloc (.cells (zrep [Value.bool false] n).toArray 4)).alloc (.cells (cv++ [Value.slice none 0 0,.slice (some ⟨w2.heap.size,0,none⟩) n n,.pointer none,.slice none 0 0]).toArray 117)).drew (w2.heap.size+1) 117 (cv++ [Value.slice none 0 0,.slice (some ⟨w2.heap.size,0,none⟩) n n,.pointer none,.slice none 0 0]).toArray:=by
     have:=Blk.new (w2.alloc (.cells (zrep [Value.bool false] n).toArray 4)) 117 (cv++ [Value.slice none 0 0,.slice (some ⟨w2.heap.size,0,none⟩) n n,.pointer none,.slice none 0 0]).toArray
     have e:(w2.alloc (.cells (zrep [Value.bool false] n).toArray 4)).heap.size=w2.heap.size+1:=by simp
     rw [e] at this
     exact this
    generalize ((w2.alloc (.cells (zrep [Value.bool false] n).toArray 4)).alloc (.cells (cv++ [Value.slice none 0 0,.slice (some ⟨w2.heap.size,0,none⟩) n n,.pointer none,.slice none 0 0]).toArray 117)).drew=w3 at hb3 hkn ⊢
    obtain⟨nb,hnb⟩:∃nb,Hid (nb=w2.heap.size+1):=⟨_,Lib.hid rfl⟩
    rw [←hnb.out] at hkn ⊢
    obtain⟨on,hon⟩:∃on,Hid (on=Value.slice (some ⟨w2.heap.size,0,none⟩) n n):=⟨_,Lib.hid rfl⟩
    rw [←hon.out] at hkn ⊢
    have HW3:=Lib.hid (And.intro hkn.lt (HBr.out.trans (hb3.mono HBr.out.size)))
    have HI0:Hid (RnI w3 nb 0 cv on (.slice none 0 0) w3):=Lib.hid ⟨⟨[],rfl,.inl ⟨rfl,rfl⟩⟩,hkn,Chg.refl _ _⟩
    have HBI:Hid (∀k v wr,RnI w3 nb k cv on v wr→Below w0.heap.size w0 wr):=Lib.hid fun k v wr hi=>HW3.out.2.trans (hi.c.below (B:=w0.heap.size) HW3.out.2.size (by rintro q rfl;have:=hnb.out;have:=HBr.out.size;omega))
    clear hb3 hkn hmk hlv c0 r1 r2
    go_wp2_with fail
    go_loopw [11] (fun i wr=> ∃k:Nat,∃v,k≤n∧i=.int .i64 k∧Hid (RnI w3 nb k cv on v wr∧∀z:Nat,z<k→(ownE z X).length≤64)) (fun i _=>n - (intOf i).toNat)
    case atStart=>exact⟨0,_,by omega,rfl,Lib.hid ⟨HI0.out,fun z hz=>by omega⟩⟩
    case round=>
     obtain⟨i,v,hi,rfl,HI⟩:=hrel
     obtain⟨wo,rfl⟩:∃wo,wo=wr:=⟨_,rfl⟩
     have HBo:=Lib.hid (HBI.out _ _ _ HI.out.1)
     obtain⟨c0,r1,r2⟩:=HCN.out wo HBo.out
     by_cases hin:i<n
     ·have hin':(i:Int)<n:=by omega
      go_wp2_with fail
      go_loopw [13,12] (fun q u wk=> ∃k:Nat,∃u',k≤nl∧q=.int .i64 k∧u=u'∧Hid (wk.ownsRow wo.heap.size 110 6 u' (ownE i (X.take k)).length (ownE i (X.take k)).flatten∧Below wo.heap.size wo wk)) (fun q _ _=>nl - (intOf q).toNat)
      case atStart=>exact⟨0,_,by omega,rfl,rfl,Lib.hid ⟨⟨by simp [ownE],.inl ⟨rfl,by simp [ownE]⟩⟩,Below.refl _ _⟩⟩
      case round=>
       obtain⟨k,u12,hk,rfl,rfl,HK⟩:=hrel
       by_cases hlt:k<nl
       ·obtain⟨b,off,z,e,rfl,-,hbl,hx,he1,he2,hz,-,-,hr6,hr7⟩:=(HX.out.below (HB.out.1.trans ((HBo.out.trans (HK.out.2.mono HBo.out.size)).mono HB.out.1.size))).row hlt
        have hlt':(k:Int)<nl:=by omega
        have hk0:(0:Int)≤k:=by omega
        have HZ:=Lib.hid hx
        clear hx
        by_cases hzi:z=i
        ·have hle:(ownE i (X.take k)).length+1≤1000000000:=by
          have:=ownE_le i (X.take k)
          simp only [List.length_take] at this
          omega
         have hsz:wo.heap.size≤(wr.alloc (.cells e.toArray 110)).heap.size:=by
          have:=HK.out.2.size
          simp;omega
         have HN:Hid (∀g cap w8,w8.ownsRow wo.heap.size 110 6 (.slice (some ⟨g,0,none⟩) ((ownE i (X.take k)).length+1) cap) ((ownE i (X.take k)).length+1) ((ownE i (X.take k)).flatten++e)→(wr.alloc (.cells e.toArray 110)).grownBy w8 u12.ownBlock→w8.ownsRow wo.heap.size 110 6 (.slice (some ⟨g,0,none⟩) ((ownE i (X.take k)).length+1) cap) (ownE i (X.take (k+1))).length (ownE i (X.take (k+1))).flatten∧Below wo.heap.size wo w8):=Lib.hid fun g cap w8 ho hg=>by
          rw [ownE_hit (by rw [HZ.out,hzi])]
          refine⟨by simpa using ho,(balN2 HK.out.2 _).grown hg hsz fun q hq=>(HK.out.1.lt q hq).1⟩
         go_upto_region 18 with fail
         go_wp2_with (at_builtin;refine wpList_lies app_rent (by rfl) (.tmp 69) (.tmp 75) (by rfl) wo.heap.size _ _ _ (by rfl) (HK.out.1.alloc _) ⟨wr.heap.size,0,none⟩ 1 1 e (by rfl) (by simp [he1]) (hasRow_new wr _ _ 0 6 (by simp [he1])) ((rowOf_new wr _ _ 0 6 (by simp [he1])).trans (List.take_of_length_le (by simp [he1]))) he2 Nat.zero_lt_one hle hsz ?_;intro g cap w8 ho hg hl;have H8:=Lib.hid (HN.out g cap w8 ho hg);clear ho hg hl)
         all_goals exact⟨⟨k+1,_,by omega,by go_num,rfl,H8⟩,by simp [intOf];omega⟩
        ·have HN:Hid (wr.ownsRow wo.heap.size 110 6 u12 (ownE i (X.take (k+1))).length (ownE i (X.take (k+1))).flatten∧Below wo.heap.size wo wr):=Lib.hid (by rw [ownE_miss HZ.out hzi];exact HK.out)
         go_wp2_with fail
         exact⟨⟨k+1,_,by omega,by go_num,rfl,HN⟩,by simp [intOf];omega⟩
       ·obtain rfl:nl=k:=by omega
        have hlt':¬(nl:Int)<nl:=by omega
        obtain⟨wk,rfl⟩:∃wk,wk=wr:=⟨_,rfl⟩
        have hK:=HK.out
        rw [List.take_of_length_le (by rw [HXL.out];exact Nat.le_refl _)] at hK
        obtain⟨a6,cap6,rfl,-,-,-⟩:=own_rdf (ownE_flat HX.out.1) rfl hK.1
        have hIk:=HI.out.1.below hK.2
        have hbk:=HBo.out.trans (hK.2.mono HBo.out.size)
        have HIk:=Lib.hid (And.intro hIk hbk)
        obtain⟨c0',r1',r2'⟩:=HCN.out wk hbk
        clear hK HK c0 r1 r2 hIk hbk
        by_cases hc64:(ownE i X).length≤64
        ·have HCa:Hid (Calls Tryz.prog 25 #[.agg cv.toArray,.int .i64 i,.slice a6 (ownE i X).length cap6] wk (NewW wk)):=Lib.hid (by rw [hcv.out];exact rf30_yes S A c n i a6 _ cap6 wk (HCF.out.below (HB.out.1.trans (HIk.out.2.mono HB.out.1.size))) HOk.out hn.out hin hc64)
         have HC64:=Lib.hid hc64
         obtain⟨ln,hln⟩:∃ln,Hid (ln=(ownE i X).length):=⟨_,Lib.hid rfl⟩
         rw [←hln.out] at HCa ⊢
         clear hc64
         go_wp2_with fail
         (with_reducible refine HCa.out.mono ?_)
         rintro e w6 ⟨g6,rfl,-,-,hb6⟩
         have HI6:=Lib.hid (HIk.out.1.below hb6)
         obtain⟨y1,y2,-⟩:=HI6.out.cell9 hcvl
         obtain⟨vs,hvs⟩:=HI6.out.own
         have HVS:=Lib.hid hvs
         have hsz:w3.heap.size≤(w6.alloc (.cells #[Value.pointer (some ⟨g6,0,none⟩)] 119)).heap.size:=by
          have:=HI6.out.c.size
          simp;omega
         have hle:i+1≤1000000000:=by omega
         have HP:Hid (∀g cap w8 xs,w8.ownsRow w3.heap.size 119 1 (.slice (some ⟨g,0,none⟩) (i+1) cap) (i+1) xs→(w6.alloc (.cells #[Value.pointer (some ⟨g6,0,none⟩)] 119)).grownBy w8 v.ownBlock→w8.cell? ⟨nb,9,none⟩=some v∧w8.frozen? ⟨nb,9,none⟩=false∧RnI w3 nb (i+1) cv on (.slice (some ⟨g,0,none⟩) (i+1) cap) (w8.setCell ⟨nb,9,none⟩ (.slice (some ⟨g,0,none⟩) (i+1) cap))):=Lib.hid fun g cap w8 xs ho hg=>HI6.out.push HW3.out.1 hcvl (balN (Below.refl w6.heap.size w6) _) ho hg
         have y1d:(w6.alloc (.cells #[Value.pointer (some ⟨g6,0,none⟩)] 119)).heap.size=w6.heap.size+1:=by simp
         clear hb6 c0' r1' r2' hvs y1d
         go_wp2_with (at_builtin;refine wpList_lies app_rnd (by rfl) (.tmp 90) (.tmp 92) (by rfl) w3.heap.size _ _ _ (by rfl) (HVS.out.alloc _) ⟨w6.heap.size,0,none⟩ 1 1 [Value.pointer (some ⟨g6,0,none⟩)] (by rfl) (by simp) (hasRow_new w6 _ _ 0 1 (by simp)) ((rowOf_new w6 _ _ 0 1 (by simp)).trans rfl) (by simp [cell1]) Nat.zero_lt_one hle hsz ?_;intro g cap w8 ho hg hl;obtain⟨z1,z2,z3⟩:=HP.out g cap w8 _ ho hg;have H8:=Lib.hid z3;clear ho hg hl z3 y1 y2)
         all_goals go_wp2_with fail
         all_goals refine⟨⟨i+1,_,by omega,by go_num,Lib.hid ⟨H8.out,fun z hz=> ?_⟩⟩,by simp [intOf];omega⟩
         by_cases hzi:z<i
         ·exact HI.out.2 z hzi
         ·obtain rfl:z=i:=by omega
          exact HC64.out
        ·have HCa:Hid (Calls Tryz.prog 25 #[.agg cv.toArray,.int .i64 i,.slice a6 (ownE i X).length cap6] wk (FNewNo wk)):=Lib.hid (by rw [hcv.out];exact rf30_no A c n i a6 _ cap6 wk hn.out hin (by omega))
         have HBE:=Lib.hid (HBad.out fun he=>hc64 (he.2 i (by omega) (by have:=hn.out;omega)))
         obtain⟨ln,hln⟩:∃ln,Hid (ln=(ownE i X).length):=⟨_,Lib.hid rfl⟩
         rw [←hln.out] at HCa ⊢
         clear hc64
         go_wp2_with fail
         (with_reducible refine HCa.out.mono ?_)
         rintro e w6 ⟨rfl,hb6⟩
         have HB6:=Lib.hid (HB.out.1.trans ((HIk.out.2.trans (hb6.mono HIk.out.2.size)).mono HB.out.1.size))
         clear hb6 c0' r1' r2'
         go_wp2_with fail
         go_ret2
         exact HBE.out _ _ HB6.out
     ·obtain rfl:i=n:=by omega
      have hin':¬(i:Int)<i:=by omega
      have HEo:Hid (EntOk c.N X):=Lib.hid ⟨HIn.out,fun z h0 hzn=>by
       obtain⟨y,rfl⟩:∃y:Nat,z=y:=⟨z.toNat,by omega⟩
       exact HI.out.2 y (by have:=hn.out;omega)⟩
      have kf:=HB.out.2.2.below HBo.out HB.out.2.2.lt
      have f0:wo.cell? ⟨w.heap.size+1,0,none⟩=some (.int .i64 nd):=kf.cell 0
      have f1:wo.cell? ⟨w.heap.size+1,1,none⟩=some (.int .i64 lk):=kf.cell 1
      have f2:wo.cell? ⟨w.heap.size+1,2,none⟩=some (.slice sp m cp):=kf.cell 2
      have HBw:=Lib.hid (HB.out.1.trans (HBo.out.mono HB.out.1.size))
      clear kf
      by_cases hf:fOk i nd lk m
      ·have HCa:=Lib.hid (rf29_yes i nd lk sp m cp wo (by omega) (by omega) hf)
       have HF:=Lib.hid hf
       clear hf
       go_wp2_with fail
       (with_reducible refine HCa.out.mono ?_)
       rintro e w6 ⟨g6,rfl,-,-,hb6⟩
       have HI6:=Lib.hid (HI.out.1.below hb6)
       obtain⟨-,-,y1,y2⟩:=HI6.out.cell9 hcvl
       have HE:Hid (∀v u,RNew31 c X nd lk m w (.returned (.tuple #[v,.int .i64 0])) (w6.setCell ⟨nb,11,none⟩ u)):=Lib.hid fun v u=>⟨v,_,rfl,⟨fun e=>absurd hE0.out.symm e,fun _ e=>absurd HEo.out e,fun _ _ e=>absurd (by rw [hn.out];exact HF.out) e,fun _ _ _=>rfl⟩,(HBw.out.trans (hb6.mono HBw.out.size)).setCell (by show w.heap.size≤nb;have:=hnb.out;have:=HBr.out.size;have:=HB.out.1.size;omega) _⟩
       clear hb6 c0 r1 r2 f0 f1 f2
       go_wp2_with fail
       go_ret2
       exact HE.out _ _
      ·have HCa:=Lib.hid (rf29_no i nd lk sp m cp wo (by omega) (by omega) (by omega) hf)
       have HF:=Lib.hid hf
       clear hf
       go_wp2_with fail
       (with_reducible refine HCa.out.mono ?_)
       rintro e w6 ⟨rfl,hb6⟩
       have HE:Hid (∀v,RNew31 c X nd lk m w (.returned (.tuple #[v,.int .i64 1])) w6):=Lib.hid fun v=>⟨v,_,rfl,⟨fun e=>absurd hE0.out.symm e,fun _ _=>rfl,fun _ _ _=>rfl,fun _ _ e=>absurd e (by rw [hn.out];exact HF.out)⟩,HBw.out.trans (hb6.mono HBw.out.size)⟩
       clear hb6 c0 r1 r2 f0 f1 f2
       go_wp2_with fail
       go_ret2
       exact HE.out _
 ·have HE:Hid (∀v,RNew31 c X nd lk m w (.returned (.tuple #[v,.int .i64 E0])) w1):=Lib.hid fun v=>⟨v,_,rfl,⟨fun _=>hE0.out,fun e=>absurd (hE0.out.trans e) h0,fun e=>absurd (hE0.out.trans e) h0,fun e=>absurd (hE0.out.trans e) h0⟩,H1.out.2⟩
  go_wp2_with fail
  go_ret2
  exact HE.out _
end Go.Proofs.YtdilbjikeilhbaaGreatDoor
