import Derived.Test.YtdilbjikeilhbaaGreatDoorGn28
namespace Go.Proofs.YtdilbjikeilhbaaGreatDoor
open Go.RowKit
set_option linter.unusedVariables false
set_option linter.unusedSimpArgs false
def tabK (N:Nat) (H:List Int):Nat→List Int
 | 0=>List.replicate N (-1)
 | k+1=>(tabK N H k).set (H.getD k 0).toNat ((k / 2:Nat):Int)
theorem tabK_len (N:Nat) (H:List Int):∀k,(tabK N H k).length=N
 | 0=>by simp [tabK]
 | k+1=>by simp [tabK,tabK_len N H k]
def pairsL (c:Cfg):List Int:=tabK c.N.toNat (halvesL c.N c.P) (halvesL c.N c.P).length
@[go_sem] theorem len_cfV (A:CfA) (c:Cfg):(cfV A c).length=9:=(rfl)
theorem bt_net:buildT Tryz.prog 97 (cfZ++ [Value.slice none 0 0]) [(0,9),(9,1)]:=⟨by kernel_rfl,by kernel_rfl⟩
@[go_sem ↓] theorem bd_net (ρ:Operand→Value) (d:Option Tmp) (x y:Operand) (ty:TypeId) (s:String) (af:Array Edge) (g:Option (Nat×Bool)) (w:World) (hx:lenC (ρ x) 9=true) (hy:lenC (ρ y) 1=true) :
 (execOp ρ { dst:=d,op:=.build 97 #[(0,x),(1,y)],type:=ty,pos:=s,after:=af,guard:=g }).run Tryz.prog w=.ok (.value (.agg (cellsL (ρ x)++cellsL (ρ y)).toArray)) w:=
 exec_build2 bt_net rfl rfl rfl ρ d x y ty s af g w hx hy
structure NetTab (S:Nat→Prop) (w:World) (p:Nat) (A:CfA) (q:Nat) (c:Cfg) (T:List Int):Prop where
 blk:Blk w p 97 (cfV A c++ [Value.slice (some ⟨q,0,none⟩) c.N.toNat c.N.toNat]).toArray
 sp:S p
 cf:CfR (fun b=>S b∧b≠q) w A c
 sq:S q
 tab:Blk w q 3 (ints T).toArray
def NetAt (S:Nat→Prop) (w:World) (p:Nat) (A:CfA) (q:Nat) (c:Cfg):Prop:=NetTab S w p A q c (pairsL c)
def NewYes (c:Cfg) (w:World) (e:Ending) (w':World):Prop:=∃p A q,e=.returned (.tuple #[.pointer (some ⟨p,0,none⟩),.int .i64 0])∧NetAt (w.heap.size≤·) w' p A q c∧Below w.heap.size w w'
theorem CfR.keep {S:Nat→Prop} {w w':World} {A:CfA} {c:Cfg} (h:CfR S w A c) (hs:w.heap.size≤w'.heap.size) (hk:∀b,S b→b<w.heap.size→w'.heap[b]? =w.heap[b]?):CfR S w' A c:=⟨h.p.keep hs hk,h.s.keep hs hk,h.b.keep hs hk,h.t.keep hs hk,h.cp⟩
theorem NetTab.keep {S:Nat→Prop} {w w':World} {p q:Nat} {A:CfA} {c:Cfg} {T:List Int} (h:NetTab S w p A q c T) (hs:w.heap.size≤w'.heap.size) (hk:∀b,S b→b<w.heap.size→w'.heap[b]? =w.heap[b]?):NetTab S w' p A q c T:=
 ⟨(hk _ h.sp h.blk.lt).trans h.blk,h.sp,h.cf.keep hs (fun b hb=>hk b hb.1),h.sq,(hk _ h.sq h.tab.lt).trans h.tab⟩
theorem NetAt.below {S:Nat→Prop} {w w':World} {p q:Nat} {A:CfA} {c:Cfg} (h:NetAt S w p A q c) (hb:Below w.heap.size w w'):NetAt S w' p A q c:=NetTab.keep h hb.size fun b _ hl=>hb.block b hl
theorem NetTab.mono {S S':Nat→Prop} {w:World} {p q:Nat} {A:CfA} {c:Cfg} {T:List Int} (h:NetTab S w p A q c T) (hs:∀b,b<w.heap.size→S b→S' b):NetTab S' w p A q c T:=
 ⟨h.blk,hs _ h.blk.lt h.sp,h.cf.mono (fun b hl hb=>⟨hs b hl hb.1,hb.2⟩),hs _ h.tab.lt h.sq,h.tab⟩
theorem balN {w5 w':World} (h:Below w5.heap.size w5 w') (o:Obj):Below w5.heap.size w5 (w'.alloc o):=h.alloc h.size o
theorem ltN (w:World) (o:Obj):w.heap.size<(w.alloc o).heap.size:=by simp
theorem cellN (w:World):(w.alloc (.cells #[Value.int .i64 (-1)] 3)).cell? ⟨w.heap.size,0,none⟩=some (.int .i64 (-1)):=(Blk.new w 3 #[Value.int .i64 (-1)]).cell 0
theorem ltND (w:World) (o:Obj):w.heap.size<(w.alloc o).drew.heap.size:=ltN w o
def CutN (c:Cfg) (wr:World) (s7:Value) (wx:World):Prop:=∃wc,wc=wx∧∃p A q,s7=.pointer (some ⟨p,0,none⟩)∧NetTab (wr.heap.size≤·) wc p A q c (List.replicate c.N.toNat (-1))∧Below wr.heap.size wr wc
def MadeN (c:Cfg) (wr wX:World) (A:CfA) (q n:Nat):Prop:=c.N=n∧CfR (fun b=>wr.heap.size≤b∧b<q) wX A c∧wr.heap.size≤q∧Blk wX q 3 (ints (List.replicate n (-1))).toArray∧Below wr.heap.size wr wX
theorem made_d {c:Cfg} {wr w1 wR:World} {A1:CfA} {n:Nat} (hn:c.N=n) (h1:CfR (wr.heap.size≤·) w1 A1 c∧Below wr.heap.size wr w1) {e:Ending} (h2:RepP n (-1) (w1.alloc (.cells #[Value.int .i64 (-1)] 3)) e wR):e=.returned (.slice (some ⟨(w1.alloc (.cells #[Value.int .i64 (-1)] 3)).heap.size,0,none⟩) n n)∧MadeN c wr wR A1 (w1.alloc (.cells #[Value.int .i64 (-1)] 3)).heap.size n:=by
 obtain⟨rfl,hk,hb⟩:=h2
 exact⟨rfl,hn,((h1.1.mono (fun b hl h=>⟨h,Nat.lt_trans hl (ltN _ _)⟩)).below (balN (Below.refl _ _) _)).below hb,(balN h1.2 _).size,hk,(balN h1.2 _).trans (hb.mono (balN h1.2 _).size)⟩
theorem made_f {c:Cfg} {wr w1 wR:World} {A1:CfA} {n:Nat} (hn:c.N=n) (h1:CfR (wr.heap.size≤·) w1 A1 c∧Below wr.heap.size wr w1) {e:Ending} (h2:RepP n (-1) w1 e wR):e=.returned (.slice (some ⟨w1.heap.size,0,none⟩) n n)∧MadeN c wr wR A1 w1.heap.size n:=by
 obtain⟨rfl,hk,hb⟩:=h2
 exact⟨rfl,hn,(h1.1.mono (fun b hl h=>⟨h,hl⟩)).below hb,h1.2.size,hk,h1.2.trans (hb.mono h1.2.size)⟩
def OwnN (c:Cfg) (wr w1:World) (A1:CfA):Prop:=CfR (wr.heap.size≤·) w1 A1 c∧Below wr.heap.size wr w1
theorem OwnN.low {c:Cfg} {wr w1:World} {A1:CfA} (h:OwnN c wr w1 A1):Below wr.heap.size wr w1:=h.2
theorem MadeN.low {c:Cfg} {wr wX:World} {A:CfA} {q n:Nat} (h:MadeN c wr wX A q n):Below wr.heap.size wr wX:=h.2.2.2.2
theorem made_a {c:Cfg} {wr w1:World} {e:Ending} (h2:OwnP c wr.drew e w1):∃A1,e=.returned (.agg (cfV A1 c).toArray)∧OwnN c wr w1 A1:=by
 obtain⟨A1,rfl,hcf1,hb1⟩:=h2
 exact⟨A1,rfl,hcf1,(Below.refl _ _).drew.trans hb1⟩
theorem made_b {c:Cfg} {wr w1:World} {e:Ending} (h2:OwnP c (wr.alloc (.cells #[Value.int .i64 (-1)] 3)).drew e w1):∃A1,e=.returned (.agg (cfV A1 c).toArray)∧OwnN c wr w1 A1∧wr.heap.size<w1.heap.size∧w1.cell? ⟨wr.heap.size,0,none⟩=some (.int .i64 (-1)):=by
 obtain⟨A1,rfl,hcf1,hb1⟩:=h2
 have hq:Blk w1 wr.heap.size 3 #[Value.int .i64 (-1)]:=((Blk.new wr 3 #[Value.int .i64 (-1)]).drew).below hb1 (ltN _ _)
 exact⟨A1,rfl,⟨hcf1.mono fun b _ hb=>Nat.le_trans (balN (Below.refl _ _) _).drew.size hb,(balN (Below.refl _ _) _).drew.trans (hb1.mono (balN (Below.refl _ _) _).drew.size)⟩,hq.lt,hq.cell 0⟩
theorem MadeN.cut {c:Cfg} {wr wX:World} {A:CfA} {q q' n:Nat} (h:MadeN c wr wX A q' n) (hq:q'=q):CutN c wr (.pointer (some ⟨wX.heap.size,0,none⟩)) (wX.alloc (.cells (cfV A c++ [Value.slice (some ⟨q,0,none⟩) n n]).toArray 97)):=by
 rw [hq] at h
 obtain⟨h1,h2,h3,h4,h5⟩:=h
 have e:c.N.toNat=n:=by omega
 have hB:Below wX.heap.size wX (wX.alloc (.cells (cfV A c++ [Value.slice (some ⟨q,0,none⟩) n n]).toArray 97)):=(Below.refl _ _).alloc (Nat.le_refl _) _
 exact⟨_,rfl,_,A,q,rfl,⟨by rw [e];exact Blk.new _ _ _,h5.size,(h2.below hB).mono (fun b _ hb=>⟨hb.1,Nat.ne_of_lt hb.2⟩),h3,by rw [e];exact h4.below hB h4.lt⟩,balN h5 _⟩
theorem NetTab.store {S:Nat→Prop} {w:World} {p q:Nat} {A:CfA} {c:Cfg} {T:List Int} (h:NetTab S w p A q c T) (y:Nat) (v:Int):NetTab S (w.setCell ⟨q,y,none⟩ (.int .i64 v)) p A q c (T.set y v):=by
 have hpq:p≠q:=h.blk.ne_ h.tab (by decide)
 have hb:=h.tab.set_ y (.int .i64 v)
 refine⟨h.blk.far hpq _,h.sp,h.cf.keep (by simp) (fun b hb _=>Below.heap_setCell w _ _ b hb.2),h.sq,?_⟩
 simpa [ints,List.map_set] using hb
theorem tabK_step {N:Nat} {H:List Int} {k y:Nat} (h:H[k]? =some (y:Int)):tabK N H (k+1)=(tabK N H k).set y ((k / 2:Nat):Int):=by
 rw [tabK,List.getD_eq_getElem?_getD,h]
 simp
set_option maxRecDepth 100000 in
set_option maxHeartbeats 2000000 in
theorem newYes_any (S:Nat→Prop) (A:CfA) (c:Cfg) (w:World) (h:CfR S w A c) (hsg:SgW w) (hok:RefOk c):Calls Tryz.prog 20 #[.agg (cfV A c).toArray] w (NewYes c w):=by
 obtain⟨cv,hcv⟩:∃cv,cv=cfV A c:=⟨_,rfl⟩
 have HRU:Hid (∀(k f:Nat) (e:Int),ruleFs[k]? =some f→(cfE c)[k]? =some e→(∀j,j<k→(cfE c)[j]? =some 0)→∀w',Below w.heap.size w w'→Calls Tryz.prog f #[.agg cv.toArray] w' (RuS e w')):=Lib.hid fun k f e hf he hpre w' hb=>by
  rw [hcv]
  exact rule_any S A c w' (h.below hb) (hsg.below hb) k f e hf he hpre
 have HL:=Lib.hid fun w=>rules_any w
 have HCV:=Lib.hid hcv
 have HC0:Hid (∀(k:Nat) (e:Int),(cfE c)[k]? =some e→e=0):=Lib.hid fun k e he=>by
  rw [hok.cfE] at he
  exact (List.mem_replicate (n:=10) (a:=(0:Int))).1 (List.mem_of_getElem? he) |>.2
 have HOK:=Lib.hid hok
 have HCF:=Lib.hid h
 have HSG:=Lib.hid hsg
 rw [←hcv]
 clear hcv h hsg hok
 go_enter Tryz.func20,Tryz.ntmps20
 go_upto_region 1 with fail
 have HB0:Hid (Below w.heap.size w (w.alloc (.cells cv.toArray 25))∧Blk (w.alloc (.cells cv.toArray 25)) w.heap.size 25 cv.toArray):=Lib.hid ⟨(Below.refl _ _).alloc (Nat.le_refl _) _,Blk.new _ _ _⟩
 generalize w.alloc (.cells cv.toArray 25)=w0 at HB0 ⊢
 go_wp2_with fail
 (with_reducible refine (HL.out _).mono ?_)
 rintro e w1 ⟨rfl,hk1,hb1⟩
 have HK1:=Lib.hid (And.intro hk1 (And.intro (HB0.out.1.trans (hb1.mono HB0.out.1.size)) (HB0.out.2.below hb1 HB0.out.2.lt)))
 clear hk1 hb1
 go_wp2_with fail
 have hRK:=HK1
 go_loopw [12] (fun i wr=> ∃k:Nat,k≤10∧i=.int .i64 k∧Hid (∀j,j<k→(cfE c)[j]? =some 0)∧Hid (Blk wr w0.heap.size 157 ((ruleFs.map fun f=>Value.func (.func f) #[] #[]).toArray)∧Below w.heap.size w wr∧Blk wr w.heap.size 25 cv.toArray)) (fun i _=>10 - (intOf i).toNat)
 case atStart=>exact⟨0,by omega,rfl,Lib.hid (fun j hj=>absurd hj (by omega)),HK1⟩
 case round=>
  obtain⟨k,hk,rfl,HP,HR⟩:=hrel
  clear HK1 hRK
  by_cases hlt:k<10
  ·have hlt':(k:Int)<10:=by omega
   have hk0:(0:Int)≤k:=by omega
   obtain⟨f,hf⟩:∃f,ruleFs[k]? =some f:=⟨_,List.getElem?_eq_getElem hlt⟩
   obtain⟨e,he⟩:∃e,(cfE c)[k]? =some e:=⟨_,List.getElem?_eq_getElem hlt⟩
   have hcf:wr.cell? ⟨w0.heap.size,k,none⟩=some (.func (.func f) #[] #[]):=by
    rw [HR.out.1.cell k,List.getElem?_toArray,List.getElem?_map,hf]
    rfl
   have HF:=Lib.hid (And.intro hf he)
   clear hf he
   have hN:=Blk.new wr 157 #[Value.nilFunc]
   have hca:(wr.alloc (.cells #[Value.nilFunc] 157)).cell? ⟨wr.heap.size,0,none⟩=some Value.nilFunc:=hN.cell 0
   have hfa:(wr.alloc (.cells #[Value.nilFunc] 157)).frozen? ⟨wr.heap.size,0,none⟩=false:=hN.frozen 0
   have hb2:Below wr.heap.size wr (wr.alloc (.cells #[Value.func (.func f) #[] #[]] 157)):=(Below.refl _ _).alloc (Nat.le_refl _) _
   have hc2:(wr.alloc (.cells #[Value.func (.func f) #[] #[]] 157)).cell? ⟨wr.heap.size,0,none⟩=some (.func (.func f) #[] #[]):=(Blk.new wr 157 #[Value.func (.func f) #[] #[]]).cell 0
   have HC2:=Lib.hid (And.intro hb2 hc2)
   clear hN hb2 hc2
   go_upto_region 4 with fail
   generalize wr.alloc (.cells #[Value.func (.func f) #[] #[]] 157)=w2 at HC2 ⊢
   have HK2:=Lib.hid (HR.out.2.2.below HC2.out.1 HR.out.2.2.lt)
   obtain⟨d1,d2,-⟩:=HK2.out.whole (n:=9) (by rw [HCV.out];rfl)
   have hc2:=HC2.out.2
   have HC:=Lib.hid (HRU.out k f e HF.out.1 HF.out.2 HP.out w2 (HR.out.2.1.trans (HC2.out.1.mono HR.out.2.1.size)))
   have hent:∀args w,(callFunc f args).run Tryz.prog w=.ok (.enter f args) w:=rule_enters k f HF.out.1
   clear hca hfa hcf
   go_wp2_with fail
   (with_reducible refine HC.out.mono ?_)
   rintro r w3 ⟨rfl,hb3⟩
   have HR3:=Lib.hid (And.intro ((HR.out.1.below HC2.out.1 HR.out.1.lt).below hb3 (by have h1:=HR.out.1.lt;have h2:=HC2.out.1.size;omega)) (And.intro (HR.out.2.1.trans ((HC2.out.1.trans (hb3.mono HC2.out.1.size)).mono HR.out.2.1.size)) (HK2.out.below hb3 HK2.out.lt)))
   clear hb3 d1 d2 hc2
   obtain rfl:e=0:=HC0.out k e HF.out.2
   have HP2:Hid (∀j,j<k+1→(cfE c)[j]? =some 0):=Lib.hid fun j hj=>by
    by_cases hjk:j<k
    ·exact HP.out j hjk
    ·rw [show j=k by omega];exact HF.out.2
   go_wp2_with fail
   go_roundw
   case rel=>exact⟨k+1,by omega,by simp,HP2,HR3⟩
   case measure=>simp [intOf];omega
  ·obtain rfl:k=10:=by omega
   clear HRU HL HC0 HP hlt hk
   have hp10:=HR.out.2.2.lt
   obtain⟨n,hn⟩:∃n:Nat,Hid (c.N=n):=⟨c.N.toNat,Lib.hid (by have:=HOK.out.n.1;omega)⟩
   have hn4:4≤n:=by have:=HOK.out.n.1;have:=hn.out;omega
   have hn16:n≤16:=by have:=HOK.out.n.2;have:=hn.out;omega
   obtain⟨d1,d2,-⟩:=HR.out.2.2.whole (n:=9) (by rw [HCV.out];rfl)
   have d0:wr.cell? ⟨w.heap.size,0,none⟩=some (.int .i64 n):=by rw [←hn.out,HR.out.2.2.cell 0,HCV.out];rfl
   have HOwn:Hid (∀w',Below wr.heap.size wr w'→Calls Tryz.prog 32 #[.agg cv.toArray] w' (OwnP c w')):=Lib.hid fun w' hb=>by
    rw [HCV.out]
    have hcf:=(HCF.out.below HR.out.2.1).below hb
    exact own_any S A c w' hcf (by have:=HOK.out.p;have:=hcf.p.1;omega) (by have:=HOK.out.s;have:=hcf.s.1;omega) (by have:=HOK.out.bl;have:=hcf.b.1;have:=HOK.out.n;omega) (by have:=HOK.out.t;have:=hcf.t.1;omega)
   have HRep:Hid (∀bb w',bb<w'.heap.size→w'.cell? ⟨bb,0,none⟩=some (.int .i64 (-1))→Calls Tryz.prog 33 #[.slice (some ⟨bb,0,none⟩) 1 1,.int .i64 n] w' (RepP n (-1) w')):=Lib.hid fun bb w' hb hc=>repeat_any bb (-1) n hn4 hn16 w' hb hc
   have FA:Hid (∀w',Below wr.heap.size wr w'→hasRow w' ⟨w.heap.size,0,none⟩ 9=true∧rowOf w' ⟨w.heap.size,0,none⟩ 9=cv∧w'.cell? ⟨w.heap.size,0,none⟩=some (.int .i64 n)):=Lib.hid fun w' hb=>by
    have hB:=HR.out.2.2.below hb HR.out.2.2.lt
    obtain⟨d1,d2,-⟩:=hB.whole (n:=9) (by rw [HCV.out];rfl)
    exact⟨d1,d2,(hb.cell (p:=⟨w.heap.size,0,none⟩) hp10).trans d0⟩
   go_upto_region 8 with fail
   go_cut [7] from 24 to 31 (fun s7 wx=>CutN c wr s7 wx)
   case first=>
    go_region_held3 (fun w'=>hasRow w' ⟨w.heap.size,0,none⟩ 9=true∧rowOf w' ⟨w.heap.size,0,none⟩ 9=cv∧w'.cell? ⟨w.heap.size,0,none⟩=some (.int .i64 n))
     (((with_reducible refine FA.out _ ?_);repeat' (with_reducible first | exact HE.out.low | exact HO1.out.low | exact Below.refl _ _ | refine Below.drew ?_ | refine balN ?_ _)))
     ((first
       | (go_at_call 32;(with_reducible refine (HOwn.out wr.drew (Below.refl _ _).drew).mono ?_);intro e w1 h2;obtain⟨A1,rfl,ho⟩:=made_a h2;have HO1:=Lib.hid ho;clear h2 ho)
       | (go_at_call 32;(with_reducible refine (HOwn.out (wr.alloc (.cells #[Value.int .i64 (-1)] 3)).drew (balN (Below.refl _ _) _).drew).mono ?_);intro e w1 h2;obtain⟨A1,rfl,ho,hq⟩:=made_b h2;have HO1:=Lib.hid ho;have HQ1:=Lib.hid hq;clear h2 ho hq)
       | (go_at_call 33;(with_reducible refine (HRep.out w1.heap.size (w1.alloc (.cells #[Value.int .i64 (-1)] 3)) (ltN _ _) (cellN _)).mono ?_);intro e wR h2;obtain⟨rfl,ho⟩:=made_d hn.out HO1.out h2;have HE:=Lib.hid ho;clear h2 ho)
       | (go_at_call 33;(with_reducible refine (HRep.out wr.heap.size w1 HQ1.out.1 HQ1.out.2).mono ?_);intro e wR h2;obtain⟨rfl,ho⟩:=made_f hn.out HO1.out h2;have HE:=Lib.hid ho;clear h2 ho)))
    all_goals go_wp2_with fail
    all_goals go_meet
    all_goals exact HE.out.cut (by simp)
   case rest=>
    obtain⟨wc,rfl,p,A1,q,rfl,hnt,hbc⟩:=hcut
    have HNT:=Lib.hid (And.intro hnt hbc)
    clear hnt hbc HOwn HRep
    obtain⟨d1,d2,d0⟩:=FA.out wc HNT.out.2
    have HH:Hid (Calls Tryz.prog 34 #[.agg cv.toArray] wc (NewZ (halvesL c.N c.P) wc)):=Lib.hid (by
     have hb:=HR.out.2.1.trans (HNT.out.2.mono HR.out.2.1.size)
     rw [HCV.out]
     have hcf:=HCF.out.below hb
     exact halves_any S A c wc hcf (HSG.out.below hb) (by have:=HOK.out.p;have:=hcf.p.1;omega))
    go_wp2_with fail
    (with_reducible refine HH.out.mono ?_)
    rintro e w3 ⟨ha,hcap,rfl,hrd,hc1,hc2,hb3⟩
    obtain⟨m,hm⟩:∃m,m=(halvesL c.N c.P).length:=⟨_,rfl⟩
    rw [←hm] at hrd hc1 ⊢
    go_wp2_with fail
    have hmb:m≤16:=by rw [hm,halvesL_len];have:=HOK.out.p;omega
    have hHZ:∀(k:Nat) (z:Int),(halvesL c.N c.P)[k]? =some z→0≤z∧z<n:=by
     intro k z hz
     have h1:=List.mem_of_getElem? hz
     simp only [halvesL,List.mem_flatMap] at h1
     obtain⟨a,ha,hz2⟩:=h1
     obtain⟨i,hi⟩:=List.mem_iff_getElem?.1 ha
     have h2:=(HOK.out.pr i a hi).1
     have hN:=HOK.out.n
     have hnn:=hn.out
     simp at hz2
     rcases hz2 with rfl | rfl
     ·omega
     ·rw [stepE,if_pos ⟨hN,h2⟩]
      have h3:=Int.emod_nonneg (a+1) (show c.N≠0 by omega)
      have h4:=Int.emod_lt_of_pos (a+1) (show 0<c.N by omega)
      omega
    have hq:=HNT.out.1.tab.lt
    have HL3:=Lib.hid (And.intro hrd (And.intro hb3 hHZ))
    have hmc:m≤maxLen:=by unfold maxLen;omega
    obtain⟨Hv,hHv⟩:∃Hv,Hid (Hv=halvesL c.N c.P):=⟨_,Lib.hid rfl⟩
    have H0:Hid (NetTab (wr.heap.size≤·) w3 p A1 q c (tabK n Hv 0)∧Below wr.heap.size wr w3∧RdZ (wc.heap.size≤·) w3 ha m Hv):=Lib.hid ⟨by
     have:=HNT.out.1.keep hb3.size (fun b _ hl=>hb3.block b hl)
     rwa [show c.N.toNat=n by have:=hn.out;omega] at this,HNT.out.2.trans (hb3.mono HNT.out.2.size),by rw [hHv.out];exact hrd⟩
    clear HH hrd hb3 hHZ d0 d1 d2
    obtain⟨wo,rfl⟩:∃wo,wo=wr:=⟨_,rfl⟩
    go_loopw [35,8,9] (fun i _ _ wr'=> ∃k:Nat,k≤m∧i=.int .i64 k∧Hid (NetTab (wo.heap.size≤·) wr' p A1 q c (tabK n Hv k)∧Below wo.heap.size wo wr'∧RdZ (wc.heap.size≤·) wr' ha m Hv)) (fun i _ _ _=>m - (intOf i).toNat)
    case atStart=>exact⟨0,by omega,rfl,H0⟩
    case round=>
     obtain⟨k,hk,rfl,HK⟩:=hrel
     clear H0
     by_cases hlt:k<m
     ·have hlt':(k:Int)<m:=by omega
      have hk0:(0:Int)≤k:=by omega
      obtain⟨hb,off,z,rfl,hSb,hbl,hz,hc⟩:=HK.out.2.2.at_ hlt
      obtain⟨hz0,hzn⟩:=HL3.out.2.2 k z (by rw [←hHv.out];exact hz)
      obtain⟨y,rfl⟩:∃y:Nat,z=y:=⟨z.toNat,by omega⟩
      have hyn:y<n:=by omega
      have g9:wr.cell? ⟨p,9,none⟩=some (.slice (some ⟨q,0,none⟩) n n):=by
       have:=HK.out.1.blk.cell 9
       rw [show c.N.toNat=n by have:=hn.out;omega] at this
       exact this
      have gq:wr.cell? ⟨q,y,none⟩=some (.int .i64 ((tabK n Hv k).getD y 0)):=by
       rw [HK.out.1.tab.cell y,List.getElem?_toArray,ints,List.getElem?_map,List.getD_eq_getElem?_getD,List.getElem?_eq_getElem (by rw [tabK_len];exact hyn)]
       rfl
      have gf:wr.frozen? ⟨q,y,none⟩=false:=HK.out.1.tab.frozen y
      have HZ:=Lib.hid hz
      obtain⟨old,ho⟩:∃old:Int,Hid (old=(tabK n Hv k).getD y 0):=⟨_,Lib.hid rfl⟩
      rw [←ho.out] at gq
      have hkq:((k:Int)).tdiv 2=((k / 2:Nat):Int):=by rw [Int.tdiv_eq_ediv_of_nonneg (by omega)];omega
      clear hz hSb hz0 hzn
      have HN:Hid (∀v:Int,v=((k / 2:Nat):Int)→NetTab (wo.heap.size≤·) (wr.setCell ⟨q,y,none⟩ (.int .i64 v)) p A1 q c (tabK n Hv (k+1))∧Below wo.heap.size wo (wr.setCell ⟨q,y,none⟩ (.int .i64 v))∧RdZ (wc.heap.size≤·) (wr.setCell ⟨q,y,none⟩ (.int .i64 v)) (some ⟨hb,off,none⟩) m Hv):=Lib.hid fun v hv=>⟨by
       rw [tabK_step HZ.out,hv];exact HK.out.1.store y _,HK.out.2.1.setCell HK.out.1.sq _,HK.out.2.2.keep (Nat.le_of_eq (by simp)) (fun b hb _=>Below.heap_setCell wr _ _ b (fun he=>by simp only at he;subst he;omega))⟩
      go_wp2_with fail
      exact⟨⟨k+1,by omega,by go_num,Lib.hid (HN.out _ (by omega))⟩,by simp [intOf];omega⟩
     ·obtain rfl:k=m:=by omega
      have hlt':¬(k:Int)<k:=by omega
      have HF:Hid (NewYes c w (.returned (.tuple #[.pointer (some ⟨p,0,none⟩),.int .i64 0])) wr):=Lib.hid ⟨p,A1,q,rfl,by
       have h1:=HK.out.1
       rw [hHv.out,hm] at h1
       have h2:NetTab (wo.heap.size≤·) wr p A1 q c (pairsL c):=by rw [pairsL,show c.N.toNat=n by have:=hn.out;omega];exact h1
       exact h2.mono (S':=(w.heap.size≤·)) fun b _ hb=>Nat.le_trans HR.out.2.1.size hb,HR.out.2.1.trans (HK.out.2.1.mono HR.out.2.1.size)⟩
      go_wp2_with fail
      go_ret2
      exact HF.out
structure NetC (w:World) (p:Nat) (A:CfA) (q:Nat) (c:Cfg):Prop where
 c0:w.cell? ⟨p,0,none⟩=some (.int .i64 c.N)
 c1:w.cell? ⟨p,1,none⟩=some (.slice A.pa A.pn A.pc)
 c2:w.cell? ⟨p,2,none⟩=some (.slice A.sa A.sn A.sc)
 c3:w.cell? ⟨p,3,none⟩=some (.int .i64 c.lo)
 c4:w.cell? ⟨p,4,none⟩=some (.slice A.ba A.bn A.bc)
 c5:w.cell? ⟨p,5,none⟩=some (.slice A.ta A.tn A.tc)
 c6:w.cell? ⟨p,6,none⟩=some (.int .i64 c.mi)
 c7:w.cell? ⟨p,7,none⟩=some (.int .i64 c.go)
 c8:w.cell? ⟨p,8,none⟩=some (.int .i64 c.fr)
 c9:w.cell? ⟨p,9,none⟩=some (.slice (some ⟨q,0,none⟩) c.N.toNat c.N.toNat)
 pl:p<w.heap.size
theorem NetTab.cells {S:Nat→Prop} {w:World} {p q:Nat} {A:CfA} {c:Cfg} {T:List Int} (h:NetTab S w p A q c T):NetC w p A q c:=
 ⟨h.blk.cell 0,h.blk.cell 1,h.blk.cell 2,h.blk.cell 3,h.blk.cell 4,h.blk.cell 5,h.blk.cell 6,h.blk.cell 7,h.blk.cell 8,h.blk.cell 9,h.blk.lt⟩
theorem NetTab.at_ {S:Nat→Prop} {w w':World} {p q:Nat} {A:CfA} {c:Cfg} {T:List Int} (h:NetTab S w p A q c T) (hb:Below w.heap.size w w'):NetTab S w' p A q c T:=h.keep hb.size fun b _ hl=>hb.block b hl
def thereP (b:Bool) (w:World) (e:Ending) (w':World):Prop:=e=.returned (.bool b)∧w'=w
set_option maxRecDepth 100000 in
set_option maxHeartbeats 1000000 in
theorem there_any (p:Nat) (A:CfA) (q:Nat) (c:Cfg) (w:World) (h:NetC w p A q c) (hN:4≤c.N):Calls Tryz.prog 82 #[.pointer (some ⟨p,0,none⟩)] w (thereP true w):=by
 obtain⟨n,hn,hn4⟩:∃n:Nat,c.N.toNat=n∧4≤n:=⟨_,rfl,by omega⟩
 have c9:=h.c9
 rw [hn] at c9
 have h0:(0:Int)<n:=by omega
 have h0':0<n:=by omega
 clear h hN hn
 go_enter Tryz.func82,Tryz.ntmps82
 go_wp2
 go_ret
 exact⟨rfl,rfl⟩
def roundV (c:Cfg):Int:=(c.Sl.length:Nat)*c.lo
theorem RefOk.roundV {c:Cfg} (h:RefOk c):120≤roundV c∧roundV c≤65536:=by
 obtain⟨h1,h2⟩:=h.s
 obtain⟨h3,h4⟩:=h.lo
 have h5:=h.n.1
 unfold Proofs.YtdilbjikeilhbaaGreatDoor.roundV
 constructor
 ·have:(1:Int)*120≤(c.Sl.length:Nat)*c.lo:=Int.mul_le_mul (by omega) (by omega) (by omega) (by omega)
  omega
 ·have:((c.Sl.length:Nat):Int)*c.lo≤16*4096:=Int.mul_le_mul (by omega) (by omega) (by omega) (by omega)
  omega
theorem belowD (w:World) (n:Nat):Below w.heap.size w (w.drewN n):=⟨rfl,rfl,rfl,Nat.le_refl _,fun _ _=>rfl⟩
def RetI (z:Int) (w:World) (e:Ending) (w':World):Prop:=e=.returned (.int .i64 z)∧Below w.heap.size w w'
set_option maxRecDepth 100000 in
set_option maxHeartbeats 1000000 in
theorem round4_any (S:Nat→Prop) (p:Nat) (A:CfA) (q:Nat) (c:Cfg) (w:World) (h:NetAt S w p A q c) (hok:RefOk c):Calls Tryz.prog 39 #[.pointer (some ⟨p,0,none⟩)] w (RetI (roundV c) w):=by
 have HT:=Lib.hid (there_any p A q c w h.cells hok.n.1)
 obtain⟨z,hz,hz1,hz2⟩:∃z,z=roundV c∧120≤z∧z≤65536:=⟨_,rfl,hok.roundV⟩
 rw [←hz]
 have hsl:=h.cf.s.1
 rw [roundV,hsl] at hz
 have hw:IntKind.i64.wrap ((A.sn:Int)*c.lo)=z:=by rw [←hz];exact IntWalk.i64_in _ (by omega)
 obtain⟨c0,c1,c2,c3,c4,c5,c6,c7,c8,c9,-⟩:=h.cells
 clear h hz hsl hok c0 c1 c4 c5 c6 c7 c8 c9
 go_enter Tryz.func39,Tryz.ntmps39
 go_wp2_with fail
 (with_reducible refine HT.out.mono ?_)
 rintro e w' ⟨rfl,rfl⟩
 go_wp2_with fail
 go_quiet (fail)
 go_wp2_with fail
 go_ret
 exact⟨rfl,belowD w' _⟩
def atE (zs:List Int) (i:Int):Int:=if 0≤i∧i<zs.length then zs.getD i.toNat 0 else -1
set_option maxRecDepth 100000 in
set_option maxHeartbeats 1000000 in
theorem atC_any (S:Nat→Prop) (a:Option Addr) (len cap:Nat) (zs:List Int) (i:Int) (w:World) (h:RdZ S w a len zs) (hm1:len≤cap) (hm2:cap≤maxLen):Calls Tryz.prog 195 #[.slice a len cap,.int .i64 i] w fun e w'=>e=.returned (.int .i64 (atE zs i))∧w'=w:=by
 unfold maxLen at hm2
 have HR:=Lib.hid h
 have hl:=h.1
 clear h
 by_cases h0:i<0
 ·have HE:Hid (atE zs i= -1):=Lib.hid (by rw [atE,if_neg (by omega)])
  go_enter Tryz.func195,Tryz.ntmps195
  go_wp2_with fail
  go_ret
  rw [HE.out]
  exact⟨rfl,rfl⟩
 ·obtain⟨k,rfl⟩:∃k:Nat,i=k:=⟨i.toNat,by omega⟩
  by_cases hk:k<len
  ·obtain⟨b,off,z,rfl,-,hbl,hz,hc⟩:=HR.out.at_ hk
   have HE:Hid (atE zs k=z):=Lib.hid (by rw [atE,if_pos (by omega)];simp [List.getD_eq_getElem?_getD,hz])
   have hk':¬(len:Int)≤k:=by omega
   have hk2:(k:Int)<len:=by omega
   have hk0:(0:Int)≤k:=by omega
   clear hz
   go_enter Tryz.func195,Tryz.ntmps195
   go_wp2_with fail
   go_ret
   rw [HE.out]
   exact⟨rfl,rfl⟩
  ·have HE:Hid (atE zs k= -1):=Lib.hid (by rw [atE,if_neg (by omega)])
   have hk':(len:Int)≤k:=by omega
   go_enter Tryz.func195,Tryz.ntmps195
   go_wp2_with fail
   go_ret
   rw [HE.out]
   exact⟨rfl,rfl⟩
theorem NetTab.tabZ {S:Nat→Prop} {w:World} {p q:Nat} {A:CfA} {c:Cfg} {T:List Int} (h:NetTab S w p A q c T) (hl:T.length=c.N.toNat):RdZ S w (some ⟨q,0,none⟩) c.N.toNat T:=
 ⟨hl,fun k z hz=>⟨q,0,rfl,h.sq,h.tab.lt,by rw [h.tab.cell,List.getElem?_toArray,ints,List.getElem?_map,Nat.zero_add,hz];rfl⟩⟩
theorem NetTab.cfS {S:Nat→Prop} {w:World} {p q:Nat} {A:CfA} {c:Cfg} {T:List Int} (h:NetTab S w p A q c T):CfR S w A c:=h.cf.mono fun b _ hb=>hb.1
set_option maxRecDepth 100000 in
set_option maxHeartbeats 1000000 in
theorem firstN_any (S:Nat→Prop) (p:Nat) (A:CfA) (q:Nat) (c:Cfg) (w:World) (h:NetAt S w p A q c) (hN:4≤c.N) (k:Int):Calls Tryz.prog 184 #[.pointer (some ⟨p,0,none⟩),.int .i64 k] w fun e w'=>e=.returned (.int .i64 (atE c.P k))∧w'=w:=by
 have HT:=Lib.hid (there_any p A q c w h.cells hN)
 have HA:=Lib.hid (atC_any S A.pa A.pn A.pc c.P k w (NetTab.cfS h).p h.cf.cp.1.1 h.cf.cp.1.2)
 obtain⟨c0,c1,-⟩:=h.cells
 clear h hN c0
 go_enter Tryz.func184,Tryz.ntmps184
 go_wp2_with fail
 (with_reducible refine HT.out.mono ?_)
 rintro e w' ⟨rfl,rfl⟩
 go_wp2_with fail
 (with_reducible refine HA.out.mono ?_)
 rintro e w' ⟨rfl,rfl⟩
 go_wp2_with fail
 go_ret
 exact⟨rfl,rfl⟩
set_option maxRecDepth 100000 in
set_option maxHeartbeats 1000000 in
theorem pairN_any (S:Nat→Prop) (p:Nat) (A:CfA) (q:Nat) (c:Cfg) (w:World) (h:NetAt S w p A q c) (hok:RefOk c) (k:Int):Calls Tryz.prog 164 #[.pointer (some ⟨p,0,none⟩),.int .i64 k] w fun e w'=>e=.returned (.int .i64 (atE (pairsL c) k))∧w'=w:=by
 have HT:=Lib.hid (there_any p A q c w h.cells hok.n.1)
 have HA:=Lib.hid (atC_any S (some ⟨q,0,none⟩) c.N.toNat c.N.toNat (pairsL c) k w (NetTab.tabZ h (by unfold pairsL;exact tabK_len _ _ _)) (Nat.le_refl _) (by unfold maxLen;have:=hok.n;omega))
 obtain⟨c0,c1,c2,c3,c4,c5,c6,c7,c8,c9,-⟩:=h.cells
 clear h hok c0 c1 c2 c3 c4 c5 c6 c7 c8
 go_enter Tryz.func164,Tryz.ntmps164
 go_wp2_with fail
 (with_reducible refine HT.out.mono ?_)
 rintro e w' ⟨rfl,rfl⟩
 go_wp2_with fail
 (with_reducible refine HA.out.mono ?_)
 rintro e w' ⟨rfl,rfl⟩
 go_wp2_with fail
 go_ret
 exact⟨rfl,rfl⟩
set_option maxRecDepth 100000 in
set_option maxHeartbeats 1000000 in
theorem given_any (S:Nat→Prop) (p:Nat) (A:CfA) (q:Nat) (c:Cfg) (w:World) (h:NetAt S w p A q c) (hok:RefOk c):Calls Tryz.prog 132 #[.pointer (some ⟨p,0,none⟩)] w (OwnP c w):=by
 have hB0:Below w.heap.size w (w.alloc (.cells cfZ.toArray 25)):=(Below.refl _ _).alloc (Nat.le_refl _) _
 have h1:=NetTab.at_ h hB0
 have HT:=Lib.hid (there_any p A q c _ h1.cells hok.n.1)
 have hcf:=NetTab.cfS h1
 have HO:=Lib.hid (own_any S A c _ hcf (by have:=hok.p;have:=hcf.p.1;omega) (by have:=hok.s;have:=hcf.s.1;omega) (by have:=hok.bl;have:=hcf.b.1;have:=hok.n;omega) (by have:=hok.t;have:=hcf.t.1;omega))
 obtain⟨-,-,d3,d4,-⟩:=h1.blk.rules
 have e1:hasRow (w.alloc (.cells cfZ.toArray 25)) ⟨p,0,none⟩ 9=true:=by rw [d3];simp [len_cfV]
 have e2:rowOf (w.alloc (.cells cfZ.toArray 25)) ⟨p,0,none⟩ 9=cfV A c:=by rw [d4 0 9 (by simp [len_cfV]),List.drop_zero,List.take_left' (len_cfV A c)]
 have HK:=Lib.hid (And.intro hB0 (Blk.new w 25 cfZ.toArray))
 clear h hok hcf d3 d4 h1 hB0
 go_enter Tryz.func132,Tryz.ntmps132
 go_upto_region 1 with fail
 have hcz:(w.alloc (.cells #[Value.int .i64 0,.slice none 0 0,.slice none 0 0,.int .i64 0,.slice none 0 0,.slice none 0 0,.int .i64 0,.int .i64 0,.int .i64 0] 25))=w.alloc (.cells cfZ.toArray 25):=rfl
 rw [hcz]
 generalize w.alloc (.cells cfZ.toArray 25)=w0 at HK HT HO e1 e2 ⊢
 go_wp2_with fail
 (with_reducible refine HT.out.mono ?_)
 rintro e w' ⟨rfl,rfl⟩
 go_wp2_with fail
 (with_reducible refine HO.out.mono ?_)
 rintro e w1 ⟨A2,rfl,hc2,hb2⟩
 obtain⟨cv2,hcv2⟩:∃cv2,cv2=cfV A2 c:=⟨_,rfl⟩
 rw [←hcv2]
 have hvl2:cv2.length=9:=by rw [hcv2];rfl
 have hvc:cv2.all cell1=true:=by rw [hcv2];rfl
 have n1:=HK.out.2.below hb2 HK.out.2.lt
 obtain⟨-,-,r3⟩:=n1.whole (n:=9) rfl
 obtain⟨p1,p2,-⟩:=(n1.put_all (l:=cv2) (by rw [hvl2];rfl)).whole hvl2
 have hfin:OwnP c w (.returned (.agg cv2.toArray)) (putRow w1 ⟨w.heap.size,0,none⟩ cv2):=by
  have hz:=HK.out.1.size
  have hz2:=HK.out.2.lt
  refine⟨A2,by rw [hcv2],(hc2.keep (by simp) fun b hS hl=>putRow_other _ _ _ _ (by simp;omega)).mono fun b _ hS=>by omega,?_⟩
  exact Below.put (HK.out.1.trans (hb2.mono hz)) (by simp) _
 have HF:=Lib.hid (And.intro p1 (And.intro p2 hfin))
 clear p1 p2 hfin n1 hc2 hb2 hcv2
 go_wp2_with fail
 try simp only [Exit.inBlock,Exit.then]
 first | refine bodyPost_ret (ret_rowB (n:=9) rfl (by kernel_rfl) _ _ _ rfl ?_) rfl ?_ | refine bodyPost_end (ret_rowB (n:=9) rfl (by kernel_rfl) _ _ _ rfl ?_) rfl ?_
 ·exact HF.out.1
 ·rw [HF.out.2.1]
  exact HF.out.2.2
end Go.Proofs.YtdilbjikeilhbaaGreatDoor
