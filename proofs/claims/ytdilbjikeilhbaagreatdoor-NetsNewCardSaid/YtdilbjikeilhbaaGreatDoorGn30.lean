import Derived.Deep.RegionHeld3
import Derived.Test.YtdilbjikeilhbaaGreatDoorGn29
namespace Go.Proofs.YtdilbjikeilhbaaGreatDoor
open Go.RowKit
set_option linter.unusedVariables false
set_option linter.unusedSimpArgs false
def maxAge:Int:=1099511627776
def ofT (c:Cfg) (age:Int):Int×Int×Int:=(age / roundV c,age % roundV c / c.lo,age % roundV c % c.lo)
def timeV (t:Int×Int×Int):List Value:=[.int .i64 t.1,.int .i64 t.2.1,.int .i64 t.2.2]
def ofOk (age:Int):Bool:=decide (0≤age∧age≤maxAge)
def OfP (c:Cfg) (age:Int) (w:World) (e:Ending) (w':World):Prop:=
 e=.returned (.tuple #[.agg (timeV (if ofOk age then ofT c age else (0,0,0))).toArray,.int .i64 (if ofOk age then 0 else 1)])∧Below w.heap.size w w'
theorem long_any (S:Nat→Prop) (p:Nat) (A:CfA) (q:Nat) (c:Cfg) (w:World) (h:NetAt S w p A q c):Calls Tryz.prog 236 #[.pointer (some ⟨p,0,none⟩)] w fun e w'=>e=.returned (.int .i64 c.lo)∧w'=w:=by
 have c3:=h.cells.c3
 clear h
 go_enter Tryz.func236,Tryz.ntmps236
 go_wp2_with fail
 go_ret
 exact⟨rfl,rfl⟩
def ckCells (p:Nat) (s:Int) (t:Int×Int×Int):List Value:=.pointer (some ⟨p,0,none⟩) :: .int .i64 s :: timeV t
def CkNew (p:Nat) (w:World) (e:Ending) (w':World):Prop:=∃g,e=.returned (.pointer (some ⟨g,0,none⟩))∧Blk w' g 314 (ckCells p 0 (0,0,0)).toArray∧w.heap.size≤g∧Below w.heap.size w w'
set_option maxRecDepth 100000 in
set_option maxHeartbeats 1000000 in
theorem cknew_any (S:Nat→Prop) (p:Nat) (A:CfA) (q:Nat) (c:Cfg) (w:World) (h:NetAt S w p A q c) (hok:RefOk c):Calls Tryz.prog 83 #[.pointer (some ⟨p,0,none⟩)] w (CkNew p w):=by
 have HR:=Lib.hid (round4_any S p A q c w h hok)
 obtain⟨r,hr,hr1⟩:∃r,r=roundV c∧120≤r:=⟨_,rfl,hok.roundV.1⟩
 rw [←hr] at HR
 have hr0:¬r=0:=by omega
 clear h hok hr hr1
 go_enter Tryz.func83,Tryz.ntmps83
 go_wp2_with fail
 (with_reducible refine HR.out.mono ?_)
 rintro e w1 ⟨rfl,hb⟩
 have HB:=Lib.hid hb
 clear hb
 go_wp2_with fail
 go_ret
 exact⟨_,rfl,Blk.new _ _ _,HB.out.size,HB.out.alloc HB.out.size _⟩
theorem ret_rowT {P:Program} {fn:Func} {p q:Tmp} {ty:TypeId} {n:Nat} (h:fn.results=#[.cell p ty,.tmp q]) (hT:aggOf P ty n=true) (tmps:Array Value) (w:World) (a:Addr)
 (hp:tmps.getD p undef=.pointer (some a)) (hr:hasRow w a n=true):(results fn tmps).run P w=.ok (.tuple #[.agg (rowOf w a n).toArray,tmps.getD q undef]) w:=by
 have hp':tmps[p]?.getD undef=.pointer (some a):=by simpa using hp
 simp [results,h,hp',asAddr,run_load_row hT hr]
theorem ag_time:aggOf Tryz.prog 76 3=true:=by kernel_rfl
@[go_sem ↓] theorem ld_time (ρ:Operand→Value) (d:Option Tmp) (x:Operand) (ty:TypeId) (s:String) (af:Array Edge) (g:Option (Nat×Bool)) (w:World) (h:hasRowV w 3 (ρ x)=true) :
 (execOp ρ { dst:=d,op:=.load 76 x,type:=ty,pos:=s,after:=af,guard:=g }).run Tryz.prog w=.ok (.value (.agg (rowV w 3 (ρ x)).toArray)) w:=exec_load ag_time ρ d x ty s af g w h
@[go_sem ↓] theorem st_time (ρ:Operand→Value) (d:Option Tmp) (x y:Operand) (ty:TypeId) (s:String) (af:Array Edge) (g:Option (Nat×Bool)) (w:World) (h1:okAgg 3 (ρ y)=true) (h2:canPutV w 3 (ρ x)=true) :
 (execOp ρ { dst:=d,op:=.store 76 x y,type:=ty,pos:=s,after:=af,guard:=g }).run Tryz.prog w=.ok .skip (putV w (ρ x) (ρ y)):=exec_store ag_time ρ d x y ty s af g w h1 h2
theorem time_fin {w w1:World} {t:TypeId} {z l:List Value} (hB:Below w.heap.size w w1) (hk:Blk w1 w.heap.size t z.toArray) (hz:z.length=3) (hl:l.length=3) :
 canPut w1 ⟨w.heap.size,0,none⟩ 3=true∧hasRow (putRow w1 ⟨w.heap.size,0,none⟩ l) ⟨w.heap.size,0,none⟩ 3=true∧rowOf (putRow w1 ⟨w.heap.size,0,none⟩ l) ⟨w.heap.size,0,none⟩ 3=l∧Below w.heap.size w (putRow w1 ⟨w.heap.size,0,none⟩ l):=by
 obtain⟨-,-,r3⟩:=hk.whole hz
 obtain⟨p1,p2,-⟩:=(hk.put_all (l:=l) (by omega)).whole hl
 exact⟨r3,p1,p2,Below.put hB (Nat.le_refl _) _⟩
set_option maxRecDepth 100000 in
set_option maxHeartbeats 1000000 in
theorem of06_any (S:Nat→Prop) (p:Nat) (A:CfA) (q:Nat) (c:Cfg) (w:World) (h:NetAt S w p A q c) (hok:RefOk c) (age:Int):Calls Tryz.prog 190 #[.pointer (some ⟨p,0,none⟩),.int .i64 age] w (OfP c age w):=by
 have hB0:Below w.heap.size w (w.alloc (.cells #[Value.int .i64 0,.int .i64 0,.int .i64 0] 76)):=(Below.refl _ _).alloc (Nat.le_refl _) _
 have h1:=NetTab.at_ h hB0
 have HR:=Lib.hid (round4_any S p A q c _ h1 hok)
 obtain⟨r,hr⟩:∃r:Nat,Hid (roundV c=r):=⟨(roundV c).toNat,Lib.hid (by have:=hok.roundV;omega)⟩
 obtain⟨l,hl⟩:∃l:Nat,Hid (c.lo=l):=⟨c.lo.toNat,Lib.hid (by have:=hok.lo;have:=hok.n;omega)⟩
 have hr1:120≤r:=by have:=hok.roundV;have:=hr.out;omega
 have hr2:r≤65536:=by have:=hok.roundV;have:=hr.out;omega
 have hl1:120≤l:=by have:=hok.lo;have:=hok.n;have:=hl.out;omega
 have HL:Hid (∀w',Below w.heap.size w w'→Calls Tryz.prog 236 #[.pointer (some ⟨p,0,none⟩)] w' fun e w''=>e=.returned (.int .i64 l)∧w''=w'):=Lib.hid fun w' hb=>by
  rw [←hl.out];exact long_any S p A q c w' (NetTab.at_ h hb)
 rw [hr.out] at HR
 have hr0:¬(r:Int)=0:=by omega
 have hl0:¬(l:Int)=0:=by omega
 have HK:=Lib.hid (And.intro hB0 (Blk.new w 76 #[Value.int .i64 0,.int .i64 0,.int .i64 0]))
 have H3:Hid (age<0∨1099511627776<age→ofOk age=false):=Lib.hid (by intro h;simp only [ofOk,maxAge];exact decide_eq_false (by omega))
 clear h hok h1 hB0
 go_enter Tryz.func190,Tryz.ntmps190
 go_upto_region 1 with fail
 generalize w.alloc (.cells #[Value.int .i64 0,.int .i64 0,.int .i64 0] 76)=w0 at HK HR ⊢
 go_wp2_with fail
 (with_reducible refine HR.out.mono ?_)
 rintro e w1 ⟨rfl,hb⟩
 have HB:=Lib.hid (HK.out.1.trans (hb.mono HK.out.1.size))
 have HB1:=Lib.hid (HK.out.2.below hb HK.out.2.lt)
 clear hb
 have HFz:=Lib.hid (time_fin (l:=[Value.int .i64 0,.int .i64 0,.int .i64 0]) HB.out HB1.out rfl rfl)
 by_cases hneg:age<0
 ·have cp:=HFz.out.1
  go_wp2_with fail
  try simp only [Exit.inBlock,Exit.then]
  first | refine bodyPost_ret (ret_rowT (n:=3) rfl ag_time _ _ _ rfl ?_) rfl ?_ | refine bodyPost_end (ret_rowT (n:=3) rfl ag_time _ _ _ rfl ?_) rfl ?_
  ·exact HFz.out.2.1
  ·rw [HFz.out.2.2.1]
   exact⟨by rw [H3.out (.inl hneg)];rfl,HFz.out.2.2.2⟩
 ·by_cases hbig:1099511627776<age
  ·have cp:=HFz.out.1
   go_wp2_with fail
   try simp only [Exit.inBlock,Exit.then]
   first | refine bodyPost_ret (ret_rowT (n:=3) rfl ag_time _ _ _ rfl ?_) rfl ?_ | refine bodyPost_end (ret_rowT (n:=3) rfl ag_time _ _ _ rfl ?_) rfl ?_
   ·exact HFz.out.2.1
   ·rw [HFz.out.2.2.1]
    exact⟨by rw [H3.out (.inr hbig)];rfl,HFz.out.2.2.2⟩
  ·obtain⟨a,rfl⟩:∃a:Nat,age=a:=⟨age.toNat,by omega⟩
   obtain⟨m,hm⟩:∃m:Nat,m=a % r:=⟨_,rfl⟩
   have hmr:m<r:=by rw [hm];exact Nat.mod_lt _ (by omega)
   have h1:((a:Int)).tmod r=m:=by rw [hm,Int.tmod_eq_emod_of_nonneg (by omega)];rfl
   have h1':(a:Int) % r=m:=by rw [hm];rfl
   obtain⟨k,hk⟩:∃k:Nat,k=a / r:=⟨_,rfl⟩
   have h2:((a:Int)).tdiv r=k:=by rw [hk,Int.tdiv_eq_ediv_of_nonneg (by omega)];rfl
   have h2':(a:Int) / r=k:=by rw [hk];rfl
   obtain⟨x,hx⟩:∃x:Nat,x=m / l:=⟨_,rfl⟩
   obtain⟨y,hy⟩:∃y:Nat,y=m % l:=⟨_,rfl⟩
   have h3:((m:Int)).tdiv l=x:=by rw [hx,Int.tdiv_eq_ediv_of_nonneg (by omega)];rfl
   have h3':(m:Int) / l=x:=by rw [hx];rfl
   have h4:((m:Int)).tmod l=y:=by rw [hy,Int.tmod_eq_emod_of_nonneg (by omega)];rfl
   have h4':(m:Int) % l=y:=by rw [hy];rfl
   have hka:k≤a:=by rw [hk];exact Nat.div_le_self _ _
   have hwk:IntKind.i64.wrap (k:Int)=k:=IntWalk.i64_in _ (by omega)
   have hr0':¬r=0:=by omega
   have hl0':¬l=0:=by omega
   have hxm:x≤m:=by rw [hx];exact Nat.div_le_self _ _
   have hym:y≤m:=by rw [hy];exact Nat.mod_le _ _
   have hw1:IntKind.i64.wrap (x:Int)=x:=IntWalk.i64_in _ (by omega)
   have hw2:IntKind.i64.wrap (y:Int)=y:=IntWalk.i64_in _ (by omega)
   have HE:Hid (ofOk a=true∧ofT c a=((k:Int),(x:Int),(y:Int))):=Lib.hid ⟨by simp [ofOk,maxAge];omega,by rw [ofT,hr.out,hl.out,h1',h2',h3',h4']⟩
   have HD:Hid (Below w.heap.size w w1.drew):=Lib.hid HB.out.drew
   have HF:=Lib.hid (time_fin (l:=[Value.int .i64 k,.int .i64 x,.int .i64 y]) HB.out HB1.out rfl rfl)
   have cp:=HF.out.1
   clear hm hk hx hy H3 HFz
   have cpd:canPut w1.drew ⟨w.heap.size,0,none⟩ 3=true:=cp
   have cpp:canPut (putRow w1 ⟨w.heap.size,0,none⟩ [Value.int .i64 (k:Int),.int .i64 (x:Int),.int .i64 (y:Int)]).drew ⟨w.heap.size,0,none⟩ 3=true:=((HB1.out.put_all (l:=[Value.int .i64 (k:Int),.int .i64 (x:Int),.int .i64 (y:Int)]) rfl).whole rfl).2.2
   go_upto_region 7 with fail
   go_region_held3 (fun w'=>canPut w' ⟨w.heap.size,0,none⟩ 3=true)
    (with_reducible (first | assumption | exact cpd | exact cpp))
    ((go_at_call 236;refine (HL.out _ HD.out).mono ?_;rintro e w2 ⟨rfl,rfl⟩))
   all_goals go_wp2_with fail
   all_goals (try simp only [Exit.inBlock,Exit.then])
   all_goals first | refine bodyPost_ret (ret_rowT (n:=3) rfl ag_time _ _ _ rfl ?_) rfl ?_ | refine bodyPost_end (ret_rowT (n:=3) rfl ag_time _ _ _ rfl ?_) rfl ?_
   all_goals first
    | exact HF.out.2.1
    | (rw [show rowOf (putRow w1 ⟨w.heap.size,0,none⟩ [Value.int .i64 (k:Int),.int .i64 (x:Int),.int .i64 (y:Int)]).drew ⟨w.heap.size,0,none⟩ 3=_ from HF.out.2.2.1];exact⟨by rw [HE.out.1,HE.out.2];rfl,HF.out.2.2.2.drew⟩)
def Idle (c:Cfg) (age:Int) (sure:Bool):Prop:=sure=false∨ofOk age=false∨¬(ofT c age).2.2=0
set_option maxRecDepth 100000 in
set_option maxHeartbeats 1000000 in
theorem begin_idle (S:Nat→Prop) (p:Nat) (A:CfA) (q:Nat) (c:Cfg) (g:Nat) (t:Int×Int×Int) (s:Int) (w:World) (h:NetAt S w p A q c) (hok:RefOk c) (hg:Blk w g 314 (ckCells p s t).toArray) (hS:¬S g) (age:Int) (sure:Bool) (hi:Idle c age sure) :
 Calls Tryz.prog 152 #[.pointer (some ⟨g,0,none⟩),.int .i64 age,.bool sure] w fun e w'=>e=.returned (.tuple #[])∧Blk w' g 314 (ckCells p 0 t).toArray∧Chg (· =g) w w':=by
 have hk1:Blk (w.setCell ⟨g,1,none⟩ (.int .i64 0)) g 314 (ckCells p 0 t).toArray:=by
  have:=hg.set_ 1 (.int .i64 0)
  simpa [ckCells,timeV] using this
 have hc1:Chg (· =g) w (w.setCell ⟨g,1,none⟩ (.int .i64 0)):=(Chg.refl _ _).set_at 1 _
 have hn1:NetAt S (w.setCell ⟨g,1,none⟩ (.int .i64 0)) p A q c:=NetTab.keep h (by simp) fun b hb _=>Below.heap_setCell _ _ _ b (fun e=>hS (by simp only at e;rwa [←e]))
 have HO:=Lib.hid (of06_any S p A q c _ hn1 hok age)
 have HK:=Lib.hid (And.intro hk1 hc1)
 have HI:=Lib.hid hi
 have hgl:=hg.lt
 have g0:(w.setCell ⟨g,1,none⟩ (.int .i64 0)).cell? ⟨g,0,none⟩=some (.pointer (some ⟨p,0,none⟩)):=hk1.cell 0
 have g1:w.cell? ⟨g,1,none⟩=some (.int .i64 s):=hg.cell 1
 have g2:w.frozen? ⟨g,1,none⟩=false:=hg.frozen 1
 clear h hok hg hS hi hk1 hc1 hn1
 go_enter Tryz.func152,Tryz.ntmps152
 go_upto_region 1 with fail
 generalize w.setCell ⟨g,1,none⟩ (.int .i64 0)=w0 at HO HK g0 ⊢
 go_wp2_with fail
 (with_reducible refine HO.out.mono ?_)
 rintro e w1 ⟨rfl,hb⟩
 have HB:=Lib.hid hb
 clear hb
 obtain⟨tv,htv⟩:∃tv,Hid (tv=if ofOk age then ofT c age else (0,0,0)):=⟨_,Lib.hid rfl⟩
 rw [←htv.out]
 obtain⟨t1,t2,t3⟩:=tv
 obtain⟨en,hen⟩:∃en:Int,Hid (en=if ofOk age then 0 else 1):=⟨_,Lib.hid rfl⟩
 rw [←hen.out]
 rw [show timeV (t1,t2,t3)=[Value.int .i64 t1,.int .i64 t2,.int .i64 t3] from rfl]
 have HW2:Hid (Below w1.heap.size w1 (w1.alloc (.cells #[Value.int .i64 t1,.int .i64 t2,.int .i64 t3] 76))∧(w1.alloc (.cells #[Value.int .i64 t1,.int .i64 t2,.int .i64 t3] 76)).cell? ⟨w1.heap.size,2,none⟩=some (.int .i64 t3)):=Lib.hid ⟨(Below.refl _ _).alloc (Nat.le_refl _) _,(Blk.new w1 76 #[Value.int .i64 t1,.int .i64 t2,.int .i64 t3]).cell 2⟩
 go_upto_region 2 with fail
 generalize w1.alloc (.cells #[Value.int .i64 t1,.int .i64 t2,.int .i64 t3] 76)=w2 at HW2 ⊢
 have HF:Hid (Blk w2 g 314 (ckCells p 0 t).toArray∧Chg (· =g) w w2):=Lib.hid (by
  have hb:=HB.out.trans (HW2.out.1.mono HB.out.size)
  exact⟨HK.out.1.below hb HK.out.1.lt,HK.out.2.trans (Chg.of_below hb _)⟩)
 have ct:=HW2.out.2
 cases sure with
 | false=>
   go_wp2_with fail
   go_end0
   exact⟨rfl,HF.out⟩
 | true=>
   by_cases he:en=0
   ·have ht3:¬t3=0:=by
     have h1:=HI.out
     have h2:=hen.out
     have h3:=htv.out
     rcases h1 with h1 | h1 | h1
     ·cases h1
     ·rw [h1] at h2;simp at h2;omega
     ·by_cases hk:ofOk age=true
      ·rw [if_pos hk] at h3;rw [←h3] at h1;exact h1
      ·rw [if_neg hk] at h2;omega
    go_wp2_with fail
    go_end0
    exact⟨rfl,HF.out⟩
   ·go_wp2_with fail
    go_end0
    exact⟨rfl,HF.out⟩
def timeZ:List Value:=[.int .i64 0,.int .i64 0,.int .i64 0]
@[go_sem] theorem len_timeZ:timeZ.length=3:=(rfl)
@[go_sem] theorem all_timeZ:timeZ.all cell1=true:=(rfl)
def TickIdle (p g:Nat) (t:Int×Int×Int) (w:World) (e:Ending) (w':World):Prop:=e=.returned (.tuple #[.agg timeZ.toArray,.bool false])∧Blk w' g 314 (ckCells p 0 t).toArray∧Chg (· =g) w w'
set_option maxRecDepth 100000 in
set_option maxHeartbeats 1000000 in
theorem cktick_idle (S:Nat→Prop) (p:Nat) (A:CfA) (q:Nat) (c:Cfg) (g:Nat) (t:Int×Int×Int) (w:World) (h:NetAt S w p A q c) (hok:RefOk c) (hg:Blk w g 314 (ckCells p 0 t).toArray) (hS:¬S g) (age:Int) (sure:Bool) (hi:Idle c age sure) :
 Calls Tryz.prog 105 #[.pointer (some ⟨g,0,none⟩),.int .i64 age,.bool sure] w (TickIdle p g t w):=by
 have hB0:Below w.heap.size w (w.alloc (.cells #[Value.int .i64 0,.int .i64 0,.int .i64 0] 76)):=(Below.refl _ _).alloc (Nat.le_refl _) _
 have HBg:=Lib.hid (begin_idle S p A q c g t 0 _ (NetTab.at_ h hB0) hok (hg.below hB0 hg.lt) hS age sure hi)
 have hn:=hg.below hB0 hg.lt
 have g0:(w.alloc (.cells #[Value.int .i64 0,.int .i64 0,.int .i64 0] 76)).cell? ⟨g,0,none⟩=some (.pointer (some ⟨p,0,none⟩)):=hn.cell 0
 have g1:(w.alloc (.cells #[Value.int .i64 0,.int .i64 0,.int .i64 0] 76)).cell? ⟨g,1,none⟩=some (.int .i64 0):=hn.cell 1
 have hgl:=hg.lt
 have HK:=Lib.hid (And.intro hB0 (Blk.new w 76 #[Value.int .i64 0,.int .i64 0,.int .i64 0]))
 clear h hok hg hS hi hB0 hn
 go_enter Tryz.func105,Tryz.ntmps105
 go_upto_region 1 with fail
 generalize w.alloc (.cells #[Value.int .i64 0,.int .i64 0,.int .i64 0] 76)=w0 at HBg HK g0 g1 ⊢
 go_wp2_with fail
 (with_reducible refine HBg.out.mono ?_)
 rintro e w1 ⟨rfl,hk,hc⟩
 have HK1:=Lib.hid (And.intro hk hc)
 have k1:w1.cell? ⟨g,1,none⟩=some (.int .i64 0):=hk.cell 1
 have hz:Blk w1 w.heap.size 76 #[Value.int .i64 0,.int .i64 0,.int .i64 0]:=HK.out.2.chg hc (by omega)
 obtain⟨r1,r2,r3⟩:=hz.whole (l:=timeZ) (n:=3) rfl
 obtain⟨p1,p2,-⟩:=(hz.put_all (l:=timeZ) (z:=timeZ) rfl).whole (n:=3) rfl
 have HF:Hid (TickIdle p g t w (.returned (.tuple #[.agg timeZ.toArray,.bool false])) (putRow w1 ⟨w.heap.size,0,none⟩ timeZ)):=Lib.hid ⟨rfl,(putRow_other _ _ _ _ (by simp;omega)).trans hk,((Chg.of_below HK.out.1 _).trans hc).put (.inr (Nat.le_refl _)) _⟩
 have HP:=Lib.hid (And.intro p1 p2)
 clear hk hc hz g0 g1 p1 p2
 go_wp2_with fail
 try simp only [Exit.inBlock,Exit.then]
 first | refine bodyPost_ret (ret_rowT (n:=3) rfl ag_time _ _ _ rfl ?_) rfl ?_ | refine bodyPost_end (ret_rowT (n:=3) rfl ag_time _ _ _ rfl ?_) rfl ?_
 ·exact HP.out.1
 ·rw [HP.out.2]
  exact HF.out
set_option maxRecDepth 100000 in
theorem ckslot_idle (p g:Nat) (t:Int×Int×Int) (w:World) (hg:Blk w g 314 (ckCells p 0 t).toArray):Calls Tryz.prog 106 #[.pointer (some ⟨g,0,none⟩)] w fun e w'=>e=.returned (.tuple #[.int .i64 0,.bool false])∧w'=w:=by
 have g0:w.cell? ⟨g,0,none⟩=some (.pointer (some ⟨p,0,none⟩)):=hg.cell 0
 have g1:w.cell? ⟨g,1,none⟩=some (.int .i64 0):=hg.cell 1
 clear hg
 go_enter Tryz.func106,Tryz.ntmps106
 go_wp2_with fail
 go_ret2
 exact⟨rfl,rfl⟩
def keptZ:List Value:=[.bool false,.int .i64 0,.int .u8 0,.int .u8 0,.int .u32 0,.int .u32 0]
def boxZ:List Value:=keptZ++(keptZ++(keptZ++(keptZ++(keptZ++(keptZ++(keptZ++keptZ))))))
def boxV (p:Nat) (fr:Int):List Value:=.pointer (some ⟨p,0,none⟩) :: .int .i64 fr :: boxZ
theorem bt_box:buildT Tryz.prog 402 (Value.pointer none :: .int .i64 0 :: boxZ) [(0,1),(1,1),(2,48)]:=⟨by kernel_rfl,by kernel_rfl⟩
@[go_sem ↓] theorem bd_box (ρ:Operand→Value) (d:Option Tmp) (x y:Operand) (ty:TypeId) (s:String) (af:Array Edge) (g:Option (Nat×Bool)) (w:World) (hx:lenC (ρ x) 1=true) (hy:lenC (ρ y) 1=true) :
 (execOp ρ { dst:=d,op:=.build 402 #[(0,x),(1,y)],type:=ty,pos:=s,after:=af,guard:=g }).run Tryz.prog w=.ok (.value (.agg (cellsL (ρ x)++(cellsL (ρ y)++boxZ)).toArray)) w:=
 exec_build2of bt_box rfl rfl rfl rfl ρ d x y ty s af g w hx hy
@[go_sem] theorem lenC_ptr (a:Option Addr):lenC (.pointer a) 1=true:=(rfl)
@[go_sem] theorem cellsL_ptr (a:Option Addr):cellsL (.pointer a)=[.pointer a]:=(rfl)
@[go_sem ↓] theorem fld_fresh (a b c d e f g h i:Value) (w:World):(Instr.field 25 (.agg #[a,b,c,d,e,f,g,h,i]) 8).run Tryz.prog w=.ok i w:=(by kernel_rfl)
def BoxNew (p:Nat) (fr:Int) (w:World) (e:Ending) (w':World):Prop:=∃g,e=.returned (.pointer (some ⟨g,0,none⟩))∧Blk w' g 402 (boxV p fr).toArray∧w.heap.size≤g∧Below w.heap.size w w'
set_option maxRecDepth 100000 in
set_option maxHeartbeats 1000000 in
theorem newbox_any (S:Nat→Prop) (p:Nat) (A:CfA) (q:Nat) (c:Cfg) (w:World) (h:NetAt S w p A q c) (hok:RefOk c):Calls Tryz.prog 133 #[.pointer (some ⟨p,0,none⟩)] w (BoxNew p c.fr w):=by
 have HR:=Lib.hid (round4_any S p A q c w h hok)
 have HG:Hid (∀w',Below w.heap.size w w'→Calls Tryz.prog 132 #[.pointer (some ⟨p,0,none⟩)] w' (OwnP c w')):=Lib.hid fun w' hb=>given_any S p A q c w' (NetTab.at_ h hb) hok
 obtain⟨r,hr,hr1⟩:∃r,r=roundV c∧120≤r:=⟨_,rfl,hok.roundV.1⟩
 rw [←hr] at HR
 have hr0:¬r=0:=by omega
 clear h hok hr hr1
 go_enter Tryz.func133,Tryz.ntmps133
 go_wp2_with fail
 (with_reducible refine HR.out.mono ?_)
 rintro e w1 ⟨rfl,hb⟩
 have HB:=Lib.hid hb
 clear hb
 go_wp2_with fail
 (with_reducible refine (HG.out w1 HB.out).mono ?_)
 rintro e w2 ⟨A2,rfl,hc2,hb2⟩
 have HB2:=Lib.hid (HB.out.trans (hb2.mono HB.out.size))
 clear hc2 hb2
 rw [show cfV A2 c=[Value.int .i64 c.N,.slice A2.pa A2.pn A2.pc,.slice A2.sa A2.sn A2.sc,.int .i64 c.lo,.slice A2.ba A2.bn A2.bc,.slice A2.ta A2.tn A2.tc,.int .i64 c.mi,.int .i64 c.go,.int .i64 c.fr] from rfl]
 go_wp2_with fail
 go_ret
 exact⟨_,rfl,Blk.new _ _ _,HB2.out.size,HB2.out.alloc HB2.out.size _⟩
def flowV (p:Nat) (me:Int) (v:Value):List Value:=[.pointer (some ⟨p,0,none⟩),.int .i64 me,v]
def FlowNew (p:Nat) (me:Int) (w:World) (e:Ending) (w':World):Prop:=∃g v,e=.returned (.tuple #[.pointer (some ⟨g,0,none⟩),.int .i64 0])∧Blk w' g 338 (flowV p me v).toArray∧w.heap.size≤g∧Below w.heap.size w w'
set_option maxRecDepth 100000 in
set_option maxHeartbeats 1000000 in
theorem flownew_any (S:Nat→Prop) (p:Nat) (A:CfA) (q:Nat) (c:Cfg) (me:Int) (w:World) (h:NetAt S w p A q c) (hok:RefOk c) (h0:0≤me) (h1:me<c.N):Calls Tryz.prog 88 #[.pointer (some ⟨p,0,none⟩),.int .i64 me] w (FlowNew p me w):=by
 have HR:=Lib.hid (round4_any S p A q c w h hok)
 obtain⟨r,hr,hr1⟩:∃r,r=roundV c∧120≤r:=⟨_,rfl,hok.roundV.1⟩
 rw [←hr] at HR
 have hr0:¬r=0:=by omega
 have HC:=Lib.hid h.cells
 have h0':¬me<0:=by omega
 clear h hok hr hr1
 go_enter Tryz.func88,Tryz.ntmps88
 go_wp2_with fail
 (with_reducible refine HR.out.mono ?_)
 rintro e w1 ⟨rfl,hb⟩
 have HB:=Lib.hid hb
 have c0:=(hb.cell (p:=⟨p,0,none⟩) HC.out.pl).trans HC.out.c0
 have h1':¬c.N≤me:=by omega
 clear hb
 go_wp2_with fail
 go_ret2
 exact⟨_,_,rfl,Blk.new _ _ _,HB.out.size,HB.out.alloc HB.out.size _⟩
theorem ag_view:aggOf Tryz.prog 89 42=true:=by kernel_rfl
@[go_sem ↓] theorem ld_viewN (ρ:Operand→Value) (d:Option Tmp) (x:Operand) (ty:TypeId) (s:String) (af:Array Edge) (g:Option (Nat×Bool)) (w:World) (h:hasRowV w 42 (ρ x)=true) :
 (execOp ρ { dst:=d,op:=.load 89 x,type:=ty,pos:=s,after:=af,guard:=g }).run Tryz.prog w=.ok (.value (.agg (rowV w 42 (ρ x)).toArray)) w:=exec_load ag_view ρ d x ty s af g w h
@[go_sem ↓] theorem st_viewN (ρ:Operand→Value) (d:Option Tmp) (x y:Operand) (ty:TypeId) (s:String) (af:Array Edge) (g:Option (Nat×Bool)) (w:World) (h1:okAgg 42 (ρ y)=true) (h2:canPutV w 42 (ρ x)=true) :
 (execOp ρ { dst:=d,op:=.store 89 x y,type:=ty,pos:=s,after:=af,guard:=g }).run Tryz.prog w=.ok .skip (putV w (ρ x) (ρ y)):=exec_store ag_view ρ d x y ty s af g w h1 h2
@[go_sem ↓] theorem al_viewN (ρ:Operand→Value) (d:Option Tmp) (ty:TypeId) (s:String) (af:Array Edge) (g:Option (Nat×Bool)) (w:World) :
 (execOp ρ { dst:=d,op:=.alloc 89,type:=ty,pos:=s,after:=af,guard:=g }).run Tryz.prog w=.ok (.value (.pointer (some ⟨w.heap.size,0,none⟩))) (w.alloc (.cells viewZ.toArray 89)):=exec_alloc (by unfold zeroIs;kernel_rfl) ρ d ty s af g w
def firstK (c:Cfg) (k:Nat):List Value:=(List.range 8).map (fun i:Nat=>Value.bool (decide (i<k)&&decide (0≤atE c.P i)))++viewZ.drop 8
def firstV (c:Cfg):List Value:=firstK c 8
theorem firstK_zero (c:Cfg):firstK c 0=viewZ:=by simp [firstK];rfl
theorem firstK_len (c:Cfg) (k:Nat):(firstK c k).length=42:=by simp [firstK];rfl
theorem firstK_all (c:Cfg) (k:Nat):(firstK c k).all cell1=true:=by
 simp only [firstK,List.all_append,Bool.and_eq_true]
 refine⟨?_,by decide⟩
 rw [List.all_map,List.all_eq_true]
 intro i hi
 rfl
theorem firstK_set (c:Cfg) {k:Nat} (hk:k<8):(firstK c k).set k (.bool (decide (0≤atE c.P k)))=firstK c (k+1):=by
 unfold firstK
 rw [List.set_append_left _ _ (by simpa using hk)]
 congr 1
 apply List.ext_getElem?
 intro i
 rw [List.getElem?_set]
 by_cases hik:k=i
 ·subst hik
  simp [hk]
 ·rw [if_neg hik]
  by_cases h8:i<8
  ·simp only [List.getElem?_map,List.getElem?_range h8,Option.map_some]
   congr 3
   simp
   omega
  ·simp [h8]
theorem firstK_at (c:Cfg) {k:Nat} (hk:k<8):∃b:Bool,(firstK c k).toArray[k]? =some (.bool b):=by
 refine⟨decide (k<k)&&decide (0≤atE c.P k),?_⟩
 rw [List.getElem?_toArray,firstK,List.getElem?_append_left (by simpa using hk),List.getElem?_map,List.getElem?_range hk]
 rfl
def FirstP (c:Cfg) (w:World) (e:Ending) (w':World):Prop:=e=.returned (.agg (firstV c).toArray)∧Below w.heap.size w w'
set_option maxRecDepth 100000 in
set_option maxHeartbeats 1000000 in
theorem first22_any (S:Nat→Prop) (p:Nat) (A:CfA) (q:Nat) (c:Cfg) (w:World) (h:NetAt S w p A q c) (hok:RefOk c):Calls Tryz.prog 134 #[.pointer (some ⟨p,0,none⟩)] w (FirstP c w):=by
 have HF:Hid (∀(k:Int) w',Below w.heap.size w w'→Calls Tryz.prog 184 #[.pointer (some ⟨p,0,none⟩),.int .i64 k] w' fun e w''=>e=.returned (.int .i64 (atE c.P k))∧w'=w''):=Lib.hid fun k w' hb=>by
  refine (firstN_any S p A q c w' (NetTab.at_ h hb) hok.n.1 k).mono ?_
  rintro e w2 ⟨rfl,rfl⟩
  exact⟨rfl,rfl⟩
 clear h hok
 have H0:Hid (Below w.heap.size w (w.alloc (.cells viewZ.toArray 89))∧Blk (w.alloc (.cells viewZ.toArray 89)) w.heap.size 89 (firstK c 0).toArray):=Lib.hid ⟨(Below.refl _ _).alloc (Nat.le_refl _) _,by rw [firstK_zero];exact Blk.new _ _ _⟩
 go_enter Tryz.func134,Tryz.ntmps134
 go_upto_region 1 with fail
 generalize w.alloc (.cells viewZ.toArray 89)=w0 at H0 ⊢
 go_wp2_with fail
 go_loopw [4,3] (fun i _ wr=> ∃k:Nat,k≤8∧i=.int .i64 k∧Hid (Below w.heap.size w wr∧Blk wr w.heap.size 89 (firstK c k).toArray)) (fun i _ _=>8 - (intOf i).toNat)
 case atStart=>exact⟨0,by omega,rfl,H0⟩
 case round=>
  obtain⟨k,hk,rfl,HK⟩:=hrel
  clear H0
  by_cases hlt:k<8
  ·have hlt':(k:Int)<8:=by omega
   have hk0:(0:Int)≤k:=by omega
   obtain⟨b0,hb0⟩:=firstK_at c hlt
   have gc:wr.cell? ⟨w.heap.size,k,none⟩=some (.bool b0):=(HK.out.2.cell k).trans hb0
   have gf:wr.frozen? ⟨w.heap.size,k,none⟩=false:=HK.out.2.frozen k
   have HC:=Lib.hid (HF.out k wr HK.out.1)
   obtain⟨z,hz⟩:∃z,Hid (z=atE c.P k):=⟨_,Lib.hid rfl⟩
   rw [←hz.out] at HC
   have HN:Hid (∀b:Bool,b=decide (0≤z)→Below w.heap.size w (wr.setCell ⟨w.heap.size,k,none⟩ (.bool b))∧Blk (wr.setCell ⟨w.heap.size,k,none⟩ (.bool b)) w.heap.size 89 (firstK c (k+1)).toArray):=Lib.hid fun b hb=>⟨HK.out.1.setCell (Nat.le_refl _) _,by
    have:=HK.out.2.set_ k (.bool b)
    rw [←firstK_set c hlt,←hz.out,←hb]
    simpa using this⟩
   go_wp2_with fail
   (with_reducible refine HC.out.mono ?_)
   rintro e w1 ⟨rfl,rfl⟩
   go_wp2_with fail
   exact⟨⟨k+1,by omega,by go_num,Lib.hid (HN.out _ (by first | rfl | simp))⟩,by simp [intOf];omega⟩
  ·obtain rfl:k=8:=by omega
   obtain⟨v,hv⟩:∃v,Hid (v=firstV c):=⟨_,Lib.hid rfl⟩
   have hk8:Blk wr w.heap.size 89 v.toArray:=by rw [hv.out];exact HK.out.2
   have hvl:v.length=42:=by rw [hv.out];exact firstK_len c 8
   have hva:v.all cell1=true:=by rw [hv.out];exact firstK_all c 8
   obtain⟨r1,r2,r3⟩:=hk8.whole hvl
   obtain⟨p1,p2,-⟩:=(hk8.put_all (l:=v) (by rw [hvl])).whole hvl
   have HE:Hid (FirstP c w (.returned (.agg v.toArray)) (putRow wr ⟨w.heap.size,0,none⟩ v)):=Lib.hid ⟨by rw [hv.out],Below.put HK.out.1 (Nat.le_refl _) _⟩
   have HP:=Lib.hid (And.intro p1 p2)
   clear p1 p2 hk8
   go_wp2_with fail
   try simp only [Exit.inBlock,Exit.then]
   first | refine bodyPost_ret (ret_rowB (n:=42) rfl ag_view _ _ _ rfl ?_) rfl ?_ | refine bodyPost_end (ret_rowB (n:=42) rfl ag_view _ _ _ rfl ?_) rfl ?_
   ·exact HP.out.1
   ·rw [HP.out.2]
    exact HE.out
end Go.Proofs.YtdilbjikeilhbaaGreatDoor
