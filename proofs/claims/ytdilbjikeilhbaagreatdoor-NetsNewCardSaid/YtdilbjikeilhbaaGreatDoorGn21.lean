import Derived.Test.YtdilbjikeilhbaaGreatDoorGn20
import Derived.Test.YtdilbjikeilhbaaGreatDoorGn09
import Derived.Test.YtdilbjikeilhbaaGreatDoorGn06
namespace Go.Proofs.YtdilbjikeilhbaaGreatDoor
open Go.RowKit
set_option linter.unusedVariables false
set_option linter.unusedSimpArgs false
structure PoM where
 s:Int
 rows:List Rw
def PoM.ok (p:PoM):Prop:=(0≤p.s∧p.s≤255)∧p.rows.length≤16∧∀r ∈ p.rows,r.t.length≤16
def poZ:PoM:=⟨0,[]⟩
def PoAt (S:Nat→Prop) (w:World) (x0 x1:Value) (p:PoM):Prop:=
 p.ok∧x0=.int .u8 p.s∧∃a cap,x1=.slice a p.rows.length cap∧RdRs S w a p.rows.length p.rows∧p.rows.length≤cap∧cap≤maxLen
theorem PoAt.keep {S:Nat→Prop} {w w':World} {x0 x1:Value} {p:PoM} (h:PoAt S w x0 x1 p) (hs:w.heap.size≤w'.heap.size) (hk:∀b,S b→b<w.heap.size→w'.heap[b]? =w.heap[b]?):PoAt S w' x0 x1 p:=by
 obtain⟨h1,h2,a,cap,h3,h4,h5⟩:=h
 exact⟨h1,h2,a,cap,h3,h4.keep hs hk,h5⟩
theorem PoAt.mono {S S':Nat→Prop} {w:World} {x0 x1:Value} {p:PoM} (h:PoAt S w x0 x1 p) (hs:∀b,b<w.heap.size→S b→S' b):PoAt S' w x0 x1 p:=by
 obtain⟨h1,h2,a,cap,h3,h4,h5⟩:=h
 exact⟨h1,h2,a,cap,h3,h4.mono hs,h5⟩
theorem PoAt.below {S:Nat→Prop} {w w':World} {x0 x1:Value} {p:PoM} (h:PoAt S w x0 x1 p) (hb:Below w.heap.size w w'):PoAt S w' x0 x1 p:=h.keep hb.size fun b _ hl=>hb.block b hl
theorem PoAt.zero (S:Nat→Prop) (w:World):PoAt S w (.int .u8 0) (.slice none 0 0) poZ:=⟨⟨by decide,by decide,by simp [poZ]⟩,rfl,none,0,rfl,⟨rfl,by simp [poZ],by simp [poZ]⟩,Nat.le_refl _,Nat.zero_le _⟩
theorem PoAt.cell1 {S:Nat→Prop} {w:World} {x0 x1:Value} {p:PoM} (h:PoAt S w x0 x1 p):cell1 x0=true∧cell1 x1=true:=by
 obtain⟨-,rfl,a,cap,rfl,-⟩:=h
 exact⟨rfl,rfl⟩
theorem ret_rowP {P:Program} {fn:Func} {p:Tmp} {ty:TypeId} {n:Nat} (h:fn.results=#[.cell p ty]) (hT:aggOf P ty n=true) (tmps:Array Value) (w:World) (a:Addr)
 (hp:tmps.getD p undef=.pointer (some a)) (hr:hasRow w a n=true):(results fn tmps).run P w=.ok (.agg (rowOf w a n).toArray) w:=by
 have hp':tmps[p]?.getD undef=.pointer (some a):=by simpa using hp
 simp [results,h,hp',asAddr,run_load_row hT hr]
theorem balP {w5 w':World} (h:Below w5.heap.size w5 w') (o:Obj):Below w5.heap.size w5 (w'.alloc o):=h.alloc h.size o
theorem step_appL {P:Program} {t e:TypeId} {size:Nat} (hA:AppOk P t e size) {w:World} {ops:Array Oper} {o:Oper} {a:Act} {K:Act→World→Prop} {Q:Exit→Act→World→Prop} {E:Prop} (hgd:o.guard=none) (s x:Operand)
 (ho:o.op=.call { callee:=.builtin .append,args:=#[s,x],argTypes:=#[t,t] })
 (base:Nat) (v:Value) (n:Nat) (xs:List Value) (hs:a.eval s=v) (hown:w.ownsRow base e size v n xs)
 (ad:Addr) (m c:Nat) (news:List Value) (hx:a.eval x=.slice (some ad) m c) (hl:news.length=m*size) (hr:hasRow w ad (m*size)=true) (hre:rowOf w ad (m*size)=news) (h1:news.all cell1=true)
 (hm:0<m) (hn:n+m≤1000000000) (hbase:base≤w.heap.size)
 (h:∀g cap w',w'.ownsRow base e size (.slice (some ⟨g,0,none⟩) (n+m) cap) (n+m) (xs++news)→w.grownBy w' v.ownBlock→(v.ownBlock=some g∨g=w.heap.size)→K (a.put o.dst (.slice (some ⟨g,0,none⟩) (n+m) cap)) w') :
 if Region.wanted o (yielded ops a.tmps)=true then Oper.wp P o a w K Q else E:=by
 obtain⟨ht,i,z,hi,hz,hsize,hby,hzs,hsz⟩:=hA
 refine step_append_lies w hgd s x t ho base e i z size i.bytes ht hi hz hsize rfl hzs hsz v n xs hs hown ad m c news hx hl (fun j u hu=> ?_) (fun u hu=>cell1_one (List.all_eq_true.1 h1 u hu)) hm (by simp only [maxLen];omega) ?_ hbase w.heap.size rfl (fun g cap w' h2 h3 h4 _=>h g cap w' h2 h3 h4)
 ·have hj:j<m*size:=by rw [←hl];exact (List.getElem?_eq_some_iff.1 hu).1
  rw [rowOf_at hr j hj,hre,hu]
 ·exact Nat.le_trans (Nat.mul_le_mul hn hby) (by omega)
structure OwI (w:World) (x0:Value) (l:List Rw) (k:Nat) (v:Value) (wr:World):Prop where
 ps:∃ps:List (Rw×Value),ps.length=k∧ps.map Prod.fst=l.take k∧OwnR (w.heap.size+2) wr 134 v ps
 b:Blk wr w.heap.size 63 #[x0,v]
 c:Blk wr (w.heap.size+1) 63 postZ.toArray
 bel:Below w.heap.size w wr
theorem OwI.own {w:World} {x0:Value} {l:List Rw} {k:Nat} {v:Value} {wr w':World} {ps:List (Rw×Value)} (p3:OwnR (w.heap.size+2) wr 134 v ps) (hb:Below wr.heap.size wr w'):w'.ownsRow (w.heap.size+2) 134 57 v ps.length (flatP ps):=
 own_block p3.1 (fun q hq=>hb.block q (p3.1.lt q hq).2)
theorem OwI.push {w:World} {x0:Value} {l:List Rw} {k:Nat} {v:Value} {wr wm w1:World} (h:OwI w x0 l k v wr) {ps:List (Rw×Value)} (p1:ps.length=k) (p2:ps.map Prod.fst=l.take k) (p3:OwnR (w.heap.size+2) wr 134 v ps) (hm:Below wr.heap.size wr wm) {y:Rw} {tv:Value} (hyk:y.ok) (hy:l[k]? =some y)
 (ht:RowR (wr.heap.size≤·) wm y tv) {g cap:Nat}
 (ho:w1.ownsRow (w.heap.size+2) 134 57 (.slice (some ⟨g,0,none⟩) (k+1) cap) (k+1) (flatP ps++y.vals tv)) (hg:wm.grownBy w1 v.ownBlock) (hlie:v.ownBlock=some g∨g=wm.heap.size) :
 OwI w x0 l (k+1) (.slice (some ⟨g,0,none⟩) (k+1) cap) (w1.setCell ⟨w.heap.size,1,none⟩ (.slice (some ⟨g,0,none⟩) (k+1) cap)):=by
 have hl:=fun b hb=>(p3.1.lt b hb)
 have hms:=hm.size
 have hcl:=h.c.lt
 have hB1:Below w.heap.size w w1:=(h.bel.trans (hm.mono h.bel.size)).grown hg (by omega) (fun q hq=>by have:=(hl q hq).1;omega)
 have p3m:OwnR (w.heap.size+2) wm 134 v ps:=p3.keep hms (fun b _ hb=>hm.block b hb)
 have hpush:=p3m.push hyk (ht.mono (fun b hb hS=>⟨by omega,fun e=>by have:=(hl b e.symm).2;omega⟩)) p1 ho hg hlie
 have hk:∀b,b<w.heap.size+2→w1.heap[b]? =wr.heap[b]?:=fun b hb=>(hg.block b (by omega) (fun e=>by have:=(hl b e.symm).1;omega)).trans (hm.block b (by omega))
 refine⟨⟨ps++ [(y,tv)],by simp [p1],by rw [List.map_append,p2,List.take_add_one,hy];rfl,?_⟩,?_,?_,hB1.setCell (p:=⟨w.heap.size,1,none⟩) (Nat.le_refl _) _⟩
 ·exact hpush.keep (by simp) (fun b hb _=>Below.heap_setCell _ _ _ _ (by show b≠w.heap.size;omega))
 ·have hb2:Blk w1 w.heap.size 63 #[x0,v]:=(hk _ (by omega)).trans h.b
  simpa using hb2.set_ 1 (.slice (some ⟨g,0,none⟩) (k+1) cap)
 ·have hb2:Blk w1 (w.heap.size+1) 63 postZ.toArray:=(hk _ (by omega)).trans h.c
  exact hb2.far (p:=⟨w.heap.size,1,none⟩) (by show w.heap.size+1≠w.heap.size;omega) _
set_option maxRecDepth 100000 in
set_option maxHeartbeats 1000000 in
theorem clipR_any (x:Option Addr) (m cap:Nat) (w:World) (hm1:m≤cap) (hm2:cap≤maxLen) :
 Calls Tryz.prog 168 #[.slice x m cap] w fun e w'=>e=.returned (.slice x m m)∧w=w':=by
 unfold maxLen at hm2
 have hcc:((m:Nat):Int)≤(m:Int):=Int.le_refl _
 cases x with
 | none=>
   go_enter Tryz.func168,Tryz.ntmps168
   go_wp2
   go_ret
   exact⟨rfl,rfl⟩
 | some p=>
   go_enter Tryz.func168,Tryz.ntmps168
   go_wp2
   go_ret
   exact⟨rfl,rfl⟩
def FOwnP (x0:Value) (p:PoM) (w:World) (e:Ending) (w':World):Prop:=∃y1,e=.returned (.agg #[x0,y1])∧PoAt (w.heap.size≤·) w' x0 y1 p∧Below w.heap.size w w'
set_option maxRecDepth 100000 in
set_option maxHeartbeats 2000000 in
theorem fown_any (S:Nat→Prop) (x0 x1:Value) (p:PoM) (w:World) (h:PoAt S w x0 x1 p):Calls Tryz.prog 114 #[.agg #[x0,x1]] w (FOwnP x0 p w):=by
 obtain⟨⟨hs,hln,hbt⟩,hx0,a,cap,rfl,hrd,hm1,hm2⟩:=h
 have HX0:=Lib.hid (And.intro hs hx0)
 have hc0:cell1 x0=true:=by rw [hx0];rfl
 obtain⟨n,hn⟩:∃n,n=p.rows.length:=⟨_,rfl⟩
 rw [←hn] at hrd hm1 hln ⊢
 have HR:=Lib.hid (And.intro hrd hbt)
 have HN:=Lib.hid hn
 unfold maxLen at hm2
 have hB:Below w.heap.size w ((w.alloc (.cells #[x0,.slice a n cap] 63)).alloc (.cells postZ.toArray 63)):=((Below.refl _ _).alloc (Nat.le_refl _) _).alloc (by simp) _
 have k1:=(Blk.new w 63 #[x0,.slice a n cap]).alloc (.cells postZ.toArray 63)
 have k2:=Blk.new (w.alloc (.cells #[x0,.slice a n cap] 63)) 63 postZ.toArray
 rw [show (w.alloc (.cells #[x0,.slice a n cap] 63)).heap.size=w.heap.size+1 by simp] at k2
 clear hs hx0 hrd hbt hn
 go_enter Tryz.func114,Tryz.ntmps114
 go_upto_region 1 with fail
 generalize (w.alloc (.cells #[x0,.slice a n cap] 63)).alloc (.cells postZ.toArray 63)=w0 at hB k1 k2 ⊢
 have c1:w0.cell? ⟨w.heap.size,1,none⟩=some (.slice a n cap):=k1.cell 1
 have z1:w0.frozen? ⟨w.heap.size,1,none⟩=false:=k1.frozen 1
 have HI:Hid (OwI w x0 p.rows 0 (.slice none 0 0) (w0.setCell ⟨w.heap.size,1,none⟩ (.slice none 0 0))):=Lib.hid ⟨⟨[],rfl,by simp,OwnR.nil _ _ _⟩,by simpa using k1.set_ 1 (.slice none 0 0),k2.far (p:=⟨w.heap.size,1,none⟩) (by show w.heap.size+1≠w.heap.size;omega) _,hB.setCell (p:=⟨w.heap.size,1,none⟩) (Nat.le_refl _) _⟩
 clear hB k1 k2
 obtain⟨g,hg⟩:∃g,Hid (g=w.heap.size):=⟨_,Lib.hid rfl⟩
 rw [←hg.out] at c1 z1 ⊢
 go_wp2_with fail
 rw [←hg.out] at HI
 generalize w0.setCell ⟨g,1,none⟩ (.slice none 0 0)=w1 at HI ⊢
 clear c1 z1
 go_loopw [13] (fun i wr=> ∃(k:Nat) (v:Value),k≤n∧i=.int .i64 k∧OwI w x0 p.rows k v wr) (fun i _=>n - (intOf i).toNat)
 case atStart=>exact⟨0,_,by omega,rfl,HI.out⟩
 case round=>
  obtain⟨k,v,hk,rfl,hI⟩:=hrel
  have HJ:=Lib.hid hI
  clear hI HI
  by_cases hlt:k<n
  ·obtain⟨b,off,x,m,cp,r,rfl,-,hbw,hl,hok,-,-,g1,g2,-,-,g5,g6,g7⟩:=(HR.out.1.below HJ.out.bel (fun b _ h=>h)).at_ k hlt
   obtain⟨xv,hxv⟩:∃xv,xv=r.vals (.slice x m cp):=⟨_,rfl⟩
   have g3:rowOf wr ⟨b,off+k*57,none⟩ 57=xv:=by rw [hxv];exact g2
   have hvl:xv.length=57:=by rw [hxv];exact Rw.len hok _
   have htk:List.take 57 xv=xv:=List.take_of_length_le (by omega)
   have hvc:xv.all cell1=true:=by rw [hxv];exact RowR.cell1 (S:=S) (w:=wr) ⟨x,m,cp,rfl,g5,g6,g7⟩ hok
   have hT:RowR S wr r (.slice x m cp):=⟨x,m,cp,rfl,g5,g6,g7⟩
   have HX:=Lib.hid (And.intro hl hok)
   have hbt:=HR.out.2 r (List.mem_of_getElem? hl)
   have HC:Hid (∀w',Below wr.heap.size wr w'→Calls Tryz.prog 27 #[.agg xv.toArray] w' (fun e w3=> ∃yv tv,e=.returned (.agg yv.toArray)∧yv.length=57∧yv.all cell1=true∧yv=r.vals tv∧RowR (wr.heap.size≤·) w3 r tv∧Below w'.heap.size w' w3)):=Lib.hid fun w' hb=>by
    rw [hxv]
    refine (copy_any S r hok (.slice x m cp) w' (hT.below hb) (by omega)).mono ?_
    rintro e w3 ⟨x',rfl,hx',hb3⟩
    exact⟨_,_,rfl,Rw.len hok _,hx'.1.cell1 hok,rfl,hx'.1.mono (fun b _ h=>by have:=hb.size;omega),hb3⟩
   have hgl:g<wr.heap.size:=by rw [hg.out];exact HJ.out.b.lt
   have e1:wr.cell? ⟨g,1,none⟩=some v:=by rw [hg.out];exact HJ.out.b.cell 1
   have e2:wr.frozen? ⟨g,1,none⟩=false:=by rw [hg.out];exact HJ.out.b.frozen 1
   obtain⟨ps,p1,p2,p3⟩:=HJ.out.ps
   have HP:=Lib.hid (And.intro p1 (And.intro p2 p3))
   have hown:=fun q hq=>p3.1.lt q hq
   have HOW:=Lib.hid hown
   clear hl g2 g5 g6 g7 hT hbt hok p1 p2 p3 hown hxv
   go_upto_region 6 with fail
   have hb2:=balP (Below.refl wr.heap.size wr) (.cells xv.toArray 134)
   have k5:=Blk.new wr 134 xv.toArray
   generalize wr.alloc (.cells xv.toArray 134)=w2 at hb2 k5 ⊢
   obtain⟨q,hq⟩:∃q,Hid (q=wr.heap.size):=⟨_,Lib.hid rfl⟩
   rw [←hq.out] at k5 ⊢
   have hgq:g≠q:=by have:=hq.out;omega
   have HF:Hid (∀w',Below w2.heap.size w2 w'→w'.cell? ⟨g,1,none⟩=some v∧w'.frozen? ⟨g,1,none⟩=false∧hasRow w' ⟨q,0,none⟩ 57=true∧rowOf w' ⟨q,0,none⟩ 57=xv):=Lib.hid fun w' hb=>by
    have hb':Below wr.heap.size wr w':=hb2.trans (hb.mono hb2.size)
    obtain⟨r1,r2,-⟩:=(k5.below hb k5.lt).whole hvl
    exact⟨(hb'.cell (p:=⟨g,1,none⟩) hgl).trans e1,(hb'.frozen (p:=⟨g,1,none⟩) hgl).trans e2,r1,r2⟩
   have HB2:=Lib.hid hb2
   have HC2:Hid (∀w',Below w2.heap.size w2 w'→Calls Tryz.prog 27 #[.agg xv.toArray] w' (fun e w3=> ∃yv tv,e=.returned (.agg yv.toArray)∧yv.length=57∧yv.all cell1=true∧yv=r.vals tv∧RowR (wr.heap.size≤·) w3 r tv∧Below w2.heap.size w2 w3)):=Lib.hid fun w' hb=>by
    refine (HC.out w' (hb2.trans (hb.mono hb2.size))).mono ?_
    rintro e w3 ⟨yv,tv,h1,h2,h3,h4,h5,h6⟩
    exact⟨yv,tv,h1,h2,h3,h4,h5,hb.trans (h6.mono hb.size)⟩
   have HS:Hid (∀w',Below w2.heap.size w2 w'→w'.cell? ⟨g,1,none⟩=some v∧hasRow w' ⟨q,0,none⟩ 57=true∧rowOf w' ⟨q,0,none⟩ 57=xv):=Lib.hid fun w' hb=>by
    obtain⟨f1,f2,f3,f4⟩:=HF.out w' hb
    exact⟨f1,f3,f4⟩
   have HQ:Hid (q<w2.heap.size):=Lib.hid k5.lt
   have hk1:k+1≤1000000000:=by omega
   have HOf:Hid (∀w',Below wr.heap.size wr w'→w'.ownsRow (w.heap.size+2) 134 57 v k (flatP ps)):=Lib.hid fun w' hb=>by
    rw [←HP.out.1];exact OwI.own (w:=w) (x0:=x0) (l:=p.rows) (k:=k) HP.out.2.2 hb
   have HSz:Hid (∀w',Below w2.heap.size w2 w'→w.heap.size+2≤w'.heap.size):=Lib.hid fun w' hb=>by
    have:=HJ.out.c.lt;have:=HB2.out.size;have:=hb.size;omega
   have HA:Hid (∀(yv:List Value) (tv:Value) (w3 w7:World) (gg cpp:Nat),yv=r.vals tv→RowR (wr.heap.size≤·) w3 r tv→Below w2.heap.size w2 w3→w7.ownsRow (w.heap.size+2) 134 57 (.slice (some ⟨gg,0,none⟩) (k+1) cpp) (k+1) (flatP ps++yv)→(w3.alloc (.cells yv.toArray 134)).grownBy w7 v.ownBlock→(v.ownBlock=some gg∨gg=(w3.alloc (.cells yv.toArray 134)).heap.size)→
    (w7.cell? ⟨g,1,none⟩=some v∧hasRow w7 ⟨q,0,none⟩ 57=true∧rowOf w7 ⟨q,0,none⟩ 57=xv)∧w7.frozen? ⟨g,1,none⟩=false∧OwI w x0 p.rows (k+1) (.slice (some ⟨gg,0,none⟩) (k+1) cpp) (w7.setCell ⟨g,1,none⟩ (.slice (some ⟨gg,0,none⟩) (k+1) cpp))):=Lib.hid fun yv tv w3 w7 gg cpp hy hr h3 ho hgr hl=>by
    have hB4:Below wr.heap.size wr (w3.alloc (.cells yv.toArray 134)):=HB2.out.trans ((balP h3 _).mono HB2.out.size)
    have hgn:some g≠v.ownBlock:=fun e=>by have:=(HOW.out g e.symm).1;have:=hg.out;omega
    have hgl4:g<(w3.alloc (.cells yv.toArray 134)).heap.size:=Nat.lt_of_lt_of_le hgl hB4.size
    have hkk:=(hgr.block g hgl4 hgn).trans (hB4.block g hgl)
    have hql:q<(w3.alloc (.cells yv.toArray 134)).heap.size:=by have:=hB4.size;have:=h3.size;have:=HQ.out;have:=(balP (Below.refl w3.heap.size w3) (.cells yv.toArray 134)).size;omega
    have hqn:some q≠v.ownBlock:=fun e=>by have:=(HOW.out q e.symm).2;have:=hq.out;omega
    have hkq:=hgr.block q hql hqn
    have hS4:=HS.out _ (balP h3 (.cells yv.toArray 134))
    have hr7:=row_block (w:=w3.alloc (.cells yv.toArray 134)) (w':=w7) (p:=⟨q,0,none⟩) (n:=57) hkq
    refine⟨⟨(World.cell?_of_block (a:=⟨g,1,none⟩) hkk).trans e1,hr7.1.trans hS4.2.1,hr7.2.trans hS4.2.2⟩,(World.frozen?_of_block (a:=⟨g,1,none⟩) hkk).trans e2,?_⟩
    rw [hy] at ho
    have:=HJ.out.push HP.out.1 HP.out.2.1 HP.out.2.2 hB4 HX.out.2 HX.out.1 (hr.below (balP (Below.refl _ _) _)) ho hgr hl
    rw [←hg.out] at this
    exact this
   obtain⟨f1,f2,f3,f4⟩:=HF.out w2 (Below.refl _ _)
   clear hb2 k5 e1 e2 g1 g3 HC
   go_region_law (first
    | (go_simp;go_at_call 27;(with_reducible refine (HC2.out _ (Below.refl _ _).drew).mono ?_);rintro e w3 ⟨yv,tv,rfl,hyl,hyc,hyv,hrw,hb3⟩;have H3:=Lib.hid (And.intro hyv (And.intro hrw hb3));obtain⟨y1,y2,y3,y4⟩:=HF.out _ hb3;obtain⟨y5,y6,y7,y8⟩:=HF.out _ (balP hb3 (.cells yv.toArray 134));clear hyv hrw hb3 f1 f2 f3 f4)
    | (refine step_appL app_row (by rfl) (.tmp 19) (.tmp 22) (by rfl) (w.heap.size+2) v k (flatP ps) (by rfl) (HOf.out _ (HB2.out.trans ((balP H3.out.2.2 _).mono HB2.out.size))) ⟨w3.heap.size,0,none⟩ 1 1 yv (by rfl) (by simp [hyl]) (hasRow_new w3 _ _ 0 57 (by simp [hyl])) ((rowOf_new w3 _ _ 0 57 (by simp [hyl])).trans (List.take_of_length_le (by simp [hyl]))) hyc Nat.zero_lt_one hk1 (HSz.out _ (balP H3.out.2.2 _)) ?_;intro gg cpp w7 hown1 hgrow hlie;obtain⟨⟨z1,-⟩,z2,z4⟩:=HA.out _ _ _ _ _ _ H3.out.1 H3.out.2.1 H3.out.2.2 hown1 hgrow hlie;have H8:=Lib.hid z4;clear hown1 hgrow hlie z4 y1 y2 y3 y4 y5 y6 y7 y8))
   all_goals go_wp2_with fail
   all_goals exact⟨⟨k+1,_,by omega,by go_num,H8.out⟩,by simp [intOf];omega⟩
  ·obtain rfl:k=n:=by omega
   obtain⟨ps,p1,p2,p3⟩:=HJ.out.ps
   obtain⟨a',cap',rfl,h1,h2,h3⟩:=p3.rd
   rw [p1,p2,List.take_of_length_le (by rw [←HN.out];exact Nat.le_refl _)] at h1
   rw [p1] at h2 HJ
   have HRD:=Lib.hid h1
   have e1:wr.cell? ⟨g,1,none⟩=some (.slice a' k cap'):=by rw [hg.out];exact HJ.out.b.cell 1
   have e2:wr.frozen? ⟨g,1,none⟩=false:=by rw [hg.out];exact HJ.out.b.frozen 1
   have HCl:=Lib.hid (clipR_any a' k cap' wr h2 h3)
   clear p1 p2 p3 h1
   go_upto_region 9 with ((with_reducible refine HCl.out.mono ?_);rintro e w3 ⟨rfl,rfl⟩)
   have kb:Blk (wr.setCell ⟨g,1,none⟩ (.slice a' k k)) g 63 #[x0,.slice a' k k]:=by
    have:=HJ.out.b
    rw [←hg.out] at this
    simpa using this.set_ 1 (.slice a' k k)
   have kc:Blk (wr.setCell ⟨g,1,none⟩ (.slice a' k k)) (g+1) 63 postZ.toArray:=by
    have:=HJ.out.c
    rw [←hg.out] at this
    exact this.far (p:=⟨g,1,none⟩) (by show g+1≠g;omega) _
   obtain⟨cv,hcv⟩:∃cv:List Value,Hid (cv=[x0,.slice a' k k]):=⟨_,Lib.hid rfl⟩
   rw [show (#[x0,.slice a' k k]:Array Value)=cv.toArray by rw [hcv.out]] at kb
   have hcl:cv.length=2:=by rw [hcv.out];rfl
   have hca:cv.all cell1=true:=by rw [hcv.out];simp [hc0,cell1_slice]
   obtain⟨r1,r2,-⟩:=kb.whole hcl
   have q3:=(kc.whole len_postZ).2.2
   obtain⟨t1,t2,-⟩:=(kc.put_all (l:=cv) (by rw [hcl];rfl)).whole hcl
   have HE:Hid (FOwnP x0 p w (.returned (.agg cv.toArray)) (putRow (wr.setCell ⟨g,1,none⟩ (.slice a' k k)) ⟨g+1,0,none⟩ cv)):=Lib.hid (by
    have hb:=HJ.out.bel
    have hgw:=hg.out
    have hb9:Below w.heap.size w (putRow (wr.setCell ⟨g,1,none⟩ (.slice a' k k)) ⟨g+1,0,none⟩ cv):=Below.put (hb.setCell (p:=⟨g,1,none⟩) (by show w.heap.size≤g;omega) _) (p:=⟨g+1,0,none⟩) (by show w.heap.size≤g+1;omega) _
    rw [hcv.out]
    refine⟨_,rfl,⟨⟨HX0.out.1,by rw [←HN.out];exact hln,HR.out.2⟩,HX0.out.2,a',k,by rw [←HN.out],?_,by rw [←HN.out];exact Nat.le_refl _,by unfold maxLen;omega⟩,by rw [←hcv.out];exact hb9⟩
    rw [←HN.out]
    refine (HRD.out.keep (by simp) fun b hb _=> ?_).mono (fun b _ h=>by omega)
    rw [putRow_other _ _ _ _ (by show b≠g+1;omega)]
    exact Below.heap_setCell _ _ _ _ (by show b≠g;omega))
   generalize wr.setCell ⟨g,1,none⟩ (.slice a' k k)=w8 at r1 r2 q3 t1 t2 HE ⊢
   clear kb kc e1 e2 HRD
   go_wp2_with fail
   try simp only [Exit.inBlock,Exit.then]
   first | refine bodyPost_ret (ret_rowP (n:=2) rfl ag_post _ _ _ rfl ?_) rfl ?_ | refine bodyPost_end (ret_rowP (n:=2) rfl ag_post _ _ _ rfl ?_) rfl ?_
   ·exact t1
   ·rw [t2];exact HE.out
def MoB (w:World) (mb:Nat) (n nd lk:Int) (sv:Value) (tm lm:Nat):Prop:=Blk w mb 166 #[.int .i64 n,.int .i64 nd,.int .i64 lk,sv,.map (some tm),.map (some lm)]
def isF (nd lk:Int) (k:Nat):Bool:=if nd= -1 then decide ((k:Int)=lk) else decide (((k / 4:Nat):Int)=nd)
set_option maxRecDepth 100000 in
set_option maxHeartbeats 1000000 in
theorem is_any {w:World} {mb tm lm:Nat} {n nd lk:Int} {sv:Value} (h:MoB w mb n nd lk sv tm lm) (h4:4≤n) (h16:n≤16) (k:Nat) (hk:(k:Int)<4*n) :
 Calls Tryz.prog 113 #[.pointer (some ⟨mb,0,none⟩),.int .i64 k] w fun e w'=>e=.returned (.bool (isF nd lk k))∧w=w':=by
 have c0:w.cell? ⟨mb,0,none⟩=some (.int .i64 n):=h.cell 0
 have c1:w.cell? ⟨mb,1,none⟩=some (.int .i64 nd):=h.cell 1
 have c2:w.cell? ⟨mb,2,none⟩=some (.int .i64 lk):=h.cell 2
 have hn0:¬n=0:=by omega
 have hk0:¬(k:Int)<0:=by omega
 have hw:IntKind.i64.wrap (4*n)=4*n:=IntWalk.i64_in _ (by omega)
 have hk4:¬4*n≤(k:Int):=by omega
 have hq:Int.tdiv (k:Int) 4=((k / 4:Nat):Int):=rfl
 have hqw:IntKind.i64.wrap ((k / 4:Nat):Int)=((k / 4:Nat):Int):=IntWalk.i64_in _ (by omega)
 obtain⟨q,hqq⟩:∃q:Nat,q=k / 4:=⟨_,rfl⟩
 unfold isF
 rw [←hqq] at hq hqw ⊢
 clear h hqq
 by_cases hnd:nd= -1
 ·rw [if_pos hnd]
  go_enter Tryz.func113,Tryz.ntmps113
  go_wp2
  go_ret
  exact⟨by simp;rfl,rfl⟩
 ·rw [if_neg hnd]
  go_enter Tryz.func113,Tryz.ntmps113
  go_wp2
  go_ret
  exact⟨by simp;rfl,rfl⟩
set_option maxRecDepth 100000 in
set_option maxHeartbeats 1000000 in
theorem says_as {w:World} {mb tm lm:Nat} {n nd lk:Int} {sv:Value} (h:MoB w mb n nd lk sv tm lm) (h4:4≤n) (h16:n≤16) (t:Int) (k:Nat) (hk:(k:Int)<4*n) (hf:isF nd lk k=false) (S:Nat→Prop) (x0 x1:Value) (p:PoM) (hp:PoAt S w x0 x1 p) :
 Calls Tryz.prog 55 #[.pointer (some ⟨mb,0,none⟩),.int .i64 t,.int .i64 k,.agg #[x0,x1]] w (FOwnP x0 p w):=by
 obtain⟨hc0,hc1⟩:=hp.cell1
 obtain⟨cv,hcv⟩:∃cv:List Value,Hid (cv=[x0,x1]):=⟨_,Lib.hid rfl⟩
 have hcl:cv.length=2:=by rw [hcv.out];rfl
 have hca:cv.all cell1=true:=by rw [hcv.out];simp [hc0,hc1]
 rw [show (#[x0,x1]:Array Value)=cv.toArray by rw [hcv.out]]
 have hB:Below w.heap.size w ((w.alloc (.cells cv.toArray 63)).alloc (.cells postZ.toArray 63)):=((Below.refl _ _).alloc (Nat.le_refl _) _).alloc (by simp) _
 have k1:=(Blk.new w 63 cv.toArray).alloc (.cells postZ.toArray 63)
 have k2:=Blk.new (w.alloc (.cells cv.toArray 63)) 63 postZ.toArray
 have HP:=Lib.hid (hp.below hB)
 have hm:=h.below hB h.lt
 have HI:=Lib.hid (is_any hm h4 h16 k hk)
 rw [hf] at HI
 have hs:(w.alloc (.cells cv.toArray 63)).heap.size=w.heap.size+1:=by simp
 rw [hs] at k2
 have HB:=Lib.hid hB
 clear h hp hB hm hs
 go_enter Tryz.func55,Tryz.ntmps55
 go_upto_region 1 with fail
 generalize (w.alloc (.cells cv.toArray 63)).alloc (.cells postZ.toArray 63)=w0 at HB k1 k2 HP HI ⊢
 obtain⟨r1,r2,-⟩:=k1.whole hcl
 have HOw:Hid (Calls Tryz.prog 114 #[.agg cv.toArray] w0 (FOwnP x0 p w0)):=Lib.hid (by rw [hcv.out];exact fown_any S x0 x1 p w0 HP.out)
 obtain⟨g,hg⟩:∃g,Hid (g=w.heap.size):=⟨_,Lib.hid rfl⟩
 rw [←hg.out] at k1 k2 r1 r2 ⊢
 have hg1:=k2.lt
 have K2:=Lib.hid k2
 clear k1 k2 HP
 go_wp2_with fail
 (with_reducible refine HI.out.mono ?_)
 rintro e w' ⟨rfl,rfl⟩
 go_wp2_with fail
 (with_reducible refine HOw.out.mono ?_)
 rintro e w3 ⟨y1,rfl,hy,hb3⟩
 obtain⟨yv,hyv⟩:∃yv:List Value,Hid (yv=[x0,y1]):=⟨_,Lib.hid rfl⟩
 rw [show (#[x0,y1]:Array Value)=yv.toArray by rw [hyv.out]]
 have hyl:yv.length=2:=by rw [hyv.out];rfl
 have hyc:yv.all cell1=true:=by rw [hyv.out];simp [hc0,hy.cell1.2]
 have kc:=K2.out.below hb3 hg1
 have q3:=(kc.whole len_postZ).2.2
 obtain⟨t1,t2,-⟩:=(kc.put_all (l:=yv) (by rw [hyl];rfl)).whole hyl
 have HE:Hid (FOwnP x0 p w (.returned (.agg yv.toArray)) (putRow w3 ⟨g+1,0,none⟩ yv)):=Lib.hid (by
  have hgw:=hg.out
  have hB0:=HB.out.size
  rw [hyv.out]
  refine⟨_,rfl,?_,?_⟩
  ·refine (hy.keep (by simp) fun b hb _=> ?_).mono (fun b _ h=>by omega)
   exact putRow_other _ _ _ _ (by show b≠g+1;omega)
  ·exact Below.put (HB.out.trans (hb3.mono hB0)) (p:=⟨g+1,0,none⟩) (by show w.heap.size≤g+1;omega) _)
 clear kc hy hb3
 go_wp2_with fail
 try simp only [Exit.inBlock,Exit.then]
 first | refine bodyPost_ret (ret_rowP (n:=2) rfl ag_post _ _ _ rfl ?_) rfl ?_ | refine bodyPost_end (ret_rowP (n:=2) rfl ag_post _ _ _ rfl ?_) rfl ?_
 ·exact t1
 ·rw [t2];exact HE.out
end Go.Proofs.YtdilbjikeilhbaaGreatDoor
