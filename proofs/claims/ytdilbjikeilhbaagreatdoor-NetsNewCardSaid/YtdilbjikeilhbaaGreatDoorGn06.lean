import Derived.Test.YtdilbjikeilhbaaGreatDoorGn03
import Derived.Test.YtdilbjikeilhbaaGreatDoorGn04
import Derived.Test.YtdilbjikeilhbaaGreatDoorGn05
import Derived.Deep.CutRange
import Derived.Deep.RegionHeld3
import Derived.WalkSpells
import Derived.Deep.CutBlock
import Derived.Deep.DeepCutAuto
import Derived.Deep.QuietTactic
import Derived.BigQuiet
import Derived.Deep.DrawnRows
namespace Go.Proofs.YtdilbjikeilhbaaGreatDoor
open Go.RowKit
set_option linter.unusedVariables false
set_option linter.unusedSimpArgs false
theorem wpList_lies {P:Program} {t e:TypeId} {size:Nat} (hA:AppOk P t e size) {w:World} {ops:Array Oper} {rest:List Oper} {o:Oper} {a:Act} {Q:Exit→Act→World→Prop} (hgd:o.guard=none) (s x:Operand)
 (ho:o.op=.call { callee:=.builtin .append,args:=#[s,x],argTypes:=#[t,t] })
 (base:Nat) (v:Value) (n:Nat) (xs:List Value) (hs:a.eval s=v) (hown:w.ownsRow base e size v n xs)
 (ad:Addr) (m c:Nat) (news:List Value) (hx:a.eval x=.slice (some ad) m c) (hl:news.length=m*size) (hr:hasRow w ad (m*size)=true) (hre:rowOf w ad (m*size)=news) (h1:news.all cell1=true)
 (hm:0<m) (hn:n+m≤1000000000) (hbase:base≤w.heap.size)
 (h:∀g cap w',w'.ownsRow base e size (.slice (some ⟨g,0,none⟩) (n+m) cap) (n+m) (xs++news)→w.grownBy w' v.ownBlock→(v.ownBlock=some g∨g=w.heap.size)→wpList P ops Q rest (a.put o.dst (.slice (some ⟨g,0,none⟩) (n+m) cap)) w'):wpList P ops Q (o :: rest) a w:=by
 obtain⟨ht,i,z,hi,hz,hsize,hby,hzs,hsz⟩:=hA
 refine wpList_plain hgd fun K hK=> ?_
 refine wp_append_lies w s x t ho base e i z size i.bytes ht hi hz hsize rfl hzs hsz v n xs hs hown ad m c news hx hl (fun j u hu=> ?_) (fun u hu=>cell1_one (List.all_eq_true.1 h1 u hu)) hm (by simp only [maxLen];omega) ?_ hbase w.heap.size rfl (fun g cap w' h2 h3 h4 _=>hK _ _ (h g cap w' h2 h3 h4))
 ·have hj:j<m*size:=by rw [←hl];exact (List.getElem?_eq_some_iff.1 hu).1
  rw [rowOf_at hr j hj,hre,hu]
 ·exact Nat.le_trans (Nat.mul_le_mul hn hby) (by omega)
theorem RdHs.pre {S:Nat→Prop} {w:World} {x:Option Addr} {m:Nat} {l l':List Hd} (h:RdHs S w x m (l++l')):RdHs S w x l.length l:=
 ⟨rfl,fun y hy=>h.2.1 y (by simp [hy]),fun k y hk=>h.2.2 k y (by rw [List.getElem?_append_left (List.getElem?_eq_some_iff.1 hk).1];exact hk)⟩
theorem RdHs.whole {S:Nat→Prop} {w:World} {x:Option Addr} {m:Nat} {t:List Hd} (h:RdHs S w x m t) (hm:0<m) :
 ∃b off,x=some ⟨b,off,none⟩∧S b∧b<w.heap.size∧hasRow w ⟨b,off,none⟩ (m*56)=true∧rowOf w ⟨b,off,none⟩ (m*56)=flatH t:=by
 obtain⟨h1,h2,h3⟩:=h
 obtain⟨b,off,hx,hS,hb,-⟩:=h3 0 _ (List.getElem?_eq_getElem (by omega))
 refine⟨b,off,hx,hS,hb,?_⟩
 have hl:(flatH t).length=m*56:=by rw [len_flatH h2,h1]
 have:=row_of_cells (w:=w) (p:=⟨b,off,none⟩) (l:=flatH t) (fun j v hv=>by
  have hj:j<m*56:=by rw [←hl];exact (List.getElem?_eq_some_iff.1 hv).1
  have hk:j / 56<t.length:=by omega
  have hkk:t[j / 56]? =some (t[j / 56]'hk):=List.getElem?_eq_getElem hk
  obtain⟨b',off',hx',-,-,hr1,hr2⟩:=h3 (j / 56) _ hkk
  rw [hx] at hx'
  cases hx'
  have hj2:j % 56<56:=Nat.mod_lt _ (by omega)
  have e1:=flatH_at h2 hkk hj2
  rw [show j / 56*56+j % 56=j from by omega,hv] at e1
  have:=row_cell hr1 hr2 (j % 56) hj2
  rw [show off+j / 56*56+j % 56=off+j from by omega] at this
  rw [add_at,this,e1])
 rwa [hl] at this
theorem run_append_zero {P:Program} {w:World} {base:Nat} {t ty e:TypeId} {i:TypeInfo} {size:Nat} (ht:P.underlying t=some (.slice e)) (hi:P.info? e=some i)
 (v:Value) (n:Nat) (xs:List Value) (hown:w.ownsRow base e size v n xs) (x:Option Addr) (c:Nat) :
 (Builtin.append_ #[t,t] ty #[v,.slice x 0 c]).run P w=.ok v w:=by
 rcases hown.2 with ⟨rfl,rfl⟩ | ⟨g,cap,cur,rfl,_,_,hnc,_⟩ <;> cases x <;>
  simp [Builtin.append_,run_underlying ht,sizeOf,typeInfo,hi,Builtin.lenOf,Builtin.firstCells,storeCells,loadCells,loadCellsFrom, *]
theorem wpList_appH {P:Program} {t e:TypeId} (hA:AppOk P t e 56) {w:World} {ops:Array Oper} {rest:List Oper} {o:Oper} {a:Act} {Q:Exit→Act→World→Prop} (hgd:o.guard=none) (s x:Operand)
 (ho:o.op=.call { callee:=.builtin .append,args:=#[s,x],argTypes:=#[t,t] })
 (base:Nat) (v:Value) (n:Nat) (xs:List Value) (hs:a.eval s=v) (hown:w.ownsRow base e 56 v n xs)
 {S:Nat→Prop} (ad:Option Addr) (m c:Nat) (l:List Hd) (hx:a.eval x=.slice ad m c) (hrd:RdHs S w ad m l)
 (hn:n+m≤1000000000) (hbase:base≤w.heap.size)
 (h:∀v' w',w'.ownsRow base e 56 v' (n+m) (xs++flatH l)→w.grownBy w' v.ownBlock→(∃x c,v'=.slice x (n+m) c)→wpList P ops Q rest (a.put o.dst v') w'):wpList P ops Q (o :: rest) a w:=by
 rcases Nat.eq_zero_or_pos m with rfl | hm
 ·have hl:l=[]:=List.eq_nil_of_length_eq_zero hrd.1
  subst hl
  obtain⟨ht,i,z,hi,hz,hsize,hby,hzs,hsz⟩:=hA
  refine wpList_plain hgd fun K hK=> ?_
  unfold Oper.wp execOp
  simp only [ho,resolve,invoke,builtin,Sem.run_bind,Sem.run_pure,Result.andThen_ok,List.map_toArray,List.map_cons,List.map_nil,hs,hx,run_append_zero ht hi v n xs hown ad c]
  refine hK _ _ (h v w (by simpa [flatH] using hown) ⟨rfl,rfl,rfl,Nat.le_refl _,fun _ _ _=>rfl⟩ ?_)
  rcases hown.2 with ⟨rfl,rfl⟩ | ⟨g,cap,cur,rfl,_⟩
  ·exact⟨_,_,rfl⟩
  ·exact⟨_,_,rfl⟩
 ·obtain⟨b,off,rfl,-,-,h1,h2⟩:=hrd.whole hm
  refine wpList_lies hA hgd s x ho base v n xs hs hown _ m c (flatH l) hx (by rw [len_flatH hrd.2.1,hrd.1]) h1 h2 ?_ hm hn hbase (fun g cap w' k1 k2 _=>h _ w' k1 k2 ⟨_,_,rfl⟩)
  rw [flatH,List.all_flatMap,List.all_eq_true]
  intro y hy
  have:=okL_cell1 (hrd.2.1 y hy)
  simp [Hd.vals] at this ⊢
  exact⟨rfl,this⟩
theorem step_lies {P:Program} {t e:TypeId} {size:Nat} (hA:AppOk P t e size) {w:World} {ops:Array Oper} {o:Oper} {a:Act} {K:Act→World→Prop} {Q:Exit→Act→World→Prop} {E:Prop} (hgd:o.guard=none) (s x:Operand)
 (ho:o.op=.call { callee:=.builtin .append,args:=#[s,x],argTypes:=#[t,t] })
 (base:Nat) (v:Value) (n:Nat) (xs:List Value) (hs:a.eval s=v) (hown:w.ownsRow base e size v n xs)
 (ad:Addr) (m c:Nat) (news:List Value) (hx:a.eval x=.slice (some ad) m c) (hl:news.length=m*size) (hr:hasRow w ad (m*size)=true) (hre:rowOf w ad (m*size)=news) (h1:news.all cell1=true)
 (hm:0<m) (hn:n+m≤1000000000) (hbase:base≤w.heap.size)
 (h:∀g cap w',w'.ownsRow base e size (.slice (some ⟨g,0,none⟩) (n+m) cap) (n+m) (xs++news)→w.grownBy w' v.ownBlock→(v.ownBlock=some g∨g=w.heap.size)→K (a.put o.dst (.slice (some ⟨g,0,none⟩) (n+m) cap)) w') :
 if Region.wanted o (yielded ops a.tmps)=true then Oper.wp P o a w K Q else E:=by
 obtain⟨ht,i,z,hi,hz,hsize,hby,hzs,hsz⟩:=hA
 refine step_append_lies w hgd s x t ho base e i z size i.bytes ht hi hz hsize rfl hzs hsz v n xs hs hown ad m c news hx hl (fun j u hu=> ?_) (fun u hu=>cell1_one (List.all_eq_true.1 h1 u hu)) hm (by simp only [maxLen];omega) ?_ hbase w.heap.size rfl (fun g cap w' h2 h3 h4 _=>h g cap w' h2 h3 h4)
 ·have hj:j<m*size:=by rw [←hl];exact (List.getElem?_eq_some_iff.1 hu).1
  rw [rowOf_at hr j hj,hre,hu]
 ·exact Nat.le_trans (Nat.mul_le_mul hn hby) (by omega)
theorem fillH_snoc (k:Nat) (l:List Hd):fillH (k+1) l=fillH k l++ [match l[k]? with | some h=>h.nrm | none=>hd0]:=by
 unfold fillH
 by_cases h:k<l.length
 ·have e1:k+1 - l.length=0:=by omega
  have e2:k - l.length=0:=by omega
  rw [e1,e2,List.take_add_one,List.getElem?_eq_getElem h]
  simp only [Option.toList_some,List.map_append,List.map_cons,List.map_nil,List.replicate_zero,List.append_nil]
 ·have e1:k+1 - l.length=(k - l.length)+1:=by omega
  rw [e1,List.take_of_length_le (by omega),List.take_of_length_le (by omega),List.getElem?_eq_none (by omega),List.replicate_succ']
  simp
structure RP (w:World) (rv c:List Value) (t:List Hd) (k:Nat) (v:Value) (wr:World):Prop where
 b0:Blk wr w.heap.size 628 rv.toArray
 b1:Blk wr (w.heap.size+1) 628 rowZ.toArray
 b2:Blk wr (w.heap.size+1+1) 628 (Value.bool true :: (c++ [v])).toArray
 own:wr.ownsRow (w.heap.size+1+1+1) 643 56 v k ((fillH k t).flatMap Hd.vals)
 sz:w.heap.size+1+1+1≤wr.heap.size
 bel:Below w.heap.size w wr
theorem new2 (w:World) (A B:Obj) (z:List Value) (t:TypeId):Blk (((w.alloc A).alloc B).alloc (.cells z.toArray t)) (w.heap.size+1+1) t z.toArray:=by
 have:=Blk.new ((w.alloc A).alloc B) t z.toArray
 have e:((w.alloc A).alloc B).heap.size=w.heap.size+1+1:=by simp
 rwa [e] at this
theorem new1 (w:World) (A:Obj) (z:List Value) (t:TypeId):Blk ((w.alloc A).alloc (.cells z.toArray t)) (w.heap.size+1) t z.toArray:=by
 have:=Blk.new (w.alloc A) t z.toArray
 have e:(w.alloc A).heap.size=w.heap.size+1:=by simp
 rwa [e] at this
structure R3 (w:World) (rv:List Value) (wr:World):Prop where
 b0:Blk wr w.heap.size 628 rv.toArray
 b1:Blk wr (w.heap.size+1) 628 rowZ.toArray
 b2:Blk wr (w.heap.size+1+1) 628 rowZ.toArray
 sz:w.heap.size+1+1+1=wr.heap.size
 bel:Below w.heap.size w wr
theorem R3.start (w:World) (rv:List Value):R3 w rv (((w.alloc (.cells rv.toArray 628)).alloc (.cells rowZ.toArray 628)).alloc (.cells rowZ.toArray 628)):=
 ⟨((Blk.new _ _ _).alloc _).alloc _,(new1 _ _ _ _).alloc _,new2 _ _ _ _ _,by simp,(((Below.refl _ _).alloc (Nat.le_refl _) _).alloc (by simp) _).alloc (by simp;omega) _⟩
theorem R3.end_ {w:World} {rv:List Value} {wr:World} (h:R3 w rv wr):hasRow wr ⟨w.heap.size+1+1,0,none⟩ 57=true∧rowOf wr ⟨w.heap.size+1+1,0,none⟩ 57=rowZ∧canPut wr ⟨w.heap.size+1,0,none⟩ 57=true∧
 hasRow (putRow wr ⟨w.heap.size+1,0,none⟩ rowZ) ⟨w.heap.size+1,0,none⟩ 57=true∧rowOf (putRow wr ⟨w.heap.size+1,0,none⟩ rowZ) ⟨w.heap.size+1,0,none⟩ 57=rowZ∧Below w.heap.size w (putRow wr ⟨w.heap.size+1,0,none⟩ rowZ):=by
 obtain⟨q1,q2,-⟩:=h.b2.whole len_rowZ
 obtain⟨-,-,q3⟩:=h.b1.whole len_rowZ
 obtain⟨p1,p2,-⟩:=(h.b1.put_all rfl).whole len_rowZ
 exact⟨q1,q2,q3,p1,p2,Below.put h.bel (by simp) _⟩
theorem RP.step {w:World} {rv c:List Value} (hcl:c.length=55) {t:List Hd} (ht:∀x ∈ t,x.ok) {k:Nat} {v v':Value} {wr wm w1:World} (h:RP w rv c t k v wr) (hm:Below wr.heap.size wr wm) (hg:wm.grownBy w1 v.ownBlock)
 {y:Hd} (hy:y=match t[k]? with | some h=>h.nrm | none=>hd0)
 (ho:w1.ownsRow (w.heap.size+1+1+1) 643 56 v' (k+1) ((fillH k t).flatMap Hd.vals++y.vals)) :
 RP w rv c t (k+1) v' (w1.setCell ⟨w.heap.size+1+1,56,none⟩ v'):=by
 have hne:∀b,b<w.heap.size+1+1+1→some b≠v.ownBlock:=fun b hb=>own_ne h.own hb
 have hs:=h.sz
 have hmk:∀(b:Nat) (t:TypeId) (cs:Array Value),b<w.heap.size+1+1+1→Blk wr b t cs→Blk w1 b t cs:=fun b t cs hb hk=>by
  have h1:=hk.below hm hk.lt
  exact (hg.block b h1.lt (hne b hb)).trans h1
 have hb2:=(hmk _ _ _ (by omega) h.b2).set_ 56 v'
 have e:(Value.bool true :: (c++ [v])).toArray.setIfInBounds 56 v'=(Value.bool true :: (c++ [v'])).toArray:=by
  simp [List.set_append,hcl]
 rw [e] at hb2
 have hB1:Below w.heap.size w w1:=(h.bel.trans (hm.mono (by omega))).grown hg (by have:=hm.size;omega) (fun q hq=>by have:=(h.own.lt q hq).1;omega)
 refine⟨(hmk _ _ _ (by omega) h.b0).far (by first | (simp;done) | (simp;omega)) _,(hmk _ _ _ (by omega) h.b1).far (by first | (simp;done) | (simp;omega)) _,hb2,?_,?_,hB1.setCell (by simp;omega) _⟩
 ·rw [fillH_snoc,←hy,List.flatMap_append]
  refine own_block (by simpa using ho) (fun q hq=>Below.heap_setCell _ _ _ _ ?_)
  have:=(ho.lt q hq).1
  simp;omega
 ·have:=hm.size;have:=hg.size;simp;omega
theorem row1 {w:World} {p:Addr} {v:Value} (h:w.cell? p=some v):hasRow w p 1=true∧rowOf w p 1=[v]:=by
 have h0:p.add 0=p:=by obtain⟨b,o,sp⟩:=p;unfold Addr.add;split <;> simp_all
 simp [hasRow,rowOf,h0,h]
def WordPost (l:List Rw) (w:World) (e:Ending) (w':World):Prop:=
 ∃a cap,e=.returned (.agg #[.slice a l.length cap])∧RdRs (w.heap.size≤·) w' a l.length l∧l.length≤cap∧cap≤maxLen∧Below w.heap.size w w'
def flatP (ps:List (Rw×Value)):List Value:=ps.flatMap fun p=>p.1.vals p.2
theorem flatP_at {ps:List (Rw×Value)} (h:∀p ∈ ps,p.1.ok) {k j:Nat} {p:Rw×Value} (hk:ps[k]? =some p) (hj:j<57):(flatP ps)[k*57+j]? =(p.1.vals p.2)[j]?:=by
 unfold flatP
 induction ps generalizing k with
 | nil=>simp at hk
 | cons y l ih=>
   have hy:=Rw.len (h y (by simp)) y.2
   rw [List.flatMap_cons]
   cases k with
   | zero=>
     simp at hk
     subst hk
     rw [List.getElem?_append_left (by omega)]
     congr 1;omega
   | succ k=>
     rw [List.getElem?_append_right (by omega),hy,show (k+1)*57+j - 57=k*57+j from by omega]
     exact ih (fun z hz=>h z (by simp [hz])) (by simpa using hk)
def OwnR (base:Nat) (w:World) (e:TypeId) (v:Value) (ps:List (Rw×Value)):Prop:=
 w.ownsRow base e 57 v ps.length (flatP ps)∧∀p ∈ ps,p.1.ok∧RowR (fun b=>base≤b∧some b≠v.ownBlock) w p.1 p.2
theorem OwnR.nil (base:Nat) (w:World) (e:TypeId):OwnR base w e (.slice none 0 0) []:=⟨World.ownsRow_nil _ _ _ _,by simp⟩
theorem OwnR.keep {base:Nat} {w w':World} {e:TypeId} {v:Value} {ps:List (Rw×Value)} (h:OwnR base w e v ps) (hs:w.heap.size≤w'.heap.size) (hk:∀b,base≤b→b<w.heap.size→w'.heap[b]? =w.heap[b]?):OwnR base w' e v ps:=
 ⟨own_block h.1 (fun k hv=>hk k (h.1.lt k hv).1 (h.1.lt k hv).2),fun p hp=>⟨(h.2 p hp).1,(h.2 p hp).2.keep hs (fun b hb hlt=>hk b hb.1 hlt)⟩⟩
theorem OwnR.push {base:Nat} {wm w1:World} {e:TypeId} {v:Value} {ps:List (Rw×Value)} (h:OwnR base wm e v ps) {r:Rw} {tv:Value} (hr:r.ok) (ht:RowR (fun b=>base≤b∧some b≠v.ownBlock) wm r tv) {g cap n:Nat} (hn:ps.length=n)
 (ho:w1.ownsRow base e 57 (.slice (some ⟨g,0,none⟩) (n+1) cap) (n+1) (flatP ps++r.vals tv)) (hg:wm.grownBy w1 v.ownBlock) (hl:v.ownBlock=some g∨g=wm.heap.size) :
 OwnR base w1 e (.slice (some ⟨g,0,none⟩) (n+1) cap) (ps++ [(r,tv)]):=by
 subst hn
 have key:∀{r':Rw} {tv':Value},RowR (fun b=>base≤b∧some b≠v.ownBlock) wm r' tv'→RowR (fun b=>base≤b∧some b≠(Value.slice (some ⟨g,0,none⟩) (ps.length+1) cap).ownBlock) w1 r' tv':=fun {r' tv'} h'=>by
  have h2:RowR (fun b=>base≤b∧some b≠v.ownBlock∧b<wm.heap.size) wm r' tv':=h'.mono (fun b hb hS=>⟨hS.1,hS.2,hb⟩)
  refine (h2.keep hg.size (fun b hb _=>hg.block b hb.2.2 hb.2.1)).mono (fun b _ hb=>⟨hb.1,?_⟩)
  simp only [Value.ownBlock,ne_eq,Option.some.injEq]
  rintro rfl
  rcases hl with hl | hl
  ·exact hb.2.1 hl.symm
  ·omega
 refine⟨?_,fun p hp=> ?_⟩
 ·simpa [flatP] using ho
 ·rcases List.mem_append.1 hp with hp | hp
  ·exact⟨(h.2 p hp).1,key (h.2 p hp).2⟩
  ·simp at hp
   subst hp
   exact⟨hr,key ht⟩
theorem OwnR.rd {base:Nat} {w:World} {e:TypeId} {v:Value} {ps:List (Rw×Value)} (h:OwnR base w e v ps):∃a cap,v=.slice a ps.length cap∧RdRs (base≤·) w a ps.length (ps.map Prod.fst)∧ps.length≤cap∧cap≤maxLen:=by
 obtain⟨h1,h2⟩:=h
 have hok:∀p ∈ ps,p.1.ok:=fun p hp=>(h2 p hp).1
 rcases h1.2 with ⟨rfl,h0⟩ | ⟨g,cap,cur,rfl,hb,hg,hnc,hcm,hcs,htake⟩
 ·have:ps=[]:=List.eq_nil_of_length_eq_zero h0
  subst this
  exact⟨none,0,rfl,⟨rfl,by simp,by simp⟩,Nat.le_refl _,by simp⟩
 ·refine⟨_,cap,rfl,⟨by simp,?_,fun k r hk=> ?_⟩,hnc,hcm⟩
  ·intro r hr
   obtain⟨p,hp,rfl⟩:=List.mem_map.1 hr
   exact hok p hp
  ·rw [List.getElem?_map,Option.map_eq_some_iff] at hk
   obtain⟨p,hk,rfl⟩:=hk
   have hkl:k<ps.length:=(List.getElem?_eq_some_iff.1 hk).1
   obtain⟨hpo,x,m,c2,hpv,h5,h6,h7⟩:=h2 p (List.mem_of_getElem? hk)
   have hlen:=Rw.len hpo p.2
   have hglt:g<w.heap.size:=by
    rcases Nat.lt_or_ge g w.heap.size with h' | h'
    ·exact h'
    ·rw [Array.getElem?_eq_none h'] at hg;cases hg
   have hrow:=row_of_cells (w:=w) (p:=⟨g,0+k*57,none⟩) (l:=p.1.vals p.2) (fun j u hu=>by
    have hj:j<57:=by rw [←hlen];exact (List.getElem?_eq_some_iff.1 hu).1
    have hin:k*57+j<ps.length*57:=by
     have:(k+1)*57≤ps.length*57:=Nat.mul_le_mul_right _ (by omega)
     omega
    rw [add_at,cell_of_row w g _ cur e (0,0) hg,show 0+k*57+j=k*57+j from by omega]
    have e1:cur[k*57+j]? =(cur.toList.take (ps.length*57))[k*57+j]?:=by rw [List.getElem?_take,if_pos hin];simp
    rw [e1,htake,flatP_at hok hk hj,hu])
   rw [hlen] at hrow
   rw [hpv] at hrow
   exact⟨g,0,x,m,c2,rfl,hb,hglt,hrow.1,hrow.2,h5.mono (fun b _ h=>h.1),h6,h7⟩
theorem app_row:AppOk Tryz.prog 59 134 57:=appOk_of Tryz.underlying59 (by kernel_rfl)
section
variable (ρ:Operand→Value) (d:Option Tmp) (x y u:Operand) (ty:TypeId) (s:String) (af:Array Edge) (g:Option (Nat×Bool)) (w:World)
@[go_sem ↓] theorem bs_row1 (h:lenC (ρ x) 57=true):(execOp ρ { dst:=d,op:=.buildSlice 59 1 #[(0,x)],type:=ty,pos:=s,after:=af,guard:=g }).run Tryz.prog w=.ok (.value (.slice (some ⟨w.heap.size,0,none⟩) 1 1)) (w.alloc (.cells (cellsL (ρ x)).toArray 134)):=by
 have:=exec_bslice (n:=57) Tryz.underlying59 (by kernel_rfl) ρ d 1 [x] #[(0,x)] ty s af g w (by simp [iparts]) rfl (by omega) (by omega) (by simp [h])
 simpa using this
end
def fillO (N k:Nat) (l:List Rw):List Rw:=(l.take k).map (Rw.plain N)++List.replicate (k - l.length) rw0
theorem fillO_snoc (N k:Nat) (l:List Rw):fillO N (k+1) l=fillO N k l++ [match l[k]? with | some r=>r.plain N | none=>rw0]:=by
 unfold fillO
 by_cases h:k<l.length
 ·have e1:k+1 - l.length=0:=by omega
  have e2:k - l.length=0:=by omega
  rw [e1,e2,List.take_add_one,List.getElem?_eq_getElem h]
  simp only [Option.toList_some,List.map_append,List.map_cons,List.map_nil,List.replicate_zero,List.append_nil]
 ·have e1:k+1 - l.length=(k - l.length)+1:=by omega
  rw [e1,List.take_of_length_le (by omega),List.take_of_length_le (by omega),List.getElem?_eq_none (by omega),List.replicate_succ']
  simp
structure NR (w:World) (sv:Value) (N:Nat) (l:List Rw) (k:Nat) (v:Value) (wr:World):Prop where
 b0:Blk wr w.heap.size 630 #[sv]
 b1:Blk wr (w.heap.size+1) 630 #[.slice none 0 0]
 b2:Blk wr (w.heap.size+1+1) 630 #[v]
 own:∃ps:List (Rw×Value),ps.length=k∧ps.map Prod.fst=fillO N k l∧OwnR (w.heap.size+1+1+1) wr 628 v ps
 sz:w.heap.size+1+1+1≤wr.heap.size
 bel:Below w.heap.size w wr
theorem NR.start (w:World) (sv:Value) (N:Nat) (l:List Rw):NR w sv N l 0 (.slice none 0 0) (((w.alloc (.cells #[sv] 630)).alloc (.cells #[.slice none 0 0] 630)).alloc (.cells #[.slice none 0 0] 630)):=
 ⟨((Blk.new _ _ _).alloc _).alloc _,(new1 w _ [Value.slice none 0 0] _).alloc _,new2 w _ _ [Value.slice none 0 0] _,⟨[],rfl,by simp [fillO],OwnR.nil _ _ _⟩,by simp,(((Below.refl _ _).alloc (Nat.le_refl _) _).alloc (by simp) _).alloc (by simp;omega) _⟩
theorem NR.end_ {w:World} {sv:Value} {N k:Nat} {l L:List Rw} {v:Value} {wr:World} (h:NR w sv N l k v wr) (hL:fillO N k l=L) :
 WordPost L w (.returned (.agg #[v])) (wr.setCell ⟨w.heap.size+1,0,none⟩ v)∧(wr.setCell ⟨w.heap.size+1,0,none⟩ v).cell? ⟨w.heap.size+1,0,none⟩=some v:=by
 obtain⟨ps,h1,h2,h3⟩:=h.own
 have h3':OwnR (w.heap.size+1+1+1) (wr.setCell ⟨w.heap.size+1,0,none⟩ v) 628 v ps:=h3.keep (by simp) (fun b hb _=>Below.heap_setCell _ _ _ _ (by simp;omega))
 refine⟨?_,(h.b1.set_ 0 v).cell 0⟩
 obtain⟨a,cap,rfl,h4,h5,h6⟩:=h3'.rd
 have hlen:L.length=ps.length:=by rw [←hL,←h2];simp
 rw [h2,hL] at h4
 refine⟨a,cap,by rw [hlen],?_,by rw [hlen];exact h5,h6,h.bel.setCell (by simp) _⟩
 rw [hlen]
 exact h4.mono (fun b _ h=>by omega)
theorem NR.step {w:World} {sv:Value} {N k:Nat} {l:List Rw} {v:Value} {wr wm w1:World} (h:NR w sv N l k v wr) {ps:List (Rw×Value)} (p1:ps.length=k) (p2:ps.map Prod.fst=fillO N k l) (p3:OwnR (w.heap.size+1+1+1) wr 628 v ps) (hm:Below wr.heap.size wr wm) {y:Rw} {tv:Value} (hyk:y.ok) (hy:y=match l[k]? with | some r=>r.plain N | none=>rw0)
 (ht:RowR (wr.heap.size≤·) wm y tv) {g cap:Nat}
 (ho:w1.ownsRow (w.heap.size+1+1+1) 628 57 (.slice (some ⟨g,0,none⟩) (k+1) cap) (k+1) (flatP ps++y.vals tv)) (hg:wm.grownBy w1 v.ownBlock) (hlie:v.ownBlock=some g∨g=wm.heap.size) :
 NR w sv N l (k+1) (.slice (some ⟨g,0,none⟩) (k+1) cap) (w1.setCell ⟨w.heap.size+1+1,0,none⟩ (.slice (some ⟨g,0,none⟩) (k+1) cap)):=by
 have hs:=h.sz
 have hl:=fun b hb=>(p3.1.lt b hb).2
 have hne:∀b,b<w.heap.size+1+1+1→some b≠v.ownBlock:=fun b hb=>own_ne p3.1 hb
 have hmk:∀(b:Nat) (t:TypeId) (cs:Array Value),b<w.heap.size+1+1+1→Blk wr b t cs→Blk w1 b t cs:=fun b t cs hb hk=>by
  have h1:=hk.below hm hk.lt
  exact (hg.block b h1.lt (hne b hb)).trans h1
 have hms:=hm.size
 have hgs:=hg.size
 have hB1:Below w.heap.size w w1:=(h.bel.trans (hm.mono (by omega))).grown hg (by omega) (fun q hq=>by have:=(p3.1.lt q hq).1;omega)
 have p3m:OwnR (w.heap.size+1+1+1) wm 628 v ps:=p3.keep hms (fun b _ hb=>hm.block b hb)
 have hpush:=p3m.push hyk (ht.mono (fun b hb hS=>⟨by omega,fun e=>by have:=hl b e.symm;omega⟩)) p1 ho hg hlie
 refine⟨(hmk _ _ _ (by omega) h.b0).far (by first | (simp;done) | (simp;omega)) _,(hmk _ _ _ (by omega) h.b1).far (by first | (simp;done) | (simp;omega)) _,(hmk _ _ _ (by omega) h.b2).set_ 0 _,⟨ps++ [(y,tv)],by simp [p1],?_,?_⟩,by simp;omega,hB1.setCell (by simp;omega) _⟩
 ·rw [List.map_append,p2,fillO_snoc,←hy];rfl
 ·exact hpush.keep (by simp) (fun b hb _=>Below.heap_setCell _ _ _ _ (by simp;omega))
theorem RdHs.row_ {S:Nat→Prop} {w:World} {a:Option Addr} {len:Nat} {l:List Hd} (h:RdHs S w a len l) (k:Nat) (hk:k<len) :
 ∃b off X,a=some ⟨b,off,none⟩∧S b∧b<w.heap.size∧(∃x,l[k]? =some x∧X=x.vals)∧hasRow w ⟨b,off+k*56,none⟩ 56=true∧rowOf w ⟨b,off+k*56,none⟩ 56=X∧okL heldK X=true:=by
 obtain⟨h1,h2,h3⟩:=h
 have hv:l[k]? =some (l[k]'(by omega)):=List.getElem?_eq_getElem _
 obtain⟨b,off,e,hS,hb,hr1,hr2⟩:=h3 k _ hv
 exact⟨b,off,_,e,hS,hb,⟨_,hv,rfl⟩,hr1,hr2,Hd.vals_ok (h2 _ (List.mem_of_getElem? hv))⟩
theorem take_eq_succ {α:Type} {l l':List α} {k:Nat} {x:α} (h:l.take k=l'.take k) (h1:l[k]? =some x) (h2:l'[k]? =some x):l.take (k+1)=l'.take (k+1):=by
 rw [List.take_add_one,List.take_add_one,h,h1,h2]
open Classical in
set_option maxRecDepth 100000 in
set_option maxHeartbeats 1000000 in
theorem equal_any (S S':Nat→Prop) (a a':Option Addr) (len len' cap cap':Nat) (l l':List Hd) (w:World) (hr:RdHs S w a len l) (hr':RdHs S' w a' len' l') (hm:len≤maxLen) (hm':len'≤maxLen) :
 Calls Tryz.prog 276 #[.slice a len cap,.slice a' len' cap'] w fun e w'=>e=.returned (.bool (decide (l=l')))∧Below w.heap.size w w':=by
 unfold maxLen at hm hm'
 obtain⟨q,hq⟩:∃q,q=decide (l=l'):=⟨_,rfl⟩
 rw [←hq]
 have HQ:=Lib.hid hq
 have HR:=Lib.hid (And.intro hr hr')
 have hll:l.length=len:=hr.1
 have hll':l'.length=len':=hr'.1
 clear hq hr hr'
 by_cases hne:len=len'
 ·subst hne
  go_enter Tryz.func276,Tryz.ntmps276
  go_wp2_with fail
  go_loopw [13] (fun i wr=> ∃k:Nat,k≤len∧i=.int .i64 k∧l.take k=l'.take k∧Below w.heap.size w wr) (fun i _=>len - (intOf i).toNat)
  case atStart=>exact⟨0,by omega,rfl,rfl,Below.refl _ _⟩
  case round=>
   obtain⟨k,hk,rfl,ht,hB⟩:=hrel
   by_cases hlt:k<len
   ·obtain⟨b,off,X,rfl,-,hbw,hX,x1,x2,x3⟩:=HR.out.1.row_ k hlt
    obtain⟨b',off',Y,rfl,-,hbw',hY,y1,y2,y3⟩:=HR.out.2.row_ k hlt
    have d:=row_below hB (p:=⟨b,off+k*56,none⟩) hbw 56
    have d':=row_below hB (p:=⟨b',off'+k*56,none⟩) hbw' 56
    have d1:=d.1.trans x1
    have d2:=d.2.trans x2
    have e1:=d'.1.trans y1
    have e2:=d'.2.trans y2
    clear x1 x2 y1 y2 d d'
    by_cases hXY:X=Y
    ·subst hXY
     obtain⟨x,hx1,hx2⟩:=hX
     obtain⟨y,hy1,hy2⟩:=hY
     have hxy:x=y:=Hd.vals_inj.1 (hx2.symm.trans hy2)
     subst hxy
     have H:=Lib.hid (And.intro (take_eq_succ ht hx1 hy1) hB.drew)
     clear hx1 hx2 hy1 hy2 ht hB
     go_wp2
     go_region_held3 (fun w'=>hasRow w' ⟨b,off+k*56,none⟩ 56=true∧rowOf w' ⟨b,off+k*56,none⟩ 56=X∧hasRow w' ⟨b',off'+k*56,none⟩ 56=true∧rowOf w' ⟨b',off'+k*56,none⟩ 56=X) (first | (simp [*,hasRow_drew,rowOf_drew];done)) (fail)
     go_wp2
     exact⟨⟨k+1,by omega,by go_num,H.out.1,H.out.2⟩,by simp [intOf];omega⟩
    ·have hqf:q=false:=by
      rw [HQ.out,decide_eq_false_iff_not]
      rintro rfl
      obtain⟨x,hx1,rfl⟩:=hX
      obtain⟨y,hy1,rfl⟩:=hY
      rw [hx1] at hy1
      cases hy1
      exact hXY rfl
     have HN:=Lib.hid hqf
     have H:=Lib.hid (And.intro hX (And.intro hY (And.intro ht hB)))
     clear hqf hX hY ht hB
     go_wp2
     go_region_held3 (fun w'=>hasRow w' ⟨b,off+k*56,none⟩ 56=true∧rowOf w' ⟨b,off+k*56,none⟩ 56=X∧hasRow w' ⟨b',off'+k*56,none⟩ 56=true∧rowOf w' ⟨b',off'+k*56,none⟩ 56=Y) (first | (simp [*,hasRow_drew,rowOf_drew];done)) (fail)
     go_wp2
     go_ret
     exact⟨by rw [HN.out];rfl,H.out.2.2.2.drew⟩
   ·have hkl:k=len:=by omega
    subst hkl
    rw [List.take_of_length_le (by omega),List.take_of_length_le (by omega)] at ht
    have hqt:q=true:=by rw [HQ.out,ht];simp
    have H:=Lib.hid (And.intro hqt hB)
    clear hqt hB ht
    go_wp2
    go_ret
    exact⟨by rw [H.out.1];rfl,H.out.2⟩
 ·have hqf:q=false:=by
   rw [HQ.out,decide_eq_false_iff_not]
   rintro rfl
   omega
  have HN:=Lib.hid hqf
  have hne':((len:Int)==(len':Int))=false:=by simp;omega
  have hne2:((len:Int) != (len':Int))=true:=by simp;omega
  clear hqf
  go_enter Tryz.func276,Tryz.ntmps276
  go_wp2_with fail
  go_ret
  exact⟨by rw [HN.out];rfl,Below.refl _ _⟩
theorem RowsB.keep {S:Nat→Prop} {w w':World} {g:Nat} {t:TypeId} {L:List Rw} (h:RowsB S w g t L) (hs:w.heap.size≤w'.heap.size) (hk:∀b,b=g∨S b→b<w.heap.size→w'.heap[b]? =w.heap[b]?):RowsB S w' g t L:=by
 obtain⟨cs,h1,h2,h3⟩:=h
 refine⟨cs,(hk g (.inl rfl) h1.lt).trans h1,h2,fun k r hr=> ?_⟩
 obtain⟨tv,h4,h5⟩:=h3 k r hr
 exact⟨tv,h4,h5.keep hs fun b hb hl=>hk b (.inr hb) hl⟩
theorem RowsB.mono {S S':Nat→Prop} {w:World} {g:Nat} {t:TypeId} {L:List Rw} (h:RowsB S w g t L) (hs:∀b,b<w.heap.size→S b→S' b):RowsB S' w g t L:=by
 obtain⟨cs,h1,h2,h3⟩:=h
 refine⟨cs,h1,h2,fun k r hr=> ?_⟩
 obtain⟨tv,h4,h5⟩:=h3 k r hr
 exact⟨tv,h4,h5.mono hs⟩
theorem RowsB.chg {S S':Nat→Prop} {w w':World} {g:Nat} {t:TypeId} {L:List Rw} (h:RowsB S w g t L) (hc:Chg S' w w') (hg:¬S' g) (hd:∀b,b<w.heap.size→S b→¬S' b):RowsB S w' g t L:=
 h.keep hc.size fun b hb hl=>hc.block b hl (by rcases hb with rfl | hb;exact hg;exact hd b hl hb)
theorem RowsB.row {S:Nat→Prop} {w:World} {g:Nat} {t:TypeId} {L:List Rw} (h:RowsB S w g t L) {k:Nat} {r:Rw} (hk:L[k]? =some r) (hr:r.ok) :
 ∃tv,hasRow w ⟨g,k*57,none⟩ 57=true∧rowOf w ⟨g,k*57,none⟩ 57=r.vals tv∧YtdilbjikeilhbaaGreatDoor.canPut w ⟨g,k*57,none⟩ 57=true∧RowX S w r tv:=by
 obtain⟨cs,h1,h2,h3⟩:=h
 obtain⟨tv,h4,h5⟩:=h3 k r hk
 have hkl:k<L.length:=(List.getElem?_eq_some_iff.1 hk).1
 have hle:k*57+57≤cs.length:=by
  have:(k+1)*57≤L.length*57:=Nat.mul_le_mul_right _ hkl
  omega
 obtain⟨-,-,q3,q4,q5⟩:=h1.rules
 refine⟨tv,by rw [q3];simp;omega,?_,by rw [q5];simpa using hle,h5⟩
 rw [q4 _ _ hle]
 apply List.ext_getElem?
 intro i
 rw [List.getElem?_take,List.getElem?_drop]
 by_cases hi:i<57
 ·rw [if_pos hi,h4 i hi]
 ·rw [if_neg hi,List.getElem?_eq_none (by rw [Rw.len hr];omega)]
def NormB (N:Nat) (l:List Rw) (w:World) (e:Ending) (w':World):Prop:=
 ∃g,e=.returned (.agg #[.slice (some ⟨g,0,none⟩) N N])∧w.heap.size≤g∧RowsB (fun b=>w.heap.size≤b∧b≠g) w' g 134 (tab N (inRow N l))∧Below w.heap.size w w'
set_option maxRecDepth 100000 in
set_option maxHeartbeats 1000000 in
theorem norm_blk (S:Nat→Prop) (N:Nat) (hN:N≤16) (a:Option Addr) (len cap:Nat) (l:List Rw) (w:World) (hrd:RdRs S w a len l) (hm1:len≤cap) (hm2:cap≤maxLen) :
 Calls Tryz.prog 185 #[.int .i64 N,.agg #[.slice a len cap]] w (NormB N l w):=by
 have hmf:∀(fn:Fn) (first cap:Array Value) (w:World),(Instr.makeFunc fn first cap).run Tryz.prog w=.ok (.func fn first cap) w:=fun _ _ _ _=>rfl
 have HR:=Lib.hid hrd
 clear hrd
 have hm:mayN N=true:=by simp [mayN];omega
 have HNN:=Lib.hid hN
 go_enter Tryz.func185,Tryz.ntmps185
 go_wp2_with fail
 refine (may_any N _).mono ?_
 rintro e w' ⟨rfl,rfl⟩
 rw [hm]
 go_wp2_with fail
 have hB:Below w.heap.size w (((w.alloc (.cells #[.int .i64 N] 3)).alloc (.cells #[.slice a len cap] 61)).alloc (.cells #[.slice none 0 0] 61)):=(((Below.refl _ _).alloc (Nat.le_refl _) _).alloc (by simp) _).alloc (by simp;omega) _
 have h0:(((w.alloc (.cells #[.int .i64 N] 3)).alloc (.cells #[.slice a len cap] 61)).alloc (.cells #[.slice none 0 0] 61)).cell? ⟨w.heap.size,0,none⟩=some (.int .i64 N):=
  (((Blk.new w 3 #[Value.int .i64 N]).alloc _).alloc _).cell 0
 have h2:Blk (((w.alloc (.cells #[.int .i64 N] 3)).alloc (.cells #[.slice a len cap] 61)).alloc (.cells #[.slice none 0 0] 61)) (w.heap.size+1+1) 61 #[.slice none 0 0]:=new2 w _ _ [.slice none 0 0] _
 have hsz:(((w.alloc (.cells #[.int .i64 N] 3)).alloc (.cells #[.slice a len cap] 61)).alloc (.cells #[.slice none 0 0] 61)).heap.size=w.heap.size+1+1+1:=by simp
 generalize (((w.alloc (.cells #[.int .i64 N] 3)).alloc (.cells #[.slice a len cap] 61)).alloc (.cells #[.slice none 0 0] 61))=w0 at hB h0 h2 hsz ⊢
 refine (fillr_any S N HNN.out w.heap.size a len cap l w0 h0 (by omega) (HR.out.below hB (fun _ _ h=>h)) hm1 hm2).mono ?_
 rintro e w1 ⟨rfl,hrows,hb1⟩
 have k2:=h2.below hb1 h2.lt
 have c2:=k2.cell 0
 have z2:=k2.frozen 0
 simp at c2
 have hfin:NormB N l w (.returned (.agg #[.slice (some ⟨w0.heap.size,0,none⟩) N N])) (w1.setCell ⟨w.heap.size+1+1,0,none⟩ (.slice (some ⟨w0.heap.size,0,none⟩) N N)):=by
  rw [fillR_tab] at hrows
  refine⟨_,rfl,by omega,?_,(hB.trans (hb1.mono (by omega))).setCell (by simp;omega) _⟩
  have hc:=(Chg.refl (· =w.heap.size+1+1) w1).set_at 0 (.slice (some ⟨w0.heap.size,0,none⟩) N N)
  exact (hrows.chg hc (by omega) (fun b _ h h'=>by omega)).mono (fun b _ h=>by omega)
 have hc:(w1.setCell ⟨w.heap.size+1+1,0,none⟩ (.slice (some ⟨w0.heap.size,0,none⟩) N N)).cell? ⟨w.heap.size+1+1,0,none⟩=some (.slice (some ⟨w0.heap.size,0,none⟩) N N):=(k2.set_ 0 _).cell 0
 have HF:=Lib.hid (And.intro hc hfin)
 clear hrows hb1 hfin k2 hB h0 h2 hc hsz
 go_wp2_with fail
 try simp only [Exit.inBlock,Exit.then]
 first | refine bodyPost_ret (ret_row (n:=1) rfl (by kernel_rfl) _ _ _ rfl ?_) rfl ?_ | refine bodyPost_end (ret_row (n:=1) rfl (by kernel_rfl) _ _ _ rfl ?_) rfl ?_
 ·exact (row1 HF.out.1).1
 ·rw [(row1 HF.out.1).2];exact HF.out.2
theorem canPut_putL {w:World} {p:Addr} {l:List Value} (h:canPut w p l.length=true) (q:Addr) (n:Nat):canPut (putRow w p l) q n=canPut w q n:=by
 obtain⟨pb,po,ps⟩:=p
 obtain⟨qb,qo,qs⟩:=q
 by_cases e:qb=pb
 ·subst e
  unfold canPut at h
  split at h
  ·rename_i cur t hg
   simp only [Bool.and_eq_true,decide_eq_true_eq] at h
   have hp:(putRow w ⟨qb,po,ps⟩ l).heap[qb]? =some (.cells (cur.toList.take po++l++cur.toList.drop (po+l.length)).toArray t (0,0)):=by
    have hb:Blk w qb t cur.toList.toArray:=by unfold Blk;simpa using hg
    have:=hb.put po l
    unfold Blk at this
    rw [←this]
    rfl
   unfold canPut
   simp only
   rw [hp,hg]
   have hle:=h.2
   have:(cur.toList.take po++l++cur.toList.drop (po+l.length)).toArray.size=cur.size:=by
    simp;omega
   simp only [this]
  ·cases h
 ·have:(putRow w ⟨pb,po,ps⟩ l).heap[qb]? =w.heap[qb]?:=putRow_other _ _ _ _ e
  unfold canPut
  simp only
  rw [this]
theorem cell_put {w:World} {p q:Addr} {v:Value} {l:List Value} (h:w.cell? p=some v) (hne:p.block≠q.block):(putRow w q l).cell? p=some v:=(World.cell?_of_block (putRow_other _ _ _ _ hne)).trans h
theorem row_put {w:World} {p q:Addr} {n:Nat} {l:List Value} (hne:p.block≠q.block):hasRow (putRow w q l) p n=hasRow w p n∧rowOf (putRow w q l) p n=rowOf w p n:=row_block (putRow_other _ _ _ _ hne)
theorem ag_side:aggOf Tryz.prog 360 2=true:=by kernel_rfl
theorem ag_mom:aggOf Tryz.prog 363 4=true:=by kernel_rfl
section
variable (ρ:Operand→Value) (d:Option Tmp) (x y:Operand) (ty:TypeId) (s:String) (af:Array Edge) (g:Option (Nat×Bool)) (w:World)
@[go_sem ↓] theorem ld_side (h:hasRowV w 2 (ρ x)=true) :
 (execOp ρ { dst:=d,op:=.load 360 x,type:=ty,pos:=s,after:=af,guard:=g }).run Tryz.prog w=.ok (.value (.agg (rowV w 2 (ρ x)).toArray)) w:=exec_load ag_side ρ d x ty s af g w h
@[go_sem ↓] theorem ld_mom (h:hasRowV w 4 (ρ x)=true) :
 (execOp ρ { dst:=d,op:=.load 363 x,type:=ty,pos:=s,after:=af,guard:=g }).run Tryz.prog w=.ok (.value (.agg (rowV w 4 (ρ x)).toArray)) w:=exec_load ag_mom ρ d x ty s af g w h
@[go_sem ↓] theorem st_side (h1:okAgg 2 (ρ y)=true) (h2:canPutV w 2 (ρ x)=true) :
 (execOp ρ { dst:=d,op:=.store 360 x y,type:=ty,pos:=s,after:=af,guard:=g }).run Tryz.prog w=.ok .skip (putV w (ρ x) (ρ y)):=exec_store ag_side ρ d x y ty s af g w h1 h2
@[go_sem ↓] theorem st_mom (h1:okAgg 4 (ρ y)=true) (h2:canPutV w 4 (ρ x)=true) :
 (execOp ρ { dst:=d,op:=.store 363 x y,type:=ty,pos:=s,after:=af,guard:=g }).run Tryz.prog w=.ok .skip (putV w (ρ x) (ρ y)):=exec_store ag_mom ρ d x y ty s af g w h1 h2
end
@[go_sem ↓] theorem fld_word (v:Value) (w:World):(Instr.field 61 (.agg #[v]) 0).run Tryz.prog w=.ok v w:=by
 have hA:=run_isAggB w ⟨_,Tryz.underlying59⟩
 have hg:isAggB Tryz.prog 59=false:=by kernel_rfl
 rw [hg] at hA
 unfold Instr.field
 simp only [Sem.run_bind,run_underlying Tryz.underlying61,Result.andThen_ok]
 simp [part,hA,asAgg]
@[go_sem ↓] theorem fld_side0 (a b:Value) (w:World):(Instr.field 360 (.agg #[a,b]) 0).run Tryz.prog w=.ok a w:=(by kernel_rfl)
@[go_sem ↓] theorem idx_mom0 (a b c d:Value) (w:World):(Instr.index 363 (.agg #[a,b,c,d]) (.int .i64 0)).run Tryz.prog w=.ok (.agg #[a,b]) w:=(by kernel_rfl)
@[go_sem ↓] theorem idx_mom1 (a b c d:Value) (w:World):(Instr.index 363 (.agg #[a,b,c,d]) (.int .i64 1)).run Tryz.prog w=.ok (.agg #[c,d]) w:=(by kernel_rfl)
set_option maxRecDepth 100000 in
set_option maxHeartbeats 400000 in
theorem distance_any (p n me way s:Nat) (w:World) (hn:w.cell? ⟨p,0,none⟩=some (.int .i64 n)) (hme:w.cell? ⟨p,1,none⟩=some (.int .i64 me)) (h4:4≤n) (h16:n≤16) (hm:me<n) (hs:s<n) :
 Calls Tryz.prog 186 #[.pointer (some ⟨p,0,none⟩),.int .i64 way,.int .i64 s] w fun e w'=>e=.returned (.int .i64 (distM n me way s))∧∃k,w'=w.drewN k:=by
 have hn0:¬(n:Int)=0:=by omega
 unfold distM
 by_cases hw:way=0
 ·rw [if_pos hw]
  have hwb:((way:Int)==0)=true:=by simp;omega
  have he:Hid (((me:Int) - s+n).tmod n=((me+n - s) % n:Nat)):=Lib.hid (by rw [Int.tmod_eq_emod_of_nonneg (by omega)];rw [show (me:Int) - s+n=((me+n - s:Nat):Int) from by omega];norm_cast)
  have he2:Hid (((me:Int) - s+n) % n=((me+n - s) % n:Nat)):=Lib.hid (by rw [show (me:Int) - s+n=((me+n - s:Nat):Int) from by omega];norm_cast)
  clear hw
  go_enter Tryz.func186,Tryz.ntmps186
  go_wp2
  go_quiet (fail)
  go_wp2
  go_ret
  exact⟨by first | (rw [he.out];rfl) | (rw [he2.out];rfl),_,rfl⟩
 ·rw [if_neg hw]
  have hwb:((way:Int)==0)=false:=by simp;omega
  have he:Hid (((s:Int) - me+n).tmod n=((s+n - me) % n:Nat)):=Lib.hid (by rw [Int.tmod_eq_emod_of_nonneg (by omega)];rw [show (s:Int) - me+n=((s+n - me:Nat):Int) from by omega];norm_cast)
  have he2:Hid (((s:Int) - me+n) % n=((s+n - me) % n:Nat)):=Lib.hid (by rw [show (s:Int) - me+n=((s+n - me:Nat):Int) from by omega];norm_cast)
  clear hw
  go_enter Tryz.func186,Tryz.ntmps186
  go_wp2
  go_quiet (fail)
  go_wp2
  go_ret
  exact⟨by first | (rw [he.out];rfl) | (rw [he2.out];rfl),_,rfl⟩
end Go.Proofs.YtdilbjikeilhbaaGreatDoor
