import Derived.Test.YtdilbjikeilhbaaGreatDoorGn07
import Derived.Deep.RegionLaw
import Derived.Test.YtdilbjikeilhbaaGreatDoorGn06
import Derived.Laws.Cover3
import Derived.Test.YtdilbjikeilhbaaGreatDoorGn08
namespace Go.Proofs.YtdilbjikeilhbaaGreatDoor
open Go.RowKit
set_option linter.unusedVariables false
set_option linter.unusedSimpArgs false
structure OP (w:World) (rv c:List Value) (is:Bool) (l:List Hd) (k:Nat) (v:Value) (wr:World):Prop where
 b0:Blk wr w.heap.size 134 rv.toArray
 b1:Blk wr (w.heap.size+1) 628 rowZ.toArray
 b2:Blk wr (w.heap.size+1+1) 628 (Value.bool is :: (c++ [v])).toArray
 own:wr.ownsRow (w.heap.size+1+1+1) 643 56 v k ((l.take k).flatMap Hd.vals)
 sz:w.heap.size+1+1+1≤wr.heap.size
 bel:Below w.heap.size w wr
theorem OP.start (w:World) (rv c:List Value) (is:Bool) (l:List Hd):OP w rv c is l 0 (.slice none 0 0) (((w.alloc (.cells rv.toArray 134)).alloc (.cells rowZ.toArray 628)).alloc (.cells (Value.bool is :: (c++ [.slice none 0 0])).toArray 628)):=
 ⟨((Blk.new _ _ _).alloc _).alloc _,(new1 _ _ _ _).alloc _,new2 _ _ _ _ _,by simpa using World.ownsRow_nil _ _ _ _,by simp,(((Below.refl _ _).alloc (Nat.le_refl _) _).alloc (by simp) _).alloc (by simp;omega) _⟩
theorem OP.step {w:World} {rv c:List Value} (hcl:c.length=55) {is:Bool} {l:List Hd} {k:Nat} {v v':Value} {wr wm w1:World} (h:OP w rv c is l k v wr) (hm:Below wr.heap.size wr wm) (hg:wm.grownBy w1 v.ownBlock)
 {y:Hd} (hy:l[k]? =some y) (ho:w1.ownsRow (w.heap.size+1+1+1) 643 56 v' (k+1) ((l.take k).flatMap Hd.vals++y.vals)) :
 OP w rv c is l (k+1) v' (w1.setCell ⟨w.heap.size+1+1,56,none⟩ v'):=by
 have hne:∀b,b<w.heap.size+1+1+1→some b≠v.ownBlock:=fun b hb=>own_ne h.own hb
 have hs:=h.sz
 have hmk:∀(b:Nat) (t:TypeId) (cs:Array Value),b<w.heap.size+1+1+1→Blk wr b t cs→Blk w1 b t cs:=fun b t cs hb hk=>by
  have h1:=hk.below hm hk.lt
  exact (hg.block b h1.lt (hne b hb)).trans h1
 have hb2:=(hmk _ _ _ (by omega) h.b2).set_ 56 v'
 have e:(Value.bool is :: (c++ [v])).toArray.setIfInBounds 56 v'=(Value.bool is :: (c++ [v'])).toArray:=by
  simp [List.set_append,hcl]
 rw [e] at hb2
 have hB1:Below w.heap.size w w1:=(h.bel.trans (hm.mono (by omega))).grown hg (by have:=hm.size;omega) (fun q hq=>by have:=(h.own.lt q hq).1;omega)
 refine⟨(hmk _ _ _ (by omega) h.b0).far (by first | (simp;done) | (simp;omega)) _,(hmk _ _ _ (by omega) h.b1).far (by first | (simp;done) | (simp;omega)) _,hb2,?_,?_,hB1.setCell (by simp;omega) _⟩
 ·rw [List.take_add_one,hy,List.flatMap_append]
  refine own_block (by simpa using ho) (fun q hq=>Below.heap_setCell _ _ _ _ ?_)
  have:=(ho.lt q hq).1
  simp;omega
 ·have:=hm.size;have:=hg.size;simp;omega
def OS (w:World) (e:TypeId) (l:List Rw) (k:Nat) (v:Value) (wr:World):Prop:=
 (∃ps:List (Rw×Value),ps.length=k∧ps.map Prod.fst=l.take k∧OwnR w.heap.size wr e v ps)∧Below w.heap.size w wr
theorem OS.start (w:World) (e:TypeId) (l:List Rw):OS w e l 0 (.slice none 0 0) w:=⟨⟨[],rfl,by simp,OwnR.nil _ _ _⟩,Below.refl _ _⟩
theorem OS.step {w:World} {e:TypeId} {l:List Rw} {k:Nat} {v:Value} {wr wm w1:World} (hbel:Below w.heap.size w wr) {ps:List (Rw×Value)} (p1:ps.length=k) (p2:ps.map Prod.fst=l.take k) (p3:OwnR w.heap.size wr e v ps) (hm:Below wr.heap.size wr wm) {y:Rw} {tv:Value} (hyk:y.ok) (hy:l[k]? =some y)
 (ht:RowR (wr.heap.size≤·) wm y tv) {g cap:Nat}
 (ho:w1.ownsRow w.heap.size e 57 (.slice (some ⟨g,0,none⟩) (k+1) cap) (k+1) (flatP ps++y.vals tv)) (hg:wm.grownBy w1 v.ownBlock) (hlie:v.ownBlock=some g∨g=wm.heap.size) :
 OS w e l (k+1) (.slice (some ⟨g,0,none⟩) (k+1) cap) w1:=by
 have hl:=fun b hb=>(p3.1.lt b hb).2
 have hms:=hm.size
 have hbs:=hbel.size
 have hB1:Below w.heap.size w w1:=(hbel.trans (hm.mono hbs)).grown hg (by omega) (fun q hq=>by have:=(p3.1.lt q hq).1;omega)
 have p3m:OwnR w.heap.size wm e v ps:=p3.keep hms (fun b _ hb=>hm.block b hb)
 have hpush:=p3m.push hyk (ht.mono (fun b hb hS=>⟨by omega,fun e=>by have:=hl b e.symm;omega⟩)) p1 ho hg hlie
 exact⟨⟨ps++ [(y,tv)],by simp [p1],by rw [List.map_append,p2,List.take_add_one,hy];rfl,hpush⟩,hB1⟩
def RowsPost (l:List Rw) (w:World) (e:Ending) (w':World):Prop:=
 ∃a cap,e=.returned (.slice a l.length cap)∧RdRs (w.heap.size≤·) w' a l.length l∧l.length≤cap∧cap≤maxLen∧Below w.heap.size w w'
theorem OS.post {w:World} {e:TypeId} {l:List Rw} {k:Nat} {v:Value} {wr:World} (h:OS w e l k v wr) (hk:k=l.length):RowsPost l w (.returned v) wr:=by
 obtain⟨⟨ps,p1,p2,p3⟩,hB⟩:=h
 obtain⟨a,cap,rfl,h1,h2,h3⟩:=p3.rd
 subst hk
 rw [List.take_length] at p2
 rw [p1,p2] at h1
 rw [p1] at h2 ⊢
 exact⟨a,cap,rfl,h1,h2,h3,hB⟩
def mkH:Hd:=⟨false,.int .i64 (-77) :: cellR⟩
def TwR (S:Nat→Prop) (w:World) (r:Rw) (tv:Value):Prop:=∃x cap,tv=.slice x r.t.length cap∧RdHs S w x (r.t.length+2) (r.t++ [mkH,mkH])∧r.t.length+2≤cap∧cap≤maxLen∧RoomV S w tv
theorem TwR.row {S:Nat→Prop} {w:World} {r:Rw} {tv:Value} (h:TwR S w r tv):RowR S w r tv:=by
 obtain⟨x,cap,rfl,h1,h2,h3,-⟩:=h
 exact⟨x,r.t.length,cap,rfl,h1.pre,by omega,h3⟩
theorem TwR.room {S:Nat→Prop} {w:World} {r:Rw} {tv:Value} (h:TwR S w r tv):RoomV S w tv:=by
 obtain⟨x,cap,rfl,h1,h2,h3,h4⟩:=h
 exact h4
theorem TwR.keep {S:Nat→Prop} {w w':World} {r:Rw} {tv:Value} (h:TwR S w r tv) (hs:w.heap.size≤w'.heap.size) (hk:∀b,S b→b<w.heap.size→w'.heap[b]? =w.heap[b]?):TwR S w' r tv:=by
 obtain⟨x,cap,rfl,h1,h2,h3,h4⟩:=h
 exact⟨x,cap,rfl,h1.keep hs hk,h2,h3,h4.keep hk⟩
theorem TwR.mono {S S':Nat→Prop} {w:World} {r:Rw} {tv:Value} (h:TwR S w r tv) (hs:∀b,b<w.heap.size→S b→S' b):TwR S' w r tv:=by
 obtain⟨x,cap,rfl,h1,h2,h3,h4⟩:=h
 exact⟨x,cap,rfl,h1.mono hs,h2,h3,h4.mono hs⟩
theorem TwR.below {S:Nat→Prop} {w w':World} {r:Rw} {tv:Value} (h:TwR S w r tv) (hb:Below w.heap.size w w'):TwR S w' r tv:=h.keep hb.size fun b _ hlt=>hb.block b hlt
theorem own_room {w:World} {m:Nat} (hm:m≤1048576) (z:List Value) (hz:z.length=56):(w.alloc (.cells (zrep z m).toArray 204)).ownsRow w.heap.size 204 56 (.slice (some ⟨w.heap.size,0,none⟩) 0 m) 0 []:=
 ⟨rfl,.inr ⟨w.heap.size,m,_,rfl,Nat.le_refl _,heap_alloc_new w _,Nat.zero_le _,by simp only [maxLen];omega,by simp [len_zrep,hz],by simp⟩⟩
structure TP (w:World) (rv:List Value) (v:Value) (n:Nat) (l:List Hd) (wr:World):Prop where
 b0:Blk wr w.heap.size 134 rv.toArray
 b1:Blk wr (w.heap.size+1) 134 rowZ.toArray
 own:wr.ownsRow (w.heap.size+1+1) 204 56 v n (flatH l)
 sz:w.heap.size+1+1≤wr.heap.size
 bel:Below w.heap.size w wr
theorem TP.start (w:World) (rv:List Value) (m:Nat) (hm:m≤1048576) :
 TP w rv (.slice (some ⟨w.heap.size+1+1,0,none⟩) 0 m) 0 [] (((w.alloc (.cells rv.toArray 134)).alloc (.cells rowZ.toArray 134)).alloc (.cells (zrep heldZ m).toArray 204)):=by
 have h:=own_room (w:=(w.alloc (.cells rv.toArray 134)).alloc (.cells rowZ.toArray 134)) hm heldZ len_heldZ
 have e:((w.alloc (.cells rv.toArray 134)).alloc (.cells rowZ.toArray 134)).heap.size=w.heap.size+1+1:=by simp
 rw [e] at h
 exact⟨((Blk.new _ _ _).alloc _).alloc _,(new1 _ _ _ _).alloc _,h,by simp,(((Below.refl _ _).alloc (Nat.le_refl _) _).alloc (by simp) _).alloc (by simp;omega) _⟩
theorem TP.grow {w:World} {rv:List Value} {v v':Value} {n n':Nat} {l l':List Hd} {wr wm w1:World} (h:TP w rv v n l wr) (hm:Below wr.heap.size wr wm) (hg:wm.grownBy w1 v.ownBlock)
 (ho:w1.ownsRow (w.heap.size+1+1) 204 56 v' n' (flatH l')):TP w rv v' n' l' w1:=by
 have hne:∀b,b<w.heap.size+1+1→some b≠v.ownBlock:=fun b hb=>own_ne h.own hb
 have hs:=h.sz
 have hms:=hm.size
 have hgs:=hg.size
 have hmk:∀(b:Nat) (t:TypeId) (cs:Array Value),b<w.heap.size+1+1→Blk wr b t cs→Blk w1 b t cs:=fun b t cs hb hk=>by
  have h1:=hk.below hm hk.lt
  exact (hg.block b h1.lt (hne b hb)).trans h1
 exact⟨hmk _ _ _ (by omega) h.b0,hmk _ _ _ (by omega) h.b1,ho,by omega,(h.bel.trans (hm.mono (by omega))).grown hg (by omega) (fun q hq=>by have:=(h.own.lt q hq).1;omega)⟩
theorem room_own {w:World} {base:Nat} {a:Option Addr} {n cap k:Nat} {xs:List Value} (h:w.ownsRow base 204 56 (.slice a n cap) k xs):RoomV (base≤·) w (.slice a n cap):=fun x m cp e j hj=>by
 cases e
 rcases h.2 with ⟨he,rfl⟩ | ⟨g,cp,cur,he,hb,hg,h1,h2,h3,-⟩
 ·cases he;omega
 ·cases he
  have:(j+1)*56≤cur.size:=by rw [h3];exact Nat.mul_le_mul_right _ hj
  exact⟨g,0,cur,rfl,hb,hg,by omega⟩
def RdTs (S:Nat→Prop) (w:World) (a:Option Addr) (len:Nat) (l:List Rw):Prop:=
 l.length=len∧(∀r ∈ l,r.ok)∧∀k r,l[k]? =some r→∃b off tv,a=some ⟨b,off,none⟩∧S b∧b<w.heap.size∧hasRow w ⟨b,off+k*57,none⟩ 57=true∧rowOf w ⟨b,off+k*57,none⟩ 57=r.vals tv∧TwR S w r tv
theorem RdTs.rd {S:Nat→Prop} {w:World} {a:Option Addr} {len:Nat} {l:List Rw} (h:RdTs S w a len l):RdRs S w a len l:=
 ⟨h.1,h.2.1,fun k r hk=>by
   obtain⟨b,off,tv,h1,h2,h3,h4,h5,h6⟩:=h.2.2 k r hk
   obtain⟨x,m,cap,rfl,h7,h8,h9⟩:=h6.row
   exact⟨b,off,x,m,cap,h1,h2,h3,h4,h5,h7,h8,h9⟩⟩
theorem RdTs.keep {S:Nat→Prop} {w w':World} {a:Option Addr} {len:Nat} {l:List Rw} (h:RdTs S w a len l) (hs:w.heap.size≤w'.heap.size) (hk:∀b,S b→b<w.heap.size→w'.heap[b]? =w.heap[b]?):RdTs S w' a len l:=
 ⟨h.1,h.2.1,fun k x hx=>by
   obtain⟨b,off,tv,e,hS,hb,h1,h2,h3⟩:=h.2.2 k x hx
   have:=row_block (n:=57) (p:=⟨b,off+k*57,none⟩) (hk b hS hb)
   exact⟨b,off,tv,e,hS,by omega,this.1.trans h1,this.2.trans h2,h3.keep hs hk⟩⟩
theorem RdTs.mono {S S':Nat→Prop} {w:World} {a:Option Addr} {len:Nat} {l:List Rw} (h:RdTs S w a len l) (hs:∀b,b<w.heap.size→S b→S' b):RdTs S' w a len l:=
 ⟨h.1,h.2.1,fun k x hx=>by
   obtain⟨b,off,tv,e,hS,hb,h1,h2,h3⟩:=h.2.2 k x hx
   exact⟨b,off,tv,e,hs b hb hS,hb,h1,h2,h3.mono hs⟩⟩
theorem RdTs.below {S:Nat→Prop} {w w':World} {a:Option Addr} {len:Nat} {l:List Rw} (h:RdTs S w a len l) (hb:Below w.heap.size w w'):RdTs S w' a len l:=h.keep hb.size fun b _ hlt=>hb.block b hlt
def OwnT (base:Nat) (w:World) (e:TypeId) (v:Value) (ps:List (Rw×Value)):Prop:=OwnR base w e v ps∧∀p ∈ ps,TwR (fun b=>base≤b∧some b≠v.ownBlock) w p.1 p.2
theorem OwnT.nil (base:Nat) (w:World) (e:TypeId):OwnT base w e (.slice none 0 0) []:=⟨OwnR.nil _ _ _,by simp⟩
theorem OwnT.keep {base:Nat} {w w':World} {e:TypeId} {v:Value} {ps:List (Rw×Value)} (h:OwnT base w e v ps) (hs:w.heap.size≤w'.heap.size) (hk:∀b,base≤b→b<w.heap.size→w'.heap[b]? =w.heap[b]?):OwnT base w' e v ps:=
 ⟨h.1.keep hs hk,fun p hp=>(h.2 p hp).keep hs (fun b hb hlt=>hk b hb.1 hlt)⟩
theorem OwnT.push {base:Nat} {wm w1:World} {e:TypeId} {v:Value} {ps:List (Rw×Value)} (h:OwnT base wm e v ps) {r:Rw} {tv:Value} (hr:r.ok) (ht:TwR (fun b=>base≤b∧some b≠v.ownBlock) wm r tv) {g cap n:Nat} (hn:ps.length=n)
 (ho:w1.ownsRow base e 57 (.slice (some ⟨g,0,none⟩) (n+1) cap) (n+1) (flatP ps++r.vals tv)) (hg:wm.grownBy w1 v.ownBlock) (hl:v.ownBlock=some g∨g=wm.heap.size) :
 OwnT base w1 e (.slice (some ⟨g,0,none⟩) (n+1) cap) (ps++ [(r,tv)]):=by
 refine⟨h.1.push hr ht.row hn ho hg hl,fun p hp=> ?_⟩
 have key:∀{r':Rw} {tv':Value},TwR (fun b=>base≤b∧some b≠v.ownBlock) wm r' tv'→TwR (fun b=>base≤b∧some b≠(Value.slice (some ⟨g,0,none⟩) (n+1) cap).ownBlock) w1 r' tv':=fun {r' tv'} h'=>by
  have h2:TwR (fun b=>base≤b∧some b≠v.ownBlock∧b<wm.heap.size) wm r' tv':=h'.mono (fun b hb hS=>⟨hS.1,hS.2,hb⟩)
  refine (h2.keep hg.size (fun b hb _=>hg.block b hb.2.2 hb.2.1)).mono (fun b _ hb=>⟨hb.1,?_⟩)
  simp only [Value.ownBlock,ne_eq,Option.some.injEq]
  rintro rfl
  rcases hl with hl | hl
  ·exact hb.2.1 hl.symm
  ·omega
 rcases List.mem_append.1 hp with hp | hp
 ·exact key (h.2 p hp)
 ·simp at hp
  subst hp
  exact key ht
theorem OwnT.rd {base:Nat} {w:World} {e:TypeId} {v:Value} {ps:List (Rw×Value)} (h:OwnT base w e v ps):∃a cap,v=.slice a ps.length cap∧RdTs (base≤·) w a ps.length (ps.map Prod.fst)∧ps.length≤cap∧cap≤maxLen:=by
 obtain⟨⟨h1,h2⟩,h3⟩:=h
 have hok:∀p ∈ ps,p.1.ok:=fun p hp=>(h2 p hp).1
 rcases h1.2 with ⟨rfl,h0⟩ | ⟨g,cap,cur,rfl,hb,hg,hnc,hcm,hcs,htake⟩
 ·have:ps=[]:=List.eq_nil_of_length_eq_zero h0
  subst this
  exact⟨none,0,rfl,⟨rfl,by simp,by simp⟩,Nat.le_refl _,by simp⟩
 ·refine⟨_,cap,rfl,⟨by simp,?_,fun k r hk=> ?_⟩,hnc,hcm⟩
  ·intro r hr
   obtain⟨p,hp,rfl⟩:=List.mem_map.1 hr
   exact hok p hp
  ·rw [List.getElem?_map,Option.map_eq_some_iff] at hk
   obtain⟨p,hk,rfl⟩:=hk
   have hkl:k<ps.length:=(List.getElem?_eq_some_iff.1 hk).1
   have hpt:=h3 p (List.mem_of_getElem? hk)
   have hpo:=hok p (List.mem_of_getElem? hk)
   have hlen:=Rw.len hpo p.2
   have hrow:=row_of_cells (w:=w) (p:=⟨g,0+k*57,none⟩) (l:=p.1.vals p.2) (fun j u hu=>by
    have hj:j<57:=by rw [←hlen];exact (List.getElem?_eq_some_iff.1 hu).1
    have hin:k*57+j<ps.length*57:=by
     have:(k+1)*57≤ps.length*57:=Nat.mul_le_mul_right _ (by omega)
     omega
    rw [add_at,cell_of_row w g _ cur e (0,0) hg,show 0+k*57+j=k*57+j from by omega]
    have e1:cur[k*57+j]? =(cur.toList.take (ps.length*57))[k*57+j]?:=by rw [List.getElem?_take,if_pos hin];simp
    rw [e1,htake,flatP_at hok hk hj,hu])
   rw [hlen] at hrow
   exact⟨g,0,p.2,rfl,hb,lt_of_some hg,hrow.1,hrow.2,hpt.mono (fun b _ h=>h.1)⟩
def SpA (T:Nat→Prop) (w:World) (g n:Nat):Prop:=
 ∃cur:Array Value,w.heap[g]? =some (.cells cur 134 (0,0))∧n*57≤cur.size∧∀k,k<n→∃(r:Rw) (tv:Value),r.ok∧(∃x m cap,tv=.slice x m cap∧m≤cap∧cap≤maxLen)∧RoomV T w tv∧∀i,i<57→cur[k*57+i]? =(r.vals tv)[i]?
def SpS (T:Nat→Prop) (w:World) (a:Option Addr) (n:Nat):Prop:=n=0∨∃g,a=some ⟨g,0,none⟩∧T g∧SpA T w g n
theorem SpA.keep {T:Nat→Prop} {w w':World} {g n:Nat} (h:SpA T w g n) (hg:w'.heap[g]? =w.heap[g]?) (hk:∀b,T b→b<w.heap.size→w'.heap[b]? =w.heap[b]?):SpA T w' g n:=by
 obtain⟨cur,h1,h2,h3⟩:=h
 refine⟨cur,hg.trans h1,h2,fun k hkn=> ?_⟩
 obtain⟨r,tv,q1,q2,q3,q4⟩:=h3 k hkn
 exact⟨r,tv,q1,q2,q3.keep hk,q4⟩
theorem SpA.mono {T T':Nat→Prop} {w:World} {g n:Nat} (h:SpA T w g n) (hs:∀b,b<w.heap.size→T b→T' b):SpA T' w g n:=by
 obtain⟨cur,h1,h2,h3⟩:=h
 refine⟨cur,h1,h2,fun k hkn=> ?_⟩
 obtain⟨r,tv,q1,q2,q3,q4⟩:=h3 k hkn
 exact⟨r,tv,q1,q2,q3.mono hs,q4⟩
theorem SpA.lt {T:Nat→Prop} {w:World} {g n:Nat} (h:SpA T w g n):g<w.heap.size:=by
 obtain⟨cur,h1,-⟩:=h
 exact lt_of_some h1
theorem SpS.keep {T:Nat→Prop} {w w':World} {a:Option Addr} {n:Nat} (h:SpS T w a n) (hk:∀b,T b→b<w.heap.size→w'.heap[b]? =w.heap[b]?):SpS T w' a n:=by
 rcases h with h | ⟨g,h1,h2,h3⟩
 ·exact .inl h
 ·exact .inr ⟨g,h1,h2,h3.keep (hk g h2 h3.lt) hk⟩
theorem SpS.mono {T T':Nat→Prop} {w:World} {a:Option Addr} {n:Nat} (h:SpS T w a n) (hs:∀b,b<w.heap.size→T b→T' b):SpS T' w a n:=by
 rcases h with h | ⟨g,h1,h2,h3⟩
 ·exact .inl h
 ·exact .inr ⟨g,h1,hs g h3.lt h2,h3.mono hs⟩
theorem SpS.below {T:Nat→Prop} {w w':World} {a:Option Addr} {n:Nat} (h:SpS T w a n) (hb:Below w.heap.size w w'):SpS T w' a n:=h.keep fun b _ hl=>hb.block b hl
theorem OwnT.sp {base:Nat} {w:World} {ps:List (Rw×Value)} {a:Option Addr} {n cap:Nat} (h:OwnT base w 134 (.slice a n cap) ps):SpS (base≤·) w a ps.length:=by
 obtain⟨⟨h1,h2⟩,h3⟩:=h
 have hok:∀p ∈ ps,p.1.ok:=fun p hp=>(h2 p hp).1
 rcases h1.2 with ⟨-,h0⟩ | ⟨g,cp,cur,he,hb,hg,hnc,hcm,hcs,htake⟩
 ·exact .inl h0
 ·cases he
  refine .inr ⟨g,rfl,hb,cur,hg,by rw [hcs];exact Nat.mul_le_mul_right _ hnc,fun k hk=> ?_⟩
  obtain⟨⟨r,tv⟩,hp⟩:∃p,ps[k]? =some p:=⟨_,List.getElem?_eq_getElem hk⟩
  have hpt:=h3 _ (List.mem_of_getElem? hp)
  have hpo:=hok _ (List.mem_of_getElem? hp)
  refine⟨r,tv,hpo,?_,hpt.room.mono fun b _ h=>h.1,fun j hj=> ?_⟩
  ·obtain⟨x,cp',htv,-,q1,q2,-⟩:=hpt
   exact⟨x,_,cp',htv,by omega,q2⟩
  ·have hin:k*57+j<ps.length*57:=by
    have:(k+1)*57≤ps.length*57:=Nat.mul_le_mul_right _ (by omega)
    omega
   have e1:cur[k*57+j]? =(cur.toList.take (ps.length*57))[k*57+j]?:=by rw [List.getElem?_take,if_pos hin];simp
   rw [e1,htake,flatP_at hok hp hj]
structure TW (w:World) (sv:Value) (l:List Rw) (k:Nat) (v:Value) (wr:World):Prop where
 b0:Blk wr w.heap.size 61 #[sv]
 b1:Blk wr (w.heap.size+1) 61 #[.slice none 0 0]
 b2:Blk wr (w.heap.size+1+1) 61 #[v]
 own:∃ps:List (Rw×Value),ps.length=k∧ps.map Prod.fst=l.take k∧OwnT (w.heap.size+1+1+1) wr 134 v ps
 sz:w.heap.size+1+1+1≤wr.heap.size
 bel:Below w.heap.size w wr
theorem TW.start (w:World) (sv:Value) (l:List Rw):TW w sv l 0 (.slice none 0 0) (((w.alloc (.cells #[sv] 61)).alloc (.cells #[.slice none 0 0] 61)).alloc (.cells #[.slice none 0 0] 61)):=
 ⟨((Blk.new _ _ _).alloc _).alloc _,(new1 w _ [Value.slice none 0 0] _).alloc _,new2 w _ _ [Value.slice none 0 0] _,⟨[],rfl,by simp,OwnT.nil _ _ _⟩,by simp,(((Below.refl _ _).alloc (Nat.le_refl _) _).alloc (by simp) _).alloc (by simp;omega) _⟩
def TWPost2 (l:List Rw) (w:World) (e:Ending) (w':World):Prop:=
 ∃a cap,e=.returned (.agg #[.slice a l.length cap])∧RdTs (w.heap.size≤·) w' a l.length l∧l.length≤cap∧cap≤maxLen∧SpS (w.heap.size≤·) w' a l.length∧Below w.heap.size w w'
theorem TW.end_ {w:World} {sv:Value} {k:Nat} {l:List Rw} {v:Value} {wr:World} (h:TW w sv l k v wr) (hL:k=l.length) :
 TWPost2 l w (.returned (.agg #[v])) (wr.setCell ⟨w.heap.size+1,0,none⟩ v)∧(wr.setCell ⟨w.heap.size+1,0,none⟩ v).cell? ⟨w.heap.size+1,0,none⟩=some v:=by
 obtain⟨ps,h1,h2,h3⟩:=h.own
 have h3':OwnT (w.heap.size+1+1+1) (wr.setCell ⟨w.heap.size+1,0,none⟩ v) 134 v ps:=h3.keep (by simp) (fun b hb _=>Below.heap_setCell _ _ _ _ (by simp;omega))
 refine⟨?_,(h.b1.set_ 0 v).cell 0⟩
 obtain⟨a,cap,rfl,h4,h5,h6⟩:=h3'.rd
 subst hL
 rw [List.take_length] at h2
 rw [h1,h2] at h4
 have hsp:=h3'.sp
 rw [h1] at h5 hsp ⊢
 exact⟨a,cap,rfl,h4.mono (fun b _ h=>by omega),h5,h6,hsp.mono (fun b _ h=>by omega),h.bel.setCell (by simp) _⟩
theorem TW.step {w:World} {sv:Value} {k:Nat} {l:List Rw} {v:Value} {wr wm w1:World} (h:TW w sv l k v wr) {ps:List (Rw×Value)} (p1:ps.length=k) (p2:ps.map Prod.fst=l.take k) (p3:OwnT (w.heap.size+1+1+1) wr 134 v ps) (hm:Below wr.heap.size wr wm) {y:Rw} {tv:Value} (hyk:y.ok) (hy:l[k]? =some y)
 (ht:TwR (wr.heap.size≤·) wm y tv) {g cap:Nat}
 (ho:w1.ownsRow (w.heap.size+1+1+1) 134 57 (.slice (some ⟨g,0,none⟩) (k+1) cap) (k+1) (flatP ps++y.vals tv)) (hg:wm.grownBy w1 v.ownBlock) (hlie:v.ownBlock=some g∨g=wm.heap.size) :
 TW w sv l (k+1) (.slice (some ⟨g,0,none⟩) (k+1) cap) (w1.setCell ⟨w.heap.size+1+1,0,none⟩ (.slice (some ⟨g,0,none⟩) (k+1) cap)):=by
 have hs:=h.sz
 have hl:=fun b hb=>(p3.1.1.lt b hb).2
 have hne:∀b,b<w.heap.size+1+1+1→some b≠v.ownBlock:=fun b hb=>own_ne p3.1.1 hb
 have hmk:∀(b:Nat) (t:TypeId) (cs:Array Value),b<w.heap.size+1+1+1→Blk wr b t cs→Blk w1 b t cs:=fun b t cs hb hk=>by
  have h1:=hk.below hm hk.lt
  exact (hg.block b h1.lt (hne b hb)).trans h1
 have hms:=hm.size
 have hgs:=hg.size
 have hB1:Below w.heap.size w w1:=(h.bel.trans (hm.mono (by omega))).grown hg (by omega) (fun q hq=>by have:=(p3.1.1.lt q hq).1;omega)
 have p3m:OwnT (w.heap.size+1+1+1) wm 134 v ps:=p3.keep hms (fun b _ hb=>hm.block b hb)
 have hpush:=p3m.push hyk (ht.mono (fun b hb hS=>⟨by omega,fun e=>by have:=hl b e.symm;omega⟩)) p1 ho hg hlie
 refine⟨(hmk _ _ _ (by omega) h.b0).far (by first | (simp;done) | (simp;omega)) _,(hmk _ _ _ (by omega) h.b1).far (by first | (simp;done) | (simp;omega)) _,(hmk _ _ _ (by omega) h.b2).set_ 0 _,⟨ps++ [(y,tv)],by simp [p1],?_,?_⟩,by simp;omega,hB1.setCell (by simp;omega) _⟩
 ·rw [List.map_append,p2,List.take_add_one,hy];rfl
 ·exact hpush.keep (by simp) (fun b hb _=>Below.heap_setCell _ _ _ _ (by simp;omega))
structure Spd (S:Nat→Prop) (w w':World):Prop where
 os:w'.os=w.os
 tape:w'.tape=w.tape
 output:w'.output=w.output
 size:w.heap.size≤w'.heap.size
 far:∀b,b<w.heap.size→¬S b→w'.heap[b]? =w.heap[b]?
 kind:∀(b:Nat) (cur:Array Value) (t:TypeId) (fr:Nat×Nat),w.heap[b]? =some (.cells cur t fr)→∃cur',w'.heap[b]? =some (.cells cur' t fr)∧cur'.size=cur.size∧(t≠204→cur'=cur)
theorem Spd.refl (S:Nat→Prop) (w:World):Spd S w w:=⟨rfl,rfl,rfl,Nat.le_refl _,fun _ _ _=>rfl,fun b cur t fr h=>⟨cur,h,rfl,fun _=>rfl⟩⟩
theorem Spd.trans {S:Nat→Prop} {a b c:World} (h:Spd S a b) (k:Spd S b c):Spd S a c:=
 ⟨k.os.trans h.os,k.tape.trans h.tape,k.output.trans h.output,Nat.le_trans h.size k.size,fun i hi hs=>(k.far i (Nat.lt_of_lt_of_le hi h.size) hs).trans (h.far i hi hs),fun i cur t fr hc=>by
   obtain⟨c1,h1,h2,h3⟩:=h.kind i cur t fr hc
   obtain⟨c2,k1,k2,k3⟩:=k.kind i c1 t fr h1
   exact⟨c2,k1,k2.trans h2,fun hn=>(k3 hn).trans (h3 hn)⟩⟩
theorem Spd.alloc {S:Nat→Prop} {a b:World} (h:Spd S a b) (o:Obj):Spd S a (b.alloc o):=
 ⟨h.os,h.tape,h.output,by have:=h.size;simp;omega,fun k hk hn=>(Below.heap_alloc _ _ _ (by have:=h.size;omega)).trans (h.far k hk hn),fun i cur t fr hc=>by
   obtain⟨c1,h1,h2,h3⟩:=h.kind i cur t fr hc
   exact⟨c1,(Below.heap_alloc _ _ _ (lt_of_some h1)).trans h1,h2,h3⟩⟩
theorem Spd.mono {S S':Nat→Prop} {a b:World} (h:Spd S a b) (hs:∀k,k<a.heap.size→S k→S' k):Spd S' a b:=⟨h.os,h.tape,h.output,h.size,fun k hk hn=>h.far k hk fun hS=>hn (hs k hk hS),h.kind⟩
theorem Spd.chg {S:Nat→Prop} {a b:World} (h:Spd S a b):Chg S a b:=⟨h.os,h.tape,h.output,h.size,h.far⟩
theorem Spd.put {S:Nat→Prop} {a b:World} (h:Spd S a b) {g o:Nat} {cur:Array Value} {l:List Value} (hg:b.heap[g]? =some (.cells cur 204 (0,0))) (hS:S g∨a.heap.size≤g) (hl:o+l.length≤cur.size):Spd S a (putRow b ⟨g,o,none⟩ l):=by
 have hb:Blk b g 204 cur.toList.toArray:=by simpa [Blk] using hg
 have hp:=hb.put o l
 refine⟨?_,?_,?_,?_,fun k hk hn=> ?_,fun i c t fr hc=> ?_⟩
 ·simp [putRow,hg,World.setRow];exact h.os
 ·simp [putRow,hg,World.setRow];exact h.tape
 ·simp [putRow,hg,World.setRow];exact h.output
 ·have:=h.size;simpa using this
 ·have hne:k≠g:=by rintro rfl;rcases hS with hS | hS;exact hn hS;omega
  exact (putRow_other _ _ _ _ (by simpa using hne)).trans (h.far k hk hn)
 ·obtain⟨c1,h1,h2,h3⟩:=h.kind i c t fr hc
  by_cases hi:i=g
  ·subst hi
   rw [hg] at h1
   cases h1
   refine⟨_,hp,?_,fun hn=>absurd rfl hn⟩
   rw [←h2]
   simp [spl];omega
  ·exact⟨c1,(putRow_other _ _ _ _ (by simpa using hi)).trans h1,h2,h3⟩
@[go_sem ↓] theorem bs_held0 (ρ:Operand→Value) (d:Option Tmp) (ty:TypeId) (s:String) (af:Array Edge) (g:Option (Nat×Bool)) (w:World) :
 (execOp ρ { dst:=d,op:=.buildSlice 132 0 #[],type:=ty,pos:=s,after:=af,guard:=g }).run Tryz.prog w=.ok (.value (.slice (some ⟨w.heap.size,0,none⟩) 0 0)) (w.alloc (.cells #[] 204)):=by
 obtain⟨ht,i,z,hi,hz,h1,h2,h3,h4⟩:=app_held
 have e:Instr.fill (fun i=>some (i*56,56)) (Array.map (fun _=>(default:Value)) (Array.range 0)) []=some #[]:=by
  simp [Instr.fill]
 simp [execOp,Instr.buildSlice,run_underlying ht,sizeOf,typeInfo,hi,h1,newRow,newObj,Sem.run,e]
@[go_sem] theorem eql_nil (w:World) (a:Option Addr) (n c:Nat):(binOp .eql 132 (.slice a n c) (.slice none 0 0)).run Tryz.prog w=.ok (.bool a.isNone) w:=by
 simp only [binOp]
 simp [run_equal_slice_nil w _ _ a n c Tryz.underlying132]
def ClonePost (t:List Hd) (w:World) (e:Ending) (w':World):Prop:=
 ∃x cap,e=.returned (.slice x t.length cap)∧RowR (w.heap.size≤·) w' ⟨false,cellZ,t⟩ (.slice x t.length cap)∧RoomV (w.heap.size≤·) w' (.slice x t.length cap)∧Below w.heap.size w w'
set_option maxRecDepth 100000 in
set_option maxHeartbeats 1000000 in
theorem clone_any (S:Nat→Prop) (x:Option Addr) (m cap:Nat) (t:List Hd) (w:World) (hrd:RdHs S w x m t) (hm1:m≤cap) (hm2:cap≤maxLen) (hbig:m≤100000) :
 Calls Tryz.prog 49 #[.slice x m cap] w (ClonePost t w):=by
 have hl:t.length=m:=hrd.1
 have hok:=hrd.2.1
 unfold maxLen at hm2
 cases x with
 | none=>
   have hm0:m=0:=by
    rcases Nat.eq_zero_or_pos m with h | h
    ·exact h
    ·obtain⟨b,off,hx,-⟩:=hrd.whole h;cases hx
   subst hm0
   have ht:t=[]:=List.eq_nil_of_length_eq_zero hl
   subst ht
   clear hrd
   go_enter Tryz.func49,Tryz.ntmps49
   go_wp2
   go_ret
   exact⟨none,0,rfl,rowR_nil _ _ _ rfl,RoomV.nil _ _,Below.refl _ _⟩
 | some p=>
   have HR:=Lib.hid (And.intro hrd (And.intro hl hok))
   have hisn:(some p:Option Addr).isNone=false:=rfl
   have hown:=World.ownsRow_lit (base:=w.heap.size) (size:=56) (e:=204) w #[] 0 (Nat.le_refl _) (by simp) rfl
   have hB:Below w.heap.size w (w.alloc (.cells #[] 204)):=(Below.refl _ _).alloc (Nat.le_refl _) _
   have HO:=Lib.hid (And.intro hown (And.intro hB (hrd.below hB (fun _ _ h=>h))))
   clear hown hB hrd hl hok
   go_enter Tryz.func49,Tryz.ntmps49
   go_wp2_with (at_builtin;refine wpList_appH app_held (by rfl) (.tmp 5) (.tmp 6) (by rfl) w.heap.size _ _ _ (by rfl) HO.out.1 (some p) m cap t (by rfl) HO.out.2.2 (by omega) (by simp) ?_;intro v1 w1 hown1 hg1 hv1;have H1:=Lib.hid (And.intro hown1 (And.intro hg1 hv1));clear hown1 hg1 hv1)
   go_ret
   obtain⟨h1,h2,x1,c1,rfl⟩:=H1.out
   rw [Nat.zero_add] at h1
   have hll:=HR.out.2.1
   have ho:w1.ownsRow w.heap.size 204 56 (.slice x1 m c1) m (t.flatMap Hd.vals):=by simpa [flatH] using h1
   obtain⟨a',c',he,k1,k2,k3⟩:=RdHs.of_own ho HR.out.2.2
   cases he
   subst hll
   refine⟨_,_,by simp,⟨_,_,_,rfl,k1,k2,k3⟩,room_own ho,HO.out.2.1.grown h2 (by simp) (fun q hq=>(HO.out.1.lt q hq).1)⟩
set_option maxRecDepth 100000 in
set_option maxHeartbeats 1000000 in
theorem clip_any (x:Option Addr) (m cap:Nat) (w:World) (hm1:m≤cap) (hm2:cap≤maxLen) :
 Calls Tryz.prog 48 #[.slice x m cap] w fun e w'=>e=.returned (.slice x m m)∧w'=w:=by
 unfold maxLen at hm2
 have hcc:((m:Nat):Int)≤(m:Int):=Int.le_refl _
 cases x with
 | none=>
   go_enter Tryz.func48,Tryz.ntmps48
   go_wp2
   go_ret
   exact⟨rfl,rfl⟩
 | some p=>
   go_enter Tryz.func48,Tryz.ntmps48
   go_wp2
   go_ret
   exact⟨rfl,rfl⟩
def CopyPost (r:Rw) (w:World) (e:Ending) (w':World):Prop:=∃x,e=.returned (.agg (r.vals (.slice x r.t.length r.t.length)).toArray)∧RowX (w.heap.size≤·) w' r (.slice x r.t.length r.t.length)∧Below w.heap.size w w'
set_option maxRecDepth 100000 in
set_option maxHeartbeats 1000000 in
theorem copy_any (S:Nat→Prop) (r:Rw) (hr:r.ok) (tv:Value) (w:World) (ht:RowR S w r tv) (hlen:r.t.length≤100000) :
 Calls Tryz.prog 27 #[.agg (r.vals tv).toArray] w (CopyPost r w):=by
 have hst:=R2.start w 134 134 r rw0 tv (.slice none 0 0)
 rw [rw0_vals] at hst
 have hvl:=Rw.len hr tv
 obtain⟨x,m,cap,rfl,t1,t2,t3⟩:=id ht
 have hml:r.t.length=m:=t1.1
 go_enter Tryz.func27,Tryz.ntmps27
 go_upto_region 1 with fail
 generalize ((w.alloc (.cells (r.vals (.slice x m cap)).toArray 134)).alloc (.cells rowZ.toArray 134))=w0 at hst ⊢
 have HS:=Lib.hid hst
 obtain⟨-,-,-,f56,-,-,fz⟩:=blk_row hst.b0 hr
 have z56:=fz 56
 have HC:=Lib.hid (clone_any S x m cap r.t w0 (t1.below hst.bel (fun _ _ h=>h)) t2 t3 (by omega))
 have HM:=Lib.hid hml
 have hg0:w.heap.size+1<w0.heap.size:=by have:=hst.sz;omega
 clear hst t1 ht fz hml
 go_wp2_with fail
 refine HC.out.mono ?_
 rintro e w1 ⟨x1,c1,rfl,hrow1,hroom1,hb1⟩
 rw [HM.out] at hrow1 hroom1 ⊢
 obtain⟨x2,m2,c2,he,k1,k2,k3⟩:=hrow1
 cases he
 have b0:=HS.out.b0.below hb1 HS.out.b0.lt
 have b1:Blk w1 (w.heap.size+1) 134 rowZ.toArray:=HS.out.b1.below hb1 HS.out.b1.lt
 obtain⟨-,-,-,f1,-,-,fz1⟩:=blk_row b0 hr
 have z1:=fz1 56
 have hsz1:=hb1.size
 have e:(r.vals (.slice x m cap)).toArray.setIfInBounds 56 (.slice x1 m m)=(r.vals (.slice x1 m m)).toArray:=by
  have hcl:r.c.length=55:=(okL_len hr.1).trans len_cellK
  simp [Rw.vals,List.set_append,hcl]
 have n0:=b0.set_ 56 (.slice x1 m m)
 rw [e] at n0
 have n1:=b1.far (p:=⟨w.heap.size,56,none⟩) (by simp) (.slice x1 m m)
 obtain⟨-,-,-,-,r1,r2,-⟩:=blk_row n0 hr
 obtain⟨-,-,r3⟩:=n1.whole len_rowZ
 have hvl2:=Rw.len hr (.slice x1 m m)
 have hvc:(r.vals (.slice x1 m m)).all cell1=true:=by
  have:=okL_cell1 hr.1
  simp [Rw.vals,List.all_append] at this ⊢
  exact⟨rfl,this,rfl⟩
 obtain⟨p1,p2,-⟩:=(n1.put_all (l:=r.vals (.slice x1 m m)) (by rw [len_rowZ,hvl2])).whole hvl2
 have hB1:Below w.heap.size w w1:=HS.out.bel.trans (hb1.mono HS.out.bel.size)
 have hkeep:∀b,w0.heap.size≤b→b<w1.heap.size→(putRow (w1.setCell ⟨w.heap.size,56,none⟩ (.slice x1 m m)) ⟨w.heap.size+1,0,none⟩ (r.vals (.slice x1 m m))).heap[b]? =w1.heap[b]?:=fun b hb _=>by
  rw [putRow_other _ _ _ _ (by simp;omega)]
  exact Below.heap_setCell _ _ _ _ (by simp;omega)
 have hfin:CopyPost r w (.returned (.agg (r.vals (.slice x1 m m)).toArray)) (putRow (w1.setCell ⟨w.heap.size,56,none⟩ (.slice x1 m m)) ⟨w.heap.size+1,0,none⟩ (r.vals (.slice x1 m m))):=by
  have hs0:=HS.out.bel.size
  refine⟨x1,by rw [HM.out],?_,Below.put (hB1.setCell (by simp) _) (by simp) _⟩
  rw [HM.out]
  refine⟨⟨x1,m,m,rfl,(k1.keep (by simp) hkeep).mono (fun b _ h=>by omega),Nat.le_refl _,by omega⟩,?_⟩
  have hh:=(RoomV.keep hroom1 hkeep).mono (S':=(w.heap.size≤·)) (fun b _ h=>by omega)
  intro y a b he k hk
  cases he
  exact hh x1 m c1 rfl k (by omega)
 have HF:=Lib.hid (And.intro p1 (And.intro p2 hfin))
 clear p1 p2 hfin hkeep n0 n1 b0 b1 fz1 e hB1 k1 hroom1 hb1 HC HS
 have HCl:=Lib.hid (clip_any x1 m c1 w1 k2 k3)
 go_wp2_with fail
 refine HCl.out.mono ?_
 rintro e w2 ⟨rfl,rfl⟩
 go_wp2_with fail
 try simp only [Exit.inBlock,Exit.then]
 first | refine bodyPost_ret (ret_row (n:=57) rfl (by kernel_rfl) _ _ _ rfl ?_) rfl ?_ | refine bodyPost_end (ret_row (n:=57) rfl (by kernel_rfl) _ _ _ rfl ?_) rfl ?_
 ·exact HF.out.1
 ·rw [HF.out.2.1];exact HF.out.2.2
def slotM (L:LaneM):Nat:=L.T % (L.n+1)
def putG (G:Nat→Nat) (j g0 g1 g2 g3:Nat) (k:Nat):Nat:=if k / 4=j then (if k % 4=0 then g0 else if k % 4=1 then g1 else if k % 4=2 then g2 else g3) else G k
def GrowS (S:Nat→Prop) (lo m b:Nat):Prop:=S b∨(lo≤b∧b<m)
theorem made_put {n T k:Nat} (h:Made n (T+1) k) (hne:k / 4≠T % (n+1)):Made n T k:=by
 obtain⟨h1,h2⟩:=h
 refine⟨h1,?_⟩
 rcases Nat.lt_or_ge T (n+1) with h3 | h3
 ·rw [Nat.mod_eq_of_lt h3] at hne;omega
 ·omega
theorem LaneAt.ne {S:Nat→Prop} {w:World} {p gp:Nat} {G:Nat→Nat} {L:LaneM} (h:LaneAt S w p gp G L):p≠gp∧∀k,Made L.n L.T k→G k≠p∧G k≠gp:=by
 refine⟨h.b.ne_ h.g (by decide),fun k hk=> ?_⟩
 obtain⟨cs,hb,-⟩:=h.r k hk
 exact⟨hb.ne_ h.b (by decide),hb.ne_ h.g (by decide)⟩
theorem momCells_put {n T:Nat} {G:Nat→Nat} {g0 g1 g2 g3:Nat} {j:Nat} (hj:j=T % (n+1)) :
 (momCells n T G).take (j*4)++ [slV g0 n,slV g1 n,slV g2 n,slV g3 n] ++(momCells n T G).drop (j*4+4)=momCells n (T+1) (putG G j g0 g1 g2 g3):=by
 have hjn:j<n+1:=by rw [hj];exact Nat.mod_lt _ (by omega)
 have hl:=momCells_len n T G
 apply List.ext_getElem?
 intro k
 by_cases hk:k<4*(n+1)
 ·rw [momCells_at hk]
  have hkm:∀{k:Nat},k<4*(n+1)→k / 4≠j→(k / 4<T+1↔k / 4<T):=fun {k} hk hne=>by
   constructor
   ·intro h
    exact (made_put ⟨hk,h⟩ (by rw [←hj];exact hne)).2
   ·omega
  by_cases h1:k<j*4
  ·rw [List.append_assoc,List.getElem?_append_left (by rw [List.length_take];omega),List.getElem?_take,if_pos h1,momCells_at hk]
   have hne:k / 4≠j:=by omega
   simp only [putG,hne,if_false,hkm hk hne]
  ·by_cases h2:k<j*4+4
   ·rw [List.getElem?_append_left (by simp;omega),List.getElem?_append_right (by rw [List.length_take];omega),List.length_take]
    have e:k - min (j*4) (momCells n T G).length=k % 4:=by omega
    rw [e]
    have hd:k / 4=j:=by omega
    have hlt:k / 4<T+1:=by
     have:T % (n+1)≤T:=Nat.mod_le _ _
     omega
    rw [if_pos hlt]
    have hc:k % 4=0∨k % 4=1∨k % 4=2∨k % 4=3:=by omega
    rcases hc with hc | hc | hc | hc <;> simp [hc,putG,hd,slV]
   ·have e3:(List.take (j*4) (momCells n T G)++ [slV g0 n,slV g1 n,slV g2 n,slV g3 n]).length=j*4+4:=by simp;omega
    rw [List.getElem?_append_right (by omega),e3,List.getElem?_drop,show j*4+4+(k - (j*4+4))=k from by omega,momCells_at hk]
    have hne:k / 4≠j:=by omega
    simp only [putG,hne,if_false,hkm hk hne]
 ·rw [List.getElem?_eq_none (by simp;omega),List.getElem?_eq_none (by rw [momCells_len];omega)]
structure SideAt (lo hi:Nat) (w:World) (gt gn n:Nat) (f0 f1:Nat→Rw):Prop where
 t:RowsB (fun b=>lo≤b∧b<hi∧b≠gt∧b≠gn) w gt 134 (tab n f0)
 r:RowsB (fun b=>lo≤b∧b<hi∧b≠gt∧b≠gn) w gn 134 (tab n f1)
 o:lo≤gt∧lo≤gn∧gt≠gn∧gt<hi∧gn<hi
theorem SideAt.keep {lo hi:Nat} {w w':World} {gt gn n:Nat} {f0 f1:Nat→Rw} (h:SideAt lo hi w gt gn n f0 f1) (hs:w.heap.size≤w'.heap.size) (hk:∀b,lo≤b→b<hi→w'.heap[b]? =w.heap[b]?):SideAt lo hi w' gt gn n f0 f1:=
 ⟨h.t.keep hs fun b hb hl=>hk b (by rcases hb with rfl | hb;exact h.o.1;exact hb.1) (by rcases hb with rfl | hb;exact h.o.2.2.2.1;exact hb.2.1),
  h.r.keep hs fun b hb hl=>hk b (by rcases hb with rfl | hb;exact h.o.2.1;exact hb.1) (by rcases hb with rfl | hb;exact h.o.2.2.2.2;exact hb.2.1),h.o⟩
theorem LaneAt.put_ {S:Nat→Prop} {w w5:World} {p gp:Nat} {G:Nat→Nat} {L:LaneM} {ins:Nat→List Rw} (h:LaneAt S w p gp G L) (hins:∀i,∀r ∈ ins i,r.ok)
 {lo m0 m:Nat} (hlo:w.heap.size≤lo) (hm0:lo≤m0) (hm:m0≤m) (hm5:m≤w5.heap.size) {g0 g1 g2 g3 j:Nat} (hj:j=slotM L)
 (hb:Blk w5 p 327 (laneV (L.put ins) gp).toArray)
 (hg:Blk w5 gp 363 ((momCells L.n L.T G).take (j*4)++ [slV g0 L.n,slV g1 L.n,slV g2 L.n,slV g3 L.n] ++(momCells L.n L.T G).drop (j*4+4)).toArray)
 (ho:∀b,S b→b≠p→b≠gp→w5.heap[b]? =w.heap[b]?)
 (hA:SideAt lo m0 w5 g0 g1 L.n (momM L.n L.me ins 0) (momM L.n L.me ins 1)) (hB:SideAt m0 m w5 g2 g3 L.n (momM L.n L.me ins 2) (momM L.n L.me ins 3)) :
 LaneAt (GrowS S w.heap.size m) w5 p gp (putG G j g0 g1 g2 g3) (L.put ins):=by
 have hz:w.heap.size≤w5.heap.size:=by omega
 obtain⟨hpg,hG⟩:=h.ne
 have hn:(L.put ins).n=L.n:=rfl
 have hT:(L.put ins).T=L.T+1:=rfl
 have hjn:j<L.n+1:=by rw [hj];exact Nat.mod_lt _ (by omega)
 obtain⟨a1,a2,a3,a4,a5⟩:=hA.o
 obtain⟨b1,b2,b3,b4,b5⟩:=hB.o
 have hnew:∀k,k / 4=j→w.heap.size≤putG G j g0 g1 g2 g3 k∧putG G j g0 g1 g2 g3 k<m:=fun k hk=>by
  unfold putG
  rw [if_pos hk]
  repeat' split
  all_goals omega
 have hold:∀k,k / 4≠j→putG G j g0 g1 g2 g3 k=G k:=fun k hk=>by unfold putG;rw [if_neg hk]
 -- the tables
 have htab:∀b,b<w.heap.size→TabS S p gp G L.n L.T b→TabS (GrowS S w.heap.size m) p gp (putG G j g0 g1 g2 g3) L.n (L.T+1) b:=fun b hbl hb=>by
  refine⟨.inl hb.1,hb.2.1,hb.2.2.1,fun k hk=> ?_⟩
  by_cases hkj:k / 4=j
  ·have:=hnew k hkj;omega
  ·rw [hold k hkj];exact hb.2.2.2 k (made_put hk (by rw [hj] at hkj;exact hkj))
 have hplt:=h.b.lt
 have hglt:=h.g.lt
 have hnt:∀b,(lo≤b∧b<m∧b≠g0∧b≠g1∧b≠g2∧b≠g3)→TabS (GrowS S w.heap.size m) p gp (putG G j g0 g1 g2 g3) L.n (L.T+1) b:=fun b hb=>by
  refine⟨.inr ⟨by omega,hb.2.1⟩,by omega,by omega,fun k hk=> ?_⟩
  by_cases hkj:k / 4=j
  ·unfold putG
   rw [if_pos hkj]
   repeat' split
   all_goals omega
  ·rw [hold k hkj]
   have:=h.lt _ (h.sr k (made_put hk (by rw [hj] at hkj;exact hkj)))
   omega
 have hpast:∀k,k / 4=j→(L.put ins).past (k / 4) (k % 4)=momM L.n L.me ins (k % 4):=fun k hk=>by
  show (if k / 4=L.T % (L.n+1) then momM L.n L.me ins else L.past (k / 4)) (k % 4)=_
  rw [if_pos (by rw [hk,hj];rfl)]
 have hpast':∀k,k / 4≠j→(L.put ins).past (k / 4) (k % 4)=L.past (k / 4) (k % 4):=fun k hk=>by
  show (if k / 4=L.T % (L.n+1) then momM L.n L.me ins else L.past (k / 4)) (k % 4)=_
  rw [if_neg (by rw [hj] at hk;exact hk)]
 refine⟨hb,?_,fun k hk=> ?_,.inl h.sp,.inl h.sg,fun k hk=> ?_,fun k k' hk hk' he=> ?_,fun b hb=> ?_,h.bd,LaneM.put_ok h.ok hins,LaneM.put_okT h.okt ins⟩
 ·rw [momCells_put (by rw [hj];rfl)] at hg
  exact hg
 ·rw [hn,hT] at hk ⊢
  by_cases hkj:k / 4=j
  ·rw [hpast k hkj]
   have hc:k % 4=0∨k % 4=1∨k % 4=2∨k % 4=3:=by omega
   have eg:putG G j g0 g1 g2 g3 k=if k % 4=0 then g0 else if k % 4=1 then g1 else if k % 4=2 then g2 else g3:=by unfold putG;rw [if_pos hkj]
   rw [eg]
   rcases hc with hc | hc | hc | hc <;> rw [hc]
   ·exact hA.t.mono fun b hl hb=>hnt b ⟨hb.1,by omega,hb.2.2.1,hb.2.2.2,by omega,by omega⟩
   ·exact hA.r.mono fun b hl hb=>hnt b ⟨hb.1,by omega,hb.2.2.1,hb.2.2.2,by omega,by omega⟩
   ·exact hB.t.mono fun b hl hb=>hnt b ⟨by omega,hb.2.1,by omega,by omega,hb.2.2.1,hb.2.2.2⟩
   ·exact hB.r.mono fun b hl hb=>hnt b ⟨by omega,hb.2.1,by omega,by omega,hb.2.2.1,hb.2.2.2⟩
  ·have hm1:=made_put hk (by rw [hj] at hkj;exact hkj)
   rw [hold k hkj,hpast' k hkj]
   have hr:=h.r k hm1
   refine ((hr.mono (S':=fun b=>TabS S p gp G L.n L.T b∧b<w.heap.size) fun b hl hb=>⟨hb,hl⟩).keep hz fun b hb hl=> ?_).mono fun b _ hb=>htab b hb.2 hb.1
   rcases hb with rfl | hb
   ·exact ho _ (h.sr k hm1) (hG k hm1).1 (hG k hm1).2
   ·exact ho b hb.1.1 hb.1.2.1 hb.1.2.2.1
 ·rw [hn,hT] at hk
  by_cases hkj:k / 4=j
  ·exact .inr (hnew k hkj)
  ·rw [hold k hkj];exact .inl (h.sr k (made_put hk (by rw [hj] at hkj;exact hkj)))
 ·rw [hn,hT] at hk hk'
  by_cases hkj:k / 4=j
  ·by_cases hkj':k' / 4=j
   ·unfold putG at he
    rw [if_pos hkj,if_pos hkj'] at he
    have:k % 4=k' % 4:=by
     have hc:k % 4=0∨k % 4=1∨k % 4=2∨k % 4=3:=by omega
     have hc':k' % 4=0∨k' % 4=1∨k' % 4=2∨k' % 4=3:=by omega
     rcases hc with hc | hc | hc | hc <;> rcases hc' with hc' | hc' | hc' | hc' <;> simp [hc,hc'] at he ⊢ <;> omega
    omega
   ·have h1:=hnew k hkj
    have h2:=h.lt _ (h.sr k' (made_put hk' (by rw [hj] at hkj';exact hkj')))
    rw [he,hold k' hkj'] at h1
    omega
  ·by_cases hkj':k' / 4=j
   ·have h1:=hnew k' hkj'
    have h2:=h.lt _ (h.sr k (made_put hk (by rw [hj] at hkj;exact hkj)))
    rw [←he,hold k hkj] at h1
    omega
   ·rw [hold k hkj,hold k' hkj'] at he
    exact h.inj k k' (made_put hk (by rw [hj] at hkj;exact hkj)) (made_put hk' (by rw [hj] at hkj';exact hkj')) he
 ·rcases hb with hb | hb
  ·have:=h.lt b hb;omega
  ·omega
theorem LaneAt.was {S:Nat→Prop} {w:World} {p gp cl cn now:Nat} {G:Nat→Nat} {L:LaneM} (h:LaneAt S w p gp G L) (hcl:Blk w cl 140 #[.pointer (some ⟨p,0,none⟩)]) (hcn:Blk w cn 3 #[.int .i64 now]) (hT:L.T=now+1) (hnow:L.n≤now) (hbig:now≤1000000000) :
 WasOk w cl cn L.n (fun ago=>L.past ((now - ago) % (L.n+1))):=by
 intro w' ago hb h1 h2
 obtain⟨j,hj⟩:∃j,j=(now - ago) % (L.n+1):=⟨_,rfl⟩
 have hjn:j<L.n+1:=by rw [hj];exact Nat.mod_lt _ (by omega)
 have hjT:j<L.T:=by
  have:(now - ago) % (L.n+1)≤now - ago:=Nat.mod_le _ _
  omega
 have h':=h.below hb
 obtain⟨m1,m2⟩:=h'.mom hjn hjT
 obtain⟨c0,-,-,-,c4⟩:=h'.cells
 have k0:=(hcl.below hb hcl.lt).cell 0
 have k1:=(hcn.below hb hcn.lt).cell 0
 simp at k0 k1
 have hs:=hb.size
 refine⟨G (4*j),G (4*j+1),G (4*j+2),G (4*j+3),was_any p gp cl cn L.n now ago j _ w' c0 c4 k0 k1 m1 m2 rfl (by simp [momV,slV,cell1]) h.bd.1 h.bd.2.1 (by omega) hbig hj ⟨h'.b.lt,h'.g.lt,(hcl.below hb hcl.lt).lt,(hcn.below hb hcn.lt).lt⟩,fun w'' hb'=> ?_⟩
 have key:∀q,q<4→RdRs (· <w.heap.size) w'' (some ⟨G (4*j+q),0,none⟩) L.n (tab L.n (L.past ((now - ago) % (L.n+1)) q)):=fun q hq=>by
  have hm:Made L.n L.T (4*j+q):=⟨by omega,by omega⟩
  have hr:=(h.r _ hm).rd (fun r hr=>by
   obtain⟨k,-,rfl⟩:=tab_mem hr
   exact h.ok _ _ _)
  rw [tab_len,show (4*j+q) / 4=j from by omega,show (4*j+q) % 4=q from by omega,hj] at hr
  rw [hj]
  exact ((hr.mono (S':=(· <w.heap.size)) fun b hl _=>hl).below hb' (fun b hb _=>hb))
 have e0:=key 0 (by omega)
 exact⟨e0,key 1 (by omega),key 2 (by omega),key 3 (by omega)⟩
def cpL (l:List Rw) (n k:Nat):List Rw:=tab n fun s=>if s<k then l.getD s rw0 else rw0
theorem cpL_zero (l:List Rw) (n:Nat):List.replicate n rw0=cpL l n 0:=by
 refine tab_ext (by simp) fun k hk=> ?_
 rw [if_neg (by omega)];simp [hk]
theorem cpL_end {l:List Rw} {n:Nat} (h:l.length=n):cpL l n n=l:=by
 refine (tab_ext h fun k hk=> ?_).symm
 rw [if_pos hk,List.getD_eq_getElem?_getD,List.getElem?_eq_getElem (by omega)];rfl
theorem cpL_set {l:List Rw} {n k:Nat} {r:Rw} (hk:k<n) (hr:l[k]? =some r):(cpL l n k).set k r=cpL l n (k+1):=by
 refine tab_put hk (by rw [if_pos (by omega),List.getD_eq_getElem?_getD,hr];rfl) fun j hj hne=> ?_
 by_cases h:j<k
 ·rw [if_pos h,if_pos (by omega)]
 ·rw [if_neg h,if_neg (by omega)]
def CopiesPost (l:List Rw) (w:World) (e:Ending) (w':World):Prop:=
 ∃g,e=.returned (.slice (some ⟨g,0,none⟩) l.length l.length)∧w.heap.size≤g∧RowsB (fun b=>w.heap.size≤b∧b≠g) w' g 134 l∧Below w.heap.size w w'
structure CpI (w:World) (l:List Rw) (n g k:Nat) (wr:World):Prop where
 r:RowsB (fun b=>w.heap.size≤b∧b≠g) wr g 134 (cpL l n k)
 bel:Below w.heap.size w wr
theorem CpI.below {w:World} {l:List Rw} {n g k:Nat} {wr w':World} (h:CpI w l n g k wr) (hb:Below wr.heap.size wr w'):CpI w l n g k w':=
 ⟨h.r.keep hb.size (fun b _ hl=>hb.block b hl),h.bel.trans (hb.mono h.bel.size)⟩
set_option maxRecDepth 100000 in
set_option maxHeartbeats 1000000 in
theorem copies_any (S:Nat→Prop) (a:Option Addr) (len cap:Nat) (l:List Rw) (w:World) (hrd:RdRs S w a len l) (hm1:len≤cap) (hm2:cap≤maxLen) (hlen:len≤1000000) (hbt:∀r ∈ l,r.t.length≤100000) :
 Calls Tryz.prog 167 #[.slice a len cap] w (CopiesPost l w):=by
 have hll:=hrd.1
 have HLL:=Lib.hid hrd.1
 have HR:=Lib.hid (And.intro hrd hbt)
 unfold maxLen at hm2
 have HI:Hid (CpI w l len w.heap.size 0 (w.alloc (.cells (zrep rowZ len).toArray 134))):=Lib.hid ⟨by
  rw [←cpL_zero];exact RowsB.start _ _ _ _,(Below.refl _ _).alloc (Nat.le_refl _) _⟩
 have hmk:len≤1048576:=by omega
 clear hrd hbt hll
 go_enter Tryz.func167,Tryz.ntmps167
 go_wp2_with fail
 generalize hg:w.heap.size=g at HI ⊢
 have HG:=Lib.hid hg
 clear hg
 generalize (w.alloc (.cells (zrep rowZ len).toArray 134))=w0 at HI ⊢
 go_loopw [11] (fun i wr=> ∃k:Nat,k≤len∧i=.int .i64 k∧CpI w l len g k wr) (fun i _=>len - (intOf i).toNat)
 case atStart=>exact⟨0,by omega,rfl,HI.out⟩
 case round=>
  obtain⟨k,hk,rfl,hI⟩:=hrel
  have HJ:=Lib.hid hI
  clear hI
  by_cases hlt:k<len
  ·obtain⟨b,off,x,m,cp,r,rfl,-,hbw,hl,hok,-,-,g1,g2,-,-,g5,g6,g7⟩:=(HR.out.1.below HJ.out.bel (fun b _ h=>h)).at_ k hlt
   obtain⟨xv,hxv⟩:∃xv,xv=r.vals (.slice x m cp):=⟨_,rfl⟩
   have g3:rowOf wr ⟨b,off+k*57,none⟩ 57=xv:=by rw [hxv];exact g2
   have hvl:xv.length=57:=by rw [hxv];exact Rw.len hok _
   have htk:List.take 57 xv=xv:=List.take_of_length_le (by omega)
   have hvc:xv.all cell1=true:=by rw [hxv];exact RowR.cell1 (S:=S) (w:=wr) ⟨x,m,cp,rfl,g5,g6,g7⟩ hok
   have HT:Hid (RowR S (wr.alloc (.cells xv.toArray 134)) r (.slice x m cp)):=Lib.hid ⟨x,m,cp,rfl,g5.below ((Below.refl wr.heap.size wr).alloc (Nat.le_refl _) _) (fun b _ h=>h),g6,g7⟩
   have HC:=Lib.hid (copy_any S r hok (.slice x m cp) _ HT.out (HR.out.2 r (List.mem_of_getElem? hl)))
   rw [←hxv] at HC
   have HX:=Lib.hid (And.intro hl hok)
   have H6:=Lib.hid (HJ.out.below ((Below.refl wr.heap.size wr).alloc (Nat.le_refl _) (.cells xv.toArray 134)))
   have HLT:=Lib.hid hlt
   clear hl hok g2 g5 g6 g7 hxv
   go_wp2_with fail
   (with_reducible refine HC.out.mono ?_)
   rintro e w7 ⟨x',rfl,hx',hb7⟩
   have H7:=Lib.hid (H6.out.below hb7)
   have c3:canPut w7 ⟨g,k*57,none⟩ 57=true:=H7.out.r.canPut k (by rw [cpL,tab_len];exact HLT.out)
   have HGS:Hid (w.heap.size≤wr.heap.size∧g<wr.heap.size):=Lib.hid ⟨HJ.out.bel.size,HJ.out.r.lt⟩
   obtain⟨yv,hyv⟩:∃yv,yv=r.vals (.slice x' r.t.length r.t.length):=⟨_,rfl⟩
   rw [←hyv]
   have hyl:yv.length=57:=by rw [hyv];exact Rw.len HX.out.2 _
   have hyc:yv.all cell1=true:=by rw [hyv];exact hx'.1.cell1 HX.out.2
   have HEND:Hid (CpI w l len g (k+1) (putRow w7 ⟨g,k*57,none⟩ yv)):=Lib.hid (by
    have hs:=HGS.out
    have hgw:=HG.out
    have hmo:∀b,b<w7.heap.size→(wr.alloc (.cells xv.toArray 134)).heap.size≤b→w.heap.size≤b∧b≠g:=fun b _ h=>by
     have h':wr.heap.size+1≤b:=by simpa using h
     exact⟨by omega,by omega⟩
    have h1:=H7.out.r.set (fun b hb=>hb.2) (k:=k) (by rw [cpL,tab_len];exact HLT.out) HX.out.2 (hx'.mono (S':=fun b=>w.heap.size≤b∧b≠g) hmo)
    rw [cpL_set HLT.out HX.out.1,←hyv] at h1
    exact⟨h1,Below.put H7.out.bel (p:=⟨g,k*57,none⟩) (by show w.heap.size≤g;omega) _⟩)
   clear hx' hb7 hyv HX H7
   go_wp2_with fail
   exact⟨⟨k+1,by omega,by go_num,HEND.out⟩,by simp [intOf];omega⟩
  ·obtain rfl:k=len:=by omega
   go_wp2_with fail
   go_ret
   have h1:=HJ.out.r
   rw [cpL_end HLL.out] at h1
   refine⟨g,by rw [HLL.out];rfl,by rw [HG.out];exact Nat.le_refl _,h1,HJ.out.bel⟩
end Go.Proofs.YtdilbjikeilhbaaGreatDoor
