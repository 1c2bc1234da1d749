import Derived.Test.YtdilbjikeilhbaaGreatDoorGn32
import Derived.Test.YtdilbjikeilhbaaGreatDoorGn11
import Derived.Test.YtdilbjikeilhbaaGreatDoorGn01
import Derived.BigQuiet
import Derived.WalkMore
import Derived.ScopeJumps
import Derived.Test.YtdilbjikeilhbaaGreatDoorGn26
import Derived.Lib.LazyBuf
import Derived.Test.YtdilbjikeilhbaaGreatDoorGn19
namespace Go.Proofs.YtdilbjikeilhbaaGreatDoor
open Go.RowKit
set_option linter.unusedVariables false
set_option linter.unusedSimpArgs false
structure NP where
 nb:Nat
 p:Nat
 pb:Nat
 lp:Nat
 ckb:Nat
 cqb:Nat
 rg:Nat
 fb:Nat
 cg:Nat
 bx:Value
 me:Int
 en:Value
structure NPd where
 v:Value
 gp:Nat
 G:Nat→Nat
 SL:Nat→Prop
structure NdS where
 q:Int×Int×Int
 L:LaneM
 wn:List Int
 long:Int
 t:Int×Int×Int
 k:LkM
structure NdK where
 n:Nat
 c:Cfg
 boot:Int
 V:List Value
 last:Int
 ps:Value
 seen:List Value
 told:Bool
def NP.cells (P:NP) (K:NdK) (k:LkM):List Value:=ndV (memV (ptrN P.lp) (ptrN P.ckb) (ptrN P.cqb) (ptrN P.rg) (ptrN P.fb) (ptrN P.cg) K.seen K.told (lookV k)) P.p P.me P.en (ptrN P.pb)
structure NdOwn (S I:Nat→Prop) (w0:World) (P:NP) (D:NPd):Prop where
 inb:I P.nb
 ipb:I P.pb
 ickb:I P.ckb
 icqb:I P.cqb
 irg:I P.rg
 icg:I P.cg
 ol:∀b,D.SL b→I b∨w0.heap.size≤b
 ov:∀b,D.v.ownBlock=some b→I b∨w0.heap.size≤b
 sp:∀b,S b→b<w0.heap.size∧¬I b
 il:∀b,I b→b<w0.heap.size
 al:∀b,D.SL b→b≠P.nb∧b≠P.pb∧b≠P.ckb∧b≠P.cqb∧b≠P.rg∧b≠P.cg∧D.v.ownBlock≠some b
structure NdX (S I:Nat→Prop) (A:CfA) (qt:Nat) (K:NdK) (w0:World) (P:NP) (D:NPd) (x:NdS) (w:World):Prop where
 net:NetAt S w P.p A qt K.c
 nd:Blk w P.nb 153 (P.cells K x.k).toArray
 pw:Blk w P.pb 232 (pwCells K.boot x.q.1 x.q.2.1 x.q.2.2)
 lane:LaneAt D.SL w P.lp D.gp D.G x.L
 ck:CkR 0 P.ckb K.n D.v x.wn w
 cq:Blk w P.cqb 334 (cqCells x.long (2*K.n) K.n)
 rg:Blk w P.rg 314 (ckCells P.p 0 x.t).toArray
 cg:Blk w P.cg 321 (crewV P.bx P.p K.c.N K.c.Sl.length K.last K.V K.ps).toArray
 own:NdOwn S I w0 P D
 c:Chg I w0 w
section
variable {S I:Nat→Prop} {A:CfA} {qt:Nat} {K:NdK} {w0 w w':World} {P:NP} {D:NPd} {x:NdS}
theorem ckrKeep {B c n:Nat} {v:Value} {L:List Int} {w w':World} (h:CkR B c n v L w) (hk:∀b,b<w.heap.size→(b=c∨v.ownBlock=some b)→w'.heap[b]? =w.heap[b]?):CkR B c n v L w':=
 ⟨(hk c h.1.lt (.inl rfl)).trans h.1,h.2.block fun k e=>hk k (h.2.lt k e).2 (.inr e)⟩
theorem chgNd {S S':Nat→Prop} {a b c:World} (h:Chg S a b) (k:Chg S' b c) (hs:∀i,i<a.heap.size→S' i→S i):Chg S a c:=
 ⟨k.os.trans h.os,k.tape.trans h.tape,k.output.trans h.output,Nat.le_trans h.size k.size,fun i hi hn=>(k.block i (Nat.lt_of_lt_of_le hi h.size) fun e=>hn (hs i hi e)).trans (h.block i hi hn)⟩
theorem NdX.below (h:NdX S I A qt K w0 P D x w) (hb:Below w.heap.size w w'):NdX S I A qt K w0 P D x w':=
 ⟨NetTab.at_ h.net hb,h.nd.below hb h.nd.lt,h.pw.below hb h.pw.lt,h.lane.below hb,ckrKeep h.ck fun b hl _=>hb.block b hl,h.cq.below hb h.cq.lt,h.rg.below hb h.rg.lt,h.cg.below hb h.cg.lt,h.own,h.c.trans (Chg.of_below hb _)⟩
theorem NdX.netT (h:NdX S I A qt K w0 P D x w) {T:Nat→Prop} (hc:Chg T w w') (hT:∀b,T b→I b∨w0.heap.size≤b):NetAt S w' P.p A qt K.c∧Chg I w0 w':=
 ⟨NetTab.keep h.net hc.size fun b hS hl=>hc.block b hl fun e=>by
   have h1:=h.own.sp b hS
   rcases hT b e with h2 | h2
   ·exact h1.2 h2
   ·omega,chgNd h.c hc fun i hi e=>by
   rcases hT i e with h2 | h2
   ·exact h2
   ·omega⟩
theorem NdX.vne (h:NdX S I A qt K w0 P D x w):D.v.ownBlock≠some P.nb∧D.v.ownBlock≠some P.pb∧D.v.ownBlock≠some P.ckb∧D.v.ownBlock≠some P.cqb∧D.v.ownBlock≠some P.rg∧D.v.ownBlock≠some P.cg:=
 ⟨h.ck.2.not_ h.nd (by decide),h.ck.2.not_ h.pw (by decide),h.ck.2.not_ h.ck.1 (by decide),h.ck.2.not_ h.cq (by decide),h.ck.2.not_ h.rg (by decide),h.ck.2.not_ h.cg (by decide)⟩
theorem laneKeepC {SL T:Nat→Prop} {lp gp:Nat} {G:Nat→Nat} {L:LaneM} (h:LaneAt SL w lp gp G L) (hc:Chg T w w') (hT:∀b,SL b→¬T b):LaneAt SL w' lp gp G L:=h.keep hc.size fun b hb hl=>hc.block b hl (hT b hb)
theorem NdX.power (h:NdX S I A qt K w0 P D x w) {q':Int×Int×Int} (hb:Blk w' P.pb 232 (pwCells K.boot q'.1 q'.2.1 q'.2.2)) (hc:Chg (· =P.pb) w w'):NdX S I A qt K w0 P D { x with q:=q' } w':=by
 obtain⟨h1,h2⟩:=h.netT hc (by rintro b rfl;exact .inl h.own.ipb)
 have hv:=h.vne
 exact⟨h1,h.nd.chg hc (h.nd.ne_ h.pw (by decide)),hb,laneKeepC h.lane hc fun b hb=>(h.own.al b hb).2.1,ckrKeep h.ck fun b hl e=>hc.block b hl (by
  rintro rfl
  rcases e with e | e
  ·exact h.pw.ne_ h.ck.1 (by decide) e
  ·exact hv.2.1 e),h.cq.chg hc (h.cq.ne_ h.pw (by decide)),h.rg.chg hc (h.rg.ne_ h.pw (by decide)),h.cg.chg hc (h.cg.ne_ h.pw (by decide)),h.own,h2⟩
theorem NdX.look (h:NdX S I A qt K w0 P D x w) {k':LkM} (hb:Blk w' P.nb 153 (P.cells K k').toArray) (hc:Chg (· =P.nb) w w'):NdX S I A qt K w0 P D { x with k:=k' } w':=by
 obtain⟨h1,h2⟩:=h.netT hc (by rintro b rfl;exact .inl h.own.inb)
 have hv:=h.vne
 exact⟨h1,hb,h.pw.chg hc (h.pw.ne_ h.nd (by decide)),laneKeepC h.lane hc fun b hb=>(h.own.al b hb).1,ckrKeep h.ck fun b hl e=>hc.block b hl (by
  rintro rfl
  rcases e with e | e
  ·exact h.nd.ne_ h.ck.1 (by decide) e
  ·exact hv.1 e),h.cq.chg hc (h.cq.ne_ h.nd (by decide)),h.rg.chg hc (h.rg.ne_ h.nd (by decide)),h.cg.chg hc (h.cg.ne_ h.nd (by decide)),h.own,h2⟩
theorem NdX.clique (h:NdX S I A qt K w0 P D x w) {long':Int} (hb:Blk w' P.cqb 334 (cqCells long' (2*K.n) K.n)) (hc:Chg (· =P.cqb) w w'):NdX S I A qt K w0 P D { x with long:=long' } w':=by
 obtain⟨h1,h2⟩:=h.netT hc (by rintro b rfl;exact .inl h.own.icqb)
 have hv:=h.vne
 exact⟨h1,h.nd.chg hc (h.nd.ne_ h.cq (by decide)),h.pw.chg hc (h.pw.ne_ h.cq (by decide)),laneKeepC h.lane hc fun b hb=>(h.own.al b hb).2.2.2.1,ckrKeep h.ck fun b hl e=>hc.block b hl (by
  rintro rfl
  rcases e with e | e
  ·exact h.cq.ne_ h.ck.1 (by decide) e
  ·exact hv.2.2.2.1 e),hb,h.rg.chg hc (h.rg.ne_ h.cq (by decide)),h.cg.chg hc (h.cg.ne_ h.cq (by decide)),h.own,h2⟩
theorem NdX.run (h:NdX S I A qt K w0 P D x w) {t':Int×Int×Int} (hb:Blk w' P.rg 314 (ckCells P.p 0 t').toArray) (hc:Chg (· =P.rg) w w'):NdX S I A qt K w0 P D { x with t:=t' } w':=by
 obtain⟨h1,h2⟩:=h.netT hc (by rintro b rfl;exact .inl h.own.irg)
 have hv:=h.vne
 exact⟨h1,h.nd.chg hc (h.nd.ne_ h.rg (by decide)),h.pw.chg hc (h.pw.ne_ h.rg (by decide)),laneKeepC h.lane hc fun b hb=>(h.own.al b hb).2.2.2.2.1,ckrKeep h.ck fun b hl e=>hc.block b hl (by
  rintro rfl
  rcases e with e | e
  ·exact h.rg.ne_ h.ck.1 (by decide) e
  ·exact hv.2.2.2.2.1 e),h.cq.chg hc (h.cq.ne_ h.rg (by decide)),hb,h.cg.chg hc (h.cg.ne_ h.rg (by decide)),h.own,h2⟩
theorem NdX.clock (h:NdX S I A qt K w0 P D x w) {v':Value} {wn':List Int} (hb:CkR 0 P.ckb K.n v' wn' w') (hv':v'.ownBlock=D.v.ownBlock∨∀k,v'.ownBlock=some k→w.heap.size≤k) (hc:Chg (fun b=>b=P.ckb∨some b=D.v.ownBlock) w w'):NdX S I A qt K w0 P { D with v:=v' } { x with wn:=wn' } w':=by
 obtain⟨h1,h2⟩:=h.netT hc (by
  rintro b (rfl | e)
  ·exact .inl h.own.ickb
  ·exact h.own.ov b e.symm)
 have hv:=h.vne
 have hne:∀{g:Nat} {t:TypeId} {cs:Array Value},Blk w g t cs→t≠330→D.v.ownBlock≠some g→Blk w' g t cs:=fun hg ht ho=>hg.chg hc (by
  rintro (e | e)
  ·exact hg.ne_ h.ck.1 ht e
  ·exact ho e.symm)
 refine⟨h1,hne h.nd (by decide) hv.1,hne h.pw (by decide) hv.2.1,laneKeepC h.lane hc fun b hb=> ?_,hb,hne h.cq (by decide) hv.2.2.2.1,hne h.rg (by decide) hv.2.2.2.2.1,hne h.cg (by decide) hv.2.2.2.2.2,?_,h2⟩
 ·rintro (e | e)
  ·exact (h.own.al b hb).2.2.1 e
  ·exact (h.own.al b hb).2.2.2.2.2.2 e.symm
 ·refine { h.own with ov:=fun b e=> ?_,al:=fun b hb=> ?_ }
  ·rcases hv' with e' | e'
   ·exact h.own.ov b (e'.symm.trans e)
   ·exact .inr (Nat.le_trans h.c.size (e' b e))
  ·have h3:=h.own.al b hb
   refine⟨h3.1,h3.2.1,h3.2.2.1,h3.2.2.2.1,h3.2.2.2.2.1,h3.2.2.2.2.2.1,?_⟩
   rcases hv' with e' | e'
   ·show v'.ownBlock≠some b
    rw [e'];exact h3.2.2.2.2.2.2
   ·intro e
    have:=e' b e
    have:=h.lane.lt b hb
    omega
theorem NdX.turn (h:NdX S I A qt K w0 P D x w) {m gp':Nat} {G':Nat→Nat} {L':LaneM} (hb:LaneAt (GrowS D.SL w.heap.size m) w' P.lp gp' G' L') (hc:Chg D.SL w w'):NdX S I A qt K w0 P { D with gp:=gp',G:=G',SL:=GrowS D.SL w.heap.size m } { x with L:=L' } w':=by
 obtain⟨h1,h2⟩:=h.netT hc h.own.ol
 have hv:=h.vne
 refine⟨h1,h.nd.chg hc fun e=>(h.own.al _ e).1 rfl,h.pw.chg hc fun e=>(h.own.al _ e).2.1 rfl,hb,ckrKeep h.ck fun b hl e=>hc.block b hl fun hs=> ?_,h.cq.chg hc fun e=>(h.own.al _ e).2.2.2.1 rfl,h.rg.chg hc fun e=>(h.own.al _ e).2.2.2.2.1 rfl,h.cg.chg hc fun e=>(h.own.al _ e).2.2.2.2.2.1 rfl,?_,h2⟩
 ·rcases e with e | e
  ·exact (h.own.al _ hs).2.2.1 e
  ·exact (h.own.al _ hs).2.2.2.2.2.2 e
 ·refine { h.own with ol:=fun b e=> ?_,al:=fun b hb=> ?_ }
  ·rcases e with e | e
   ·exact h.own.ol b e
   ·exact .inr (Nat.le_trans h.c.size e.1)
  ·rcases hb with e | e
   ·exact h.own.al b e
   ·have:=h.nd.lt;have:=h.pw.lt;have:=h.ck.1.lt;have:=h.cq.lt;have:=h.rg.lt;have:=h.cg.lt
    refine⟨?_,?_,?_,?_,?_,?_,fun e'=> ?_⟩
    ·show b≠P.nb;omega
    ·show b≠P.pb;omega
    ·show b≠P.ckb;omega
    ·show b≠P.cqb;omega
    ·show b≠P.rg;omega
    ·show b≠P.cg;omega
    ·have:=(h.ck.2.lt b e').2;omega
theorem cells_set {K:NdK} (hs:K.seen.length=50) (k:LkM) (hk:k.okL) (j:Nat) (hj:j<63) (u:Value) {k':LkM} (he:(lookV k).set j u=lookV k'):(P.cells K k).set (57+j) u=P.cells K k':=by
 have e:∀k,P.cells K k=((ptrN P.lp :: ptrN P.ckb :: ptrN P.cqb :: ptrN P.rg :: ptrN P.fb :: ptrN P.cg :: (K.seen++ [.bool K.told]))++lookV k)++ [.pointer (some ⟨P.p,0,none⟩),.int .i64 P.me,P.en,ptrN P.pb]:=fun k=>by simp [NP.cells,ndV,memV]
 have hl:=lookV_len hk
 rw [e,e,List.set_append_left _ _ (by simp [hs,hl];omega),List.set_append_right _ _ (by simp [hs]),←he]
 congr 2
 simp [hs]
theorem cells_put {K:NdK} (hs:K.seen.length=50) (k:LkM) (hk:k.okL) (j:Nat) (l:List Value) (hj:j+l.length≤63) {k':LkM} (he:(lookV k).take j++l++(lookV k).drop (j+l.length)=lookV k'):(P.cells K k).take (57+j)++l++(P.cells K k).drop (57+j+l.length)=P.cells K k':=by
 obtain⟨H,hH⟩:∃H,H=(ptrN P.lp :: ptrN P.ckb :: ptrN P.cqb :: ptrN P.rg :: ptrN P.fb :: ptrN P.cg :: (K.seen++ [.bool K.told])):=⟨_,rfl⟩
 have e:∀k,P.cells K k=H++(lookV k++ [.pointer (some ⟨P.p,0,none⟩),.int .i64 P.me,P.en,ptrN P.pb]):=fun k=>by simp [NP.cells,ndV,memV,hH]
 have hHl:H.length=57:=by simp [hH,hs]
 have hl:=lookV_len hk
 rw [e,e,←he,List.take_append,List.take_of_length_le (by omega),List.drop_append,List.drop_eq_nil_of_le (by omega),hHl,show 57+j - 57=j by omega,show 57+j+l.length - 57=j+l.length by omega,List.take_append_of_le_length (by omega),List.drop_append_of_le_length (by omega),List.nil_append]
 simp only [List.append_assoc]
theorem NdX.set (h:NdX S I A qt K w0 P D x w) (hs:K.seen.length=50) (hk:x.k.okL) (j:Nat) (hj:j<63) (u:Value) {k':LkM} (he:(lookV x.k).set j u=lookV k'):NdX S I A qt K w0 P D { x with k:=k' } (w.setCell ⟨P.nb,57+j,none⟩ u):=by
 refine h.look ?_ ((Chg.refl _ _).set_at _ _)
 have:=h.nd.set_ (57+j) u
 rwa [List.setIfInBounds_toArray,cells_set hs _ hk j hj u he] at this
theorem NdX.put (h:NdX S I A qt K w0 P D x w) (hs:K.seen.length=50) (hk:x.k.okL) (j:Nat) (l:List Value) (hj:j+l.length≤63) {k':LkM} (he:(lookV x.k).take j++l++(lookV x.k).drop (j+l.length)=lookV k'):NdX S I A qt K w0 P D { x with k:=k' } (putRow w ⟨P.nb,57+j,none⟩ l):=by
 refine h.look ?_ (Chg.put (S:=(· =P.nb)) (p:=⟨P.nb,57+j,none⟩) (Chg.refl _ _) (.inl rfl) _)
 have:=h.nd.put (57+j) l
 rwa [cells_put hs _ hk j l hj he] at this
def Free (I:Nat→Prop) (D:NPd) (w:World) (b:Nat):Prop:=b<w.heap.size∧¬I b∧¬D.SL b∧D.v.ownBlock≠some b
def KeepF (I:Nat→Prop) (D D':NPd) (w w':World):Prop:=w.heap.size≤w'.heap.size∧∀b,Free I D w b→Free I D' w' b∧w'.heap[b]? =w.heap[b]?
theorem NdX.free (h:NdX S I A qt K w0 P D x w) (hb:Below w.heap.size w w') {g:Nat} (hg:w.heap.size≤g) (hl:g<w'.heap.size):Free I D w' g:=
 ⟨hl,fun e=>by have:=h.own.il g e;have:=h.c.size;omega,fun e=>by have:=h.lane.lt g e;omega,fun e=>by have:=(h.ck.2.lt g e).2;omega⟩
theorem KeepF.below (hb:Below w.heap.size w w'):KeepF I D D w w':=⟨hb.size,fun b h=>⟨⟨Nat.lt_of_lt_of_le h.1 hb.size,h.2⟩,hb.block b h.1⟩⟩
theorem KeepF.chg {T:Nat→Prop} (hc:Chg T w w') (hT:∀b,T b→I b):KeepF I D D w w':=⟨hc.size,fun b h=>⟨⟨Nat.lt_of_lt_of_le h.1 hc.size,h.2⟩,hc.block b h.1 fun e=>h.2.1 (hT b e)⟩⟩
theorem KeepF.trans {D D' D'':NPd} {a b c:World} (h:KeepF I D D' a b) (k:KeepF I D' D'' b c):KeepF I D D'' a c:=⟨Nat.le_trans h.1 k.1,fun g hg=>by
 obtain⟨h1,h2⟩:=h.2 g hg
 obtain⟨h3,h4⟩:=k.2 g h1
 exact⟨h3,h4.trans h2⟩⟩
theorem KeepF.clock {v':Value} {c:Nat} (hv':v'.ownBlock=D.v.ownBlock∨∀k,v'.ownBlock=some k→w.heap.size≤k) (hi:I c) (hc:Chg (fun b=>b=c∨some b=D.v.ownBlock) w w'):KeepF I D { D with v:=v' } w w':=
 ⟨hc.size,fun b h=>⟨⟨Nat.lt_of_lt_of_le h.1 hc.size,h.2.1,h.2.2.1,fun e=>by
   rcases hv' with e' | e'
   ·exact h.2.2.2 (e'.symm.trans e)
   ·have:=e' b e;have:=h.1;omega⟩,hc.block b h.1 (by
   rintro (e | e)
   ·exact h.2.1 (e ▸ hi)
   ·exact h.2.2.2 e.symm)⟩⟩
theorem KeepF.turn {m gp':Nat} {G':Nat→Nat} (hc:Chg D.SL w w'):KeepF I D { D with gp:=gp',G:=G',SL:=GrowS D.SL w.heap.size m } w w':=
 ⟨hc.size,fun b h=>⟨⟨Nat.lt_of_lt_of_le h.1 hc.size,h.2.1,fun e=>by
   rcases e with e | e
   ·exact h.2.2.1 e
   ·have:=h.1;omega,h.2.2.2⟩,hc.block b h.1 h.2.2.1⟩⟩
theorem Blk.kf {D':NPd} {g:Nat} {t:TypeId} {cs:Array Value} (hk:KeepF I D D' w w') (hf:Free I D w g) (h:Blk w g t cs):Blk w' g t cs:=(hk.2 g hf).2.trans h
theorem RdRs.mono_ {S S':Nat→Prop} {w:World} {a:Option Addr} {len:Nat} {l:List Rw} (h:RdRs S w a len l) (hs:∀b,S b→S' b):RdRs S' w a len l:=h.mono fun b _ hb=>hs b hb
def HdA (I:Nat→Prop) (D:NPd) (n:Nat) (H:List Rw) (v:Value) (w:World):Prop:=∃g,v=.slice (some ⟨g,0,none⟩) n n∧RdRs (Free I D w) w (some ⟨g,0,none⟩) n H
theorem HdA.kf {D':NPd} {n:Nat} {H:List Rw} {v:Value} (hk:KeepF I D D' w w') (h:HdA I D n H v w):HdA I D' n H v w':=by
 obtain⟨g,e,h⟩:=h
 exact⟨g,e,(h.keep hk.1 fun b hb _=>(hk.2 b hb).2).mono_ fun b hb=>(hk.2 b hb).1⟩
def AgA (I:Nat→Prop) (D:NPd) (n:Nat) (L:List Hd) (v:Value) (w:World):Prop:=∃g,v=.slice (some ⟨g,0,none⟩) n n∧Free I D w g∧(∃cs,Blk w g 204 cs)∧RdHs (· =g) w (some ⟨g,0,none⟩) n L
theorem AgA.kf {D':NPd} {n:Nat} {L:List Hd} {v:Value} (hk:KeepF I D D' w w') (h:AgA I D n L v w):AgA I D' n L v w':=by
 obtain⟨g,e,hf,⟨cs,hb⟩,h⟩:=h
 exact⟨g,e,(hk.2 g hf).1,⟨cs,(hk.2 g hf).2.trans hb⟩,h.keep hk.1 fun b hb _=>by rw [hb];exact (hk.2 g hf).2⟩
end
def postsZ:List Value:=[.int .u8 0,.slice none 0 0,.int .u8 0,.slice none 0 0]
theorem ag_posts:aggOf Tryz.prog 207 4=true:=by kernel_rfl
theorem ag_ins:aggOf Tryz.prog 209 8=true:=by kernel_rfl
section
variable (ρ:Operand→Value) (d:Option Tmp) (x y z:Operand) (ty:TypeId) (s:String) (af:Array Edge) (g:Option (Nat×Bool)) (w:World)
@[go_sem ↓] theorem ld_posts (h:hasRowV w 4 (ρ x)=true):(execOp ρ { dst:=d,op:=.load 207 x,type:=ty,pos:=s,after:=af,guard:=g }).run Tryz.prog w=.ok (.value (.agg (rowV w 4 (ρ x)).toArray)) w:=exec_load ag_posts ρ d x ty s af g w h
@[go_sem ↓] theorem st_posts (h1:okAgg 4 (ρ y)=true) (h2:canPutV w 4 (ρ x)=true):(execOp ρ { dst:=d,op:=.store 207 x y,type:=ty,pos:=s,after:=af,guard:=g }).run Tryz.prog w=.ok .skip (putV w (ρ x) (ρ y)):=exec_store ag_posts ρ d x y ty s af g w h1 h2
@[go_sem ↓] theorem al_posts:(execOp ρ { dst:=d,op:=.alloc 207,type:=ty,pos:=s,after:=af,guard:=g }).run Tryz.prog w=.ok (.value (.pointer (some ⟨w.heap.size,0,none⟩))) (w.alloc (.cells postsZ.toArray 207)):=exec_alloc (by unfold zeroIs;kernel_rfl) ρ d ty s af g w
end
@[go_sem] theorem len_postsZ:postsZ.length=4:=(rfl)
@[go_sem] theorem len_look0:(lookV lk0).length=63:=(rfl)
def DeadK (w:World) (v:Value):Prop:=v=.pointer none∨∃b,v=.pointer (some ⟨b,0,none⟩)∧w.cell? ⟨b,123,none⟩=some (.pointer none)
theorem DeadK.below {w w':World} {v:Value} (h:DeadK w v) (hb:Below w.heap.size w w'):DeadK w' v:=by
 rcases h with rfl | ⟨b,rfl,h⟩
 ·exact .inl rfl
 ·exact .inr ⟨b,rfl,(hb.cell (p:=⟨b,123,none⟩) (World.block_lt_of_cell? w _ h)).trans h⟩
def AggP (l:List Value) (w:World) (e:Ending) (w':World):Prop:=e=.returned (.agg l.toArray)∧Below w.heap.size w w'
theorem dead_fin (w:World) (t:TypeId) (z:List Value) {n:Nat} (hz:z.length=n):hasRow (w.alloc (.cells z.toArray t)) ⟨w.heap.size,0,none⟩ n=true∧rowOf (w.alloc (.cells z.toArray t)) ⟨w.heap.size,0,none⟩ n=z∧canPut (w.alloc (.cells z.toArray t)) ⟨w.heap.size,0,none⟩ n=true∧
 hasRow (putRow (w.alloc (.cells z.toArray t)) ⟨w.heap.size,0,none⟩ z) ⟨w.heap.size,0,none⟩ n=true∧rowOf (putRow (w.alloc (.cells z.toArray t)) ⟨w.heap.size,0,none⟩ z) ⟨w.heap.size,0,none⟩ n=z∧Below w.heap.size w (putRow (w.alloc (.cells z.toArray t)) ⟨w.heap.size,0,none⟩ z):=by
 have hk:=Blk.new w t z.toArray
 obtain⟨h1,h2,h3⟩:=hk.whole hz
 obtain⟨h4,h5,-⟩:=(hk.put_all (l:=z) rfl).whole hz
 exact⟨h1,h2,h3,h4,h5,Below.put ((Below.refl _ _).alloc (Nat.le_refl _) _) (Nat.le_refl _) _⟩
theorem wp_scope_fwd {Pr:Program} {a:Act} {w:World} {Q:Exit→Act→World→Prop} {c rest:Code} (l:Nat) (hf:findLabel c l=some rest) (h:c.wp Pr (Exit.jump l (fun a w=>rest.wp Pr (Exit.noGoto Q) a w) Q) a w):(Code.scope c).wp Pr Q a w:=
 wp_scope_jumps l (fun a w=>rest.wp Pr (Exit.noGoto Q) a w) (fun _ _=>0) hf h fun a w h=>wp_mono h fun e a w hq=>by cases e <;> first | exact hq | exact hq.elim
set_option maxRecDepth 100000 in
set_option maxHeartbeats 1000000 in
theorem offer_idle (S:Nat→Prop) (p:Nat) (A:CfA) (q:Nat) (c:Cfg) (nb:Nat) (me:Int) (w:World) (h:NetAt S w p A q c) (hok:RefOk c)
 (h0:w.cell? ⟨nb,120,none⟩=some (.pointer (some ⟨p,0,none⟩))) (h1:w.cell? ⟨nb,121,none⟩=some (.int .i64 me)) (h2:w.cell? ⟨nb,61,none⟩=some (.bool false)) :
 Calls Tryz.prog 108 #[.pointer (some ⟨nb,0,none⟩)] w (AggP saidZ w):=by
 obtain⟨-,-,h3,h4,h5,h6⟩:=dead_fin w 82 saidZ (n:=6) rfl
 have hB0:Below w.heap.size w (w.alloc (.cells saidZ.toArray 82)):=(Below.refl _ _).alloc (Nat.le_refl _) _
 have hl:=World.block_lt_of_cell? w _ h0
 have c0:=(hB0.cell (p:=⟨nb,120,none⟩) hl).trans h0
 have c1:=(hB0.cell (p:=⟨nb,121,none⟩) hl).trans h1
 have c2:=(hB0.cell (p:=⟨nb,61,none⟩) hl).trans h2
 obtain⟨z,hz⟩:∃z,Hid (z=atE (pairsL c) me):=⟨_,Lib.hid rfl⟩
 have HP:Hid (∀w',Below w.heap.size w w'→Calls Tryz.prog 164 #[.pointer (some ⟨p,0,none⟩),.int .i64 me] w' (fun e w''=>e=.returned (.int .i64 z)∧w''=w')):=Lib.hid fun w' hb=>by rw [hz.out];exact pairN_any S p A q c w' (NetTab.at_ h hb) hok me
 have HE:=Lib.hid (And.intro h4 (And.intro h5 h6))
 have HB:=Lib.hid hB0
 clear h4 h5 h6 h hB0 h0 h1 h2 hok
 go_enter Tryz.func108,Tryz.ntmps108
 go_upto_region 1 with fail
 generalize w.alloc (.cells saidZ.toArray 82)=w0 at *
 go_region_held3 (fun w'=>w'.cell? ⟨nb,120,none⟩=some (.pointer (some ⟨p,0,none⟩))∧w'.cell? ⟨nb,121,none⟩=some (.int .i64 me)∧w'.cell? ⟨nb,61,none⟩=some (.bool false))
  (exact⟨c0,c1,c2⟩)
  ((go_at_call 164;(with_reducible refine (HP.out w0.drew HB.out.drew).mono ?_);rintro e w2 ⟨rfl,rfl⟩))
 all_goals go_wp2_with fail
 all_goals (try simp only [Exit.inBlock,Exit.then])
 all_goals first | refine bodyPost_ret (ret_rowB (n:=6) rfl (by kernel_rfl) _ _ _ rfl ?_) rfl ?_ | refine bodyPost_end (ret_rowB (n:=6) rfl (by kernel_rfl) _ _ _ rfl ?_) rfl ?_
 ·exact HE.out.1
 ·rw [show rowOf (putRow w0 ⟨w.heap.size,0,none⟩ saidZ).drew ⟨w.heap.size,0,none⟩ 6=saidZ from HE.out.2.1]
  exact⟨rfl,HE.out.2.2.drew⟩
def NdK.newG (c:Cfg) (me:Nat) (ps:Value):NdK:=⟨c.N.toNat,c,c.B.getD me 0,firstV c,-1,ps,seenZ,false⟩
def NdK.new (c:Cfg) (me:Nat):NdK:=NdK.newG c me (.slice none 0 0)
def NdS.new (c:Cfg) (me:Nat):NdS:=⟨(0,0,0),LaneM.new c.N.toNat me,[],0,(0,0,0),lkN (-1) (-1) (firstV c)⟩
def NodeNew (S:Nat→Prop) (A:CfA) (q:Nat) (c:Cfg) (p me:Nat) (w:World) (e:Ending) (w':World):Prop:=
 ∃(P:NP) (D:NPd),e=.returned (.tuple #[ptrN P.nb,.int .i64 0])∧P.p=p∧P.me=me∧NdX (fun b=>S b∧b<w.heap.size) (fun b=>w.heap.size≤b∧b<w'.heap.size) A q (NdK.new c me) w' P D (NdS.new c me) w'∧Below w.heap.size w w'
def NodeNewG (S:Nat→Prop) (A:CfA) (q:Nat) (c:Cfg) (p me:Nat) (L:List (List Value)) (w:World) (e:Ending) (w':World):Prop:=
 ∃(P:NP) (D:NPd) (ps:Value) (bx:Nat) (a:Option Addr) (cap:Nat),e=.returned (.tuple #[ptrN P.nb,.int .i64 0])∧P.p=p∧P.me=me∧NdX (fun b=>S b∧b<w.heap.size) (fun b=>w.heap.size≤b∧b<w'.heap.size) A q (NdK.newG c me ps) w' P D (NdS.new c me) w'∧Below w.heap.size w w'∧
 P.bx=ptrN bx∧Blk w' bx 402 (boxV p c.fr).toArray∧P.en=.slice a L.length cap∧RdF (w.heap.size≤·) w' a L.length 6 L∧
 w'.ownsRow w.heap.size 324 5 ps (posts0 c.St me c.St.length).length (postsV (posts0 c.St me c.St.length))∧(posts0 c.St me c.St.length=[]→ps=.slice none 0 0)
set_option maxRecDepth 100000 in
set_option maxHeartbeats 2000000 in
theorem nnewG_any (S:Nat→Prop) (p:Nat) (A:CfA) (q:Nat) (c:Cfg) (me:Nat) (w:World) (h:NetAt S w p A q c) (hok:RefOk c) (h1:(me:Int)<c.N) (R:Nat→Prop) (x:Option Addr) (m cap:Nat) (L:List (List Value)) (hrd:RdF R w x m 6 L) (hm:m≤64) :
 Calls Tryz.prog 23 #[.pointer (some ⟨p,0,none⟩),.int .i64 me,.slice x m cap] w (NodeNewG S A q c p me L w):=by
 have HR:=Lib.hid (round4_any S p A q c w h hok)
 obtain⟨z,hz,hz1,hz2⟩:∃z,z=roundV c∧120≤z∧z≤65536:=⟨_,rfl,hok.roundV⟩
 rw [←hz] at HR
 have hH:=Lib.hid h
 have hO:=Lib.hid hok
 have HRD:=Lib.hid hrd
 have HLm:=Lib.hid hrd.1
 have hmb:me<c.B.length:=by have:=hok.bl;omega
 obtain⟨n,hn⟩:∃n:Nat,c.N=n:=⟨c.N.toNat,by have:=hok.n;omega⟩
 clear h hok hrd hz
 go_enter Tryz.func23,Tryz.ntmps23
 go_wp2_with fail
 (with_reducible refine HR.out.mono ?_)
 rintro e w1 ⟨rfl,hb⟩
 have hN1:NetAt (fun b=>S b∧b<w.heap.size) w1 p A q c:=NetTab.at_ (hH.out.mono (S':=fun b=>S b∧b<w.heap.size) fun b hl hs=>⟨hs,hl⟩) hb
 have HN1:=Lib.hid hN1
 have HB1:=Lib.hid hb
 clear hb
 obtain⟨c0,c1,c2,c3,c4,c5,c6,c7,c8,c9,hpl⟩:=hN1.cells
 clear c1 c2 c3 c5 c6 c7 c8 c9 hN1
 rw [hn] at c0 h1
 have g1:decide ((me:Int)<0)=false:=by simp
 have g2:decide ((n:Int)≤(me:Int))=false:=by simp;omega
 have g3:decide ((64:Int)<(m:Int))=false:=by simp;omega
 have HC:=Lib.hid (cloneEn_any R x m cap L w1 (HRD.out.below HB1.out) (by omega))
 go_wp2_with fail
 (with_reducible refine HC.out.mono ?_)
 rintro e wq ⟨an,cpn,rfl,hrn,-,-,hbq⟩
 have HN1:=Lib.hid (NetTab.at_ HN1.out hbq)
 replace c4:=(hbq.cell (p:=⟨p,4,none⟩) hpl).trans c4
 replace hpl:=Nat.lt_of_lt_of_le hpl hbq.size
 have HRN:=Lib.hid (hrn.mono (S':=fun b=>w.heap.size≤b∧b<wq.heap.size) fun b hl hs=>⟨Nat.le_trans HB1.out.size hs,hl⟩)
 have HB1:=Lib.hid (HB1.out.trans (hbq.mono HB1.out.size))
 clear c0 hrn hbq
 obtain⟨ev,hev⟩:∃ev,Hid (ev=Value.slice an L.length cpn):=⟨_,Lib.hid rfl⟩
 have hev1:cellsL ev=[ev]:=by rw [hev.out];rfl
 have hev2:lenC ev 1=true:=by rw [hev.out];rfl
 rw [←hev.out]
 go_upto_region 6 with fail
 clear HC g1 g2 g3
 have hk:Blk (wq.alloc (.cells (memZ++ [Value.pointer (some ⟨p,0,none⟩),.int .i64 me,ev,nilP]).toArray 153)) wq.heap.size 153 (ndV memZ p me ev (.pointer none)).toArray:=Blk.new _ _ _
 have hB2:=balN (Below.refl wq.heap.size wq) (.cells (memZ++ [Value.pointer (some ⟨p,0,none⟩),.int .i64 me,ev,nilP]).toArray 153)
 generalize wq.alloc (.cells (memZ++ [Value.pointer (some ⟨p,0,none⟩),.int .i64 me,ev,nilP]).toArray 153)=w2 at hk hB2 ⊢
 have HN2:=Lib.hid (NetTab.at_ HN1.out hB2)
 replace c4:=(hB2.cell (p:=⟨p,4,none⟩) hpl).trans c4
 obtain⟨boot,hbt⟩:∃z,c.B[me]? =some z:=⟨_,List.getElem?_eq_getElem hmb⟩
 have hbd:boot=c.B.getD me 0:=by simp [List.getD,hbt]
 have hbr:=hO.out.b boot (List.mem_of_getElem? hbt)
 obtain⟨b,off,hba,-,-,hcb⟩:=HN2.out.cf.b.2 me boot hbt
 have hbn:=HN2.out.cf.b.1
 rw [hba] at c4
 have hlt:me<A.bn:=by omega
 obtain⟨bn,hbn2⟩:∃bn,bn=A.bn:=⟨_,rfl⟩
 obtain⟨bc,hbc2⟩:∃bc,bc=A.bc:=⟨_,rfl⟩
 rw [←hbn2] at hlt
 rw [←hbn2,←hbc2] at c4
 clear hbn2 hbc2 hbn hba
 have HP:=Lib.hid (pwnew_ok boot w2 hbr.1 hbr.2)
 have HK:=Lib.hid hk
 have HB2:=Lib.hid hB2
 have HBD:=Lib.hid (And.intro hbd hbr)
 clear hk hB2 hbd hbr hbt
 go_wp2_with fail
 (with_reducible refine HP.out.mono ?_)
 rintro e w3 ⟨rfl,rfl⟩
 have hk3:=HK.out.alloc (.cells (pwCells boot 0 0 0) 232)
 have hp3:=Blk.new w2 232 (pwCells boot 0 0 0)
 have hB3:=balN (Below.refl w2.heap.size w2) (.cells (pwCells boot 0 0 0) 232)
 generalize w2.alloc (.cells (pwCells boot 0 0 0) 232)=w3 at hk3 hp3 hB3 ⊢
 have m0:w3.cell? ⟨wq.heap.size,123,none⟩=some (.pointer none):=hk3.cell 123
 have mf:w3.frozen? ⟨wq.heap.size,123,none⟩=false:=hk3.frozen 123
 have hpb:wq.heap.size<w2.heap.size:=HK.out.lt
 have hk4:=hk3.set_ 123 (.pointer (some ⟨w2.heap.size,0,none⟩))
 have hp4:=hp3.far (p:=⟨wq.heap.size,123,none⟩) (by show w2.heap.size≠wq.heap.size;omega) (.pointer (some ⟨w2.heap.size,0,none⟩))
 have hB4:Below wq.heap.size wq (w3.setCell ⟨wq.heap.size,123,none⟩ (.pointer (some ⟨w2.heap.size,0,none⟩))):=(HB2.out.trans (hB3.mono (Nat.le_of_lt hpb))).setCell (Nat.le_refl _) _
 clear hk3 hp3 hB3 c4 hcb hlt
 go_upto_region 7 with fail
 generalize w3.setCell ⟨wq.heap.size,123,none⟩ (.pointer (some ⟨w2.heap.size,0,none⟩))=w4 at hk4 hp4 hB4 ⊢
 clear m0 mf
 have hk4':Blk w4 wq.heap.size 153 (ndV memZ p me ev (ptrN w2.heap.size)).toArray:=hk4
 have hN4:=NetTab.at_ HN1.out hB4
 have hw4:wq.heap.size<w4.heap.size:=hk4'.lt
 have hw5:w2.heap.size<w4.heap.size:=hp4.lt
 have HF:=Lib.hid (fresh_any _ p A q c me wq.heap.size memZ ev (ptrN w2.heap.size) w4 hN4 hO.out (by rw [hn];exact h1) rfl hk4' (by have:=HB1.out.size;omega))
 have HX:=Lib.hid (And.intro hk4' (And.intro hp4 (And.intro hB4 hN4)))
 clear hk4 hk4' hp4 hB4 hN4
 go_wp2_with fail
 (with_reducible refine HF.out.mono ?_)
 rintro e w5 ⟨rfl,lp,gp,lo,hi,ckb,cqb,rg,fb,fv,cg,bx,k1,k2,k3,k4,k5,k6,k7,k8,g1,g2,g3,g4,g5,g6,g7,kc⟩
 have HE:Hid (NodeNewG S A q c p me L w (.returned (.tuple #[.pointer (some ⟨wq.heap.size,0,none⟩),.int .i64 0])) w5):=Lib.hid (by
  obtain⟨x1,x2,x3,x4⟩:=HX.out
  have hsz:=HB1.out.size
  have h5:=kc.size
  have e5:Below w.heap.size w w5:=HB1.out.trans ((x3.mono hsz).trans (kc.below (B:=w.heap.size) (by omega) (by rintro k rfl;exact hsz)))
  have q1:=k3.lt;have q2:=k4.lt;have q3:=k5.lt;have q4:=k7.lt;have q5:=k1.lt
  obtain⟨ps,j1,j2,j3⟩:=k7
  refine⟨⟨wq.heap.size,p,w2.heap.size,lp,ckb,cqb,rg,fb,cg,ptrN bx,me,ev⟩,⟨.slice none 0 0,gp,fun _=>0,fun b=>lo≤b∧b<hi⟩,ps,bx,an,cpn,rfl,rfl,rfl,⟨NetTab.keep x4 h5 fun b hb _=>kc.block b (by assumption) (by intro e;have:=hb.2;omega),k1,?_,k2,⟨k3,.inl ⟨rfl,rfl⟩⟩,k4,k5,j1,?_,Chg.refl _ _⟩,e5,rfl,k8,hev.out,?_,⟨j2.1,j2.2.imp id fun ⟨g,cap,cur,e1,e2,e3⟩=>⟨g,cap,cur,e1,by have:=x3.size;omega,e3⟩⟩,j3⟩
  ·have:=x2.chg kc (by intro e;omega)
   have hb0:=HBD.out.1
   show Blk w5 w2.heap.size _ (pwCells (c.B.getD me 0) 0 0 0)
   rw [←hb0];exact this
  ·have hlh:=k2.lt
   obtain⟨y1,y2⟩:=k2.sp
   refine⟨⟨by show w.heap.size≤wq.heap.size;omega,q5⟩,⟨by show w.heap.size≤w2.heap.size;omega,by show w2.heap.size<w5.heap.size;omega⟩,⟨by show w.heap.size≤ckb;omega,q1⟩,⟨by show w.heap.size≤cqb;omega,q2⟩,⟨by show w.heap.size≤rg;omega,q3⟩,⟨by show w.heap.size≤cg;omega,q4⟩,fun b hb=> .inl ⟨by have:=hb.1;omega,hlh b hb⟩,fun b e=>(by cases e),fun b hb=>⟨by have:=hb.2;omega,fun e=>by have:=hb.2;have:=e.1;omega⟩,fun b hb=>hb.2,fun b hb=> ?_⟩
   obtain⟨b1,b2⟩:=hb
   refine⟨?_,?_,?_,?_,?_,?_,fun e=>by cases e⟩
   ·show b≠wq.heap.size;omega
   ·show b≠w2.heap.size;omega
   ·show b≠ckb;omega
   ·show b≠cqb;omega
   ·show b≠rg;omega
   ·show b≠cg;omega
  ·exact ((HRN.out.keep x3.size fun b hb _=>x3.block b hb.2).keep h5 fun b hb hl=>kc.block b hl (by rintro rfl;have:=hb.2;omega)).mono fun b _ hb=>hb.1)
 clear k1 k2 k3 k4 k5 k6 k7 k8 kc
 go_wp2_with fail
 go_ret2
 exact HE.out
theorem nnew_any (S:Nat→Prop) (p:Nat) (A:CfA) (q:Nat) (c:Cfg) (me:Nat) (w:World) (h:NetAt S w p A q c) (hok:RefOk c) (h1:(me:Int)<c.N) (hst:c.St=[]) :
 Calls Tryz.prog 23 #[.pointer (some ⟨p,0,none⟩),.int .i64 me,.slice none 0 0] w (NodeNew S A q c p me w):=by
 refine (nnewG_any S p A q c me w h hok h1 (fun _=>True) none 0 0 [] (RdF.nil _ _ _ _) (by omega)).mono ?_
 rintro e w' ⟨P,D,ps,bx,a,cap,h2,h3,h4,h5,h6,-,-,-,-,-,h7⟩
 obtain rfl:=h7 (by rw [hst];rfl)
 exact⟨P,D,h2,h3,h4,h5,h6⟩
section
variable {S I:Nat→Prop} {A:CfA} {qt:Nat} {K:NdK} {w0 w w':World} {P:NP} {D:NPd} {x:NdS}
theorem agreeN_len {n:Nat} (h4:4≤n) (h16:n≤16) (l:List Rw):(agreeL n l).length=n:=by
 unfold agreeL
 rw [if_pos (by omega)]
 simp
theorem tabN_ok (n:Nat) {f:Nat→Rw} (h:∀s,(f s).ok):∀r ∈ tab n f,r.ok:=fun r hr=>by
 obtain⟨k,hk⟩:=List.mem_iff_getElem?.1 hr
 have hl:k<n:=by
  have:=(List.getElem?_eq_some_iff.1 hk).1
  rwa [tab_len] at this
 rw [tab_at hl] at hk
 cases hk
 exact h k
theorem ndx_power (h:NdX S I A qt K w0 P D x w) (hs:x.q.1=0∨x.q.1=1∨x.q.1=2) (hb0:0≤K.boot) (hb1:K.boot≤4096) (hl0:0≤x.q.2.1) (hl1:x.q.2.1≤4096) (hc0: -1≤x.q.2.2) (hc1:x.q.2.2≤1099511627776) {q':Int×Int×Int} (hq:pwOn K.boot x.q.1 x.q.2.1 x.q.2.2=q') :
 Calls Tryz.prog 99 #[.pointer (some ⟨P.pb,0,none⟩),.bool true] w fun e w'=>e=.returned (.tuple #[.int .u8 q'.1,.int .i64 (if q'.1=2 then q'.2.2 else -1)])∧NdX S I A qt K w0 P D { x with q:=q' } w'∧KeepF I D D w w':=by
 refine (step_on P.pb K.boot x.q.1 x.q.2.1 x.q.2.2 w hs hb0 hb1 hl0 hl1 hc0 hc1 h.pw).mono ?_
 rintro e w' ⟨s',l',c',hp,he,hb,hc⟩
 simp only [if_true] at hp
 rw [hq] at hp
 subst hp
 exact⟨he,h.power hb hc,KeepF.chg hc (by rintro b rfl;exact h.own.ipb)⟩
def HearN (S I:Nat→Prop) (A:CfA) (qt:Nat) (K:NdK) (w0:World) (P:NP) (D:NPd) (x:NdS) (ins:Nat→List Rw) (w:World) (e:Ending) (w':World):Prop:=
 ∃D' hv,e=.returned hv∧NdX S I A qt K w0 P D' { x with L:=x.L.put ins } w'∧HdA I D' x.L.n (tab x.L.n (x.L.put ins).held) hv w'∧KeepF I D D' w w'
theorem ndx_hear (h:NdX S I A qt K w0 P D x w) (hT:x.L.T≤100000000) (R:Nat→Prop) (a:Nat→Option Addr) (ln cp:Nat→Nat) (ins:Nat→List Rw) (hI:InsR R w a ln cp ins) (hR:∀b,R b→¬D.SL b) (hins:∀i,∀r ∈ ins i,r.ok) (hok:∀s,((x.L.put ins).held s).ok) :
 Calls Tryz.prog 100 #[.pointer (some ⟨P.lp,0,none⟩),.agg #[insV a ln cp 0,insV a ln cp 1,insV a ln cp 2,insV a ln cp 3]] w (HearN S I A qt K w0 P D x ins w):=by
 refine (hear_any D.SL R P.lp D.gp D.G x.L a ln cp ins w h.lane hI (fun b hb=>⟨fun e=>hR b hb (e ▸ h.lane.sp),fun e=>hR b hb (e ▸ h.lane.sg)⟩) hT hins).mono ?_
 rintro e w' ⟨m,G',g,hm,hl,rfl,hg,hr,hc⟩
 have hc':Chg D.SL w w':=hc.mono (fun b _ e=>by rcases e with rfl | rfl;exact h.lane.sp;exact h.lane.sg)
 refine⟨_,_,rfl,h.turn hl hc',⟨g,rfl,?_⟩,KeepF.turn hc'⟩
 have hrd:=hr.rd (tabN_ok _ hok)
 rw [tab_len] at hrd
 refine hrd.mono fun b hl hb=> ?_
 have hmb:m≤b:=by rcases hb with rfl | hb;exact hg;exact hb.1
 have:=h.c.size
 exact⟨hl,fun e=>by have:=h.own.il b e;omega,fun e=>by
  rcases e with e | e
  ·have:=h.lane.lt b e;omega
  ·omega,fun e=>by have:=(h.ck.2.lt b e).2;omega⟩
def VecN (S I:Nat→Prop) (A:CfA) (qt:Nat) (K:NdK) (w0:World) (P:NP) (D:NPd) (x:NdS) (L:List Hd) (w:World) (e:Ending) (w':World):Prop:=
 ∃v,e=.returned v∧AgA I D K.n L v w'∧NdX S I A qt K w0 P D x w'∧KeepF I D D w w'
theorem vecN_of (h:NdX S I A qt K w0 P D x w) {L:List Hd} (hl:L.length=K.n) (h4:4≤K.n) (hok:∀x ∈ L,x.ok) {e:Ending} (hv:VecPost L w e w'):VecN S I A qt K w0 P D x L w e w':=by
 obtain⟨⟨v,rfl,hV⟩,hb⟩:=hv
 rcases hV with ⟨g,rfl,hk,hg⟩ | ⟨rfl,rfl⟩
 ·have h3:Blk w' g 204 (flatH L++ []).toArray:=by simpa using hk
  have h4:=RdHs.of_blk h3 hok
  rw [hl] at h4 ⊢
  exact⟨_,rfl,⟨g,rfl,h.free hb hg hk.lt,⟨_,hk⟩,h4⟩,h.below hb,KeepF.below hb⟩
 ·simp at hl;omega
theorem ndx_agree (h:NdX S I A qt K w0 P D x w) (h4:4≤K.n) (h16:K.n≤16) {H:List Rw} {v:Value} (hd:HdA I D K.n H v w) :
 Calls Tryz.prog 101 #[.int .i64 K.n,v] w (VecN S I A qt K w0 P D x (agreeL K.n H) w):=by
 obtain⟨g,rfl,hr⟩:=hd
 refine (agree_any _ K.n _ K.n K.n H w hr (Nat.le_refl _) (by unfold maxLen;omega)).mono ?_
 intro e w' hv
 exact vecN_of h (agreeN_len h4 h16 _) h4 agreeL_ok hv
theorem ndx_table (h:NdX S I A qt K w0 P D x w) (h4:4≤K.n) (h16:K.n≤16) {H:List Rw} {v:Value} (hd:HdA I D K.n H v w) :
 Calls Tryz.prog 109 #[v] w (VecN S I A qt K w0 P D x (tabL H) w):=by
 obtain⟨g,rfl,hr⟩:=hd
 refine (table_any _ _ K.n K.n H w hr (Nat.le_refl _) (by unfold maxLen;omega) (by omega)).mono ?_
 intro e w' hv
 exact vecN_of h (by simp [tabL,hr.1]) h4 (tabL_ok hr.2.1) hv
theorem ndx_common (h:NdX S I A qt K w0 P D x w) (h16:K.n≤16) {L:List Hd} {v:Value} (ha:AgA I D K.n L v w) :
 Calls Tryz.prog 102 #[.int .i64 K.n,v] w fun e w'=>e=.returned (.int .i64 (commonF K.n L))∧NdX S I A qt K w0 P D x w'∧KeepF I D D w w':=by
 obtain⟨g,rfl,hf,-,hr⟩:=ha
 refine (common_any _ K.n _ K.n K.n L w hr (Nat.le_refl _) (by unfold maxLen;omega)).mono ?_
 rintro e w' ⟨rfl,hb⟩
 exact⟨rfl,h.below hb,KeepF.below hb⟩
def ClockN (S I:Nat→Prop) (A:CfA) (qt:Nat) (K:NdK) (w0:World) (P:NP) (D:NPd) (x:NdS) (age:Int) (w:World) (e:Ending) (w':World):Prop:=
 ∃D',e=.returned (.tuple #[.int .i64 age,.int .i64 (showF (lastN (2*K.n) (x.wn++ [age])))])∧NdX S I A qt K w0 P D' { x with wn:=lastN (2*K.n) (x.wn++ [age]) } w'∧KeepF I D D' w w'
theorem ndx_clock (h:NdX S I A qt K w0 P D x w) (h4:4≤K.n) (h16:K.n≤16) (hL:∀a ∈ x.wn,-1≤a∧a≤1099511627776) (hlen:x.wn.length≤2*K.n) (common cold:Int) (h0: -9223372036854775808≤common∧common≤9223372036854775807) :
 Calls Tryz.prog 103 #[.pointer (some ⟨P.ckb,0,none⟩),.int .i64 common,.int .i64 cold] w (ClockN S I A qt K w0 P D x (ownF K.n common cold) w):=by
 refine (ckstep_any 0 P.ckb K.n h4 h16 D.v x.wn hL hlen common cold h0 w h.ck (Nat.zero_le _)).mono ?_
 rintro e w' ⟨rfl,⟨v',hr,hv⟩,hc⟩
 exact⟨_,rfl,h.clock hr hv hc,KeepF.clock hv h.own.ickb hc⟩
theorem ndx_clique (h:NdX S I A qt K w0 P D x w) (h4:4≤K.n) (h16:K.n≤16) (h0:0≤x.long) (h1:x.long≤1000000) {L:List Hd} {v:Value} (ha:AgA I D K.n L v w) (common:Int) :
 Calls Tryz.prog 104 #[.pointer (some ⟨P.cqb,0,none⟩),v,.int .i64 common] w fun e w'=>e=.returned (.bool (cqOn x.long (2*K.n) (evenF K.n L common)==2*K.n))∧NdX S I A qt K w0 P D { x with long:=cqOn x.long (2*K.n) (evenF K.n L common) } w'∧KeepF I D D w w':=by
 obtain⟨g,rfl,hf,-,hr⟩:=ha
 refine (cqstep_any _ P.cqb x.long (2*K.n) K.n common _ K.n K.n L w h.cq (by omega) (by omega) h0 h1 (by omega) (by omega) hr (Nat.le_refl _) (by unfold maxLen;omega)).mono ?_
 rintro e w' ⟨rfl,hb,hc⟩
 exact⟨rfl,h.clique hb hc,KeepF.chg hc (by rintro b rfl;exact h.own.icqb)⟩
theorem ndx_run (h:NdX S I A qt K w0 P D x w) (hok:RefOk K.c) (age:Int) (sure:Bool) (hi:Idle K.c age sure) :
 Calls Tryz.prog 105 #[.pointer (some ⟨P.rg,0,none⟩),.int .i64 age,.bool sure] w fun e w'=>e=.returned (.tuple #[.agg timeZ.toArray,.bool false])∧NdX S I A qt K w0 P D x w'∧KeepF I D D w w':=by
 refine (cktick_idle S P.p A qt K.c P.rg x.t w h.net hok h.rg (fun e=>(h.own.sp _ e).2 h.own.irg) age sure hi).mono ?_
 rintro e w' ⟨rfl,hb,hc⟩
 exact⟨rfl,h.run hb hc,KeepF.chg hc (by rintro b rfl;exact h.own.irg)⟩
theorem ndx_slot (h:NdX S I A qt K w0 P D x w):Calls Tryz.prog 106 #[.pointer (some ⟨P.rg,0,none⟩)] w fun e w'=>e=.returned (.tuple #[.int .i64 0,.bool false])∧w=w':=by
 refine (ckslot_idle P.p P.rg x.t w h.rg).mono ?_
 rintro e w' ⟨rfl,rfl⟩
 exact⟨rfl,rfl⟩
theorem ndx_view (h:NdX S I A qt K w0 P D x w) (hv:K.V.length=42) (hva:K.V.all cell1=true):Calls Tryz.prog 89 #[.pointer (some ⟨P.cg,0,none⟩)] w fun e w'=>e=.returned (.agg K.V.toArray)∧NdX S I A qt K w0 P D x w'∧KeepF I D D w w':=by
 refine (crewview_any P.cg P.p P.bx K.ps K.c.N K.c.Sl.length K.last K.V hv hva w h.cg).mono ?_
 rintro e w' ⟨rfl,hb⟩
 exact⟨rfl,h.below hb,KeepF.below hb⟩
theorem NdX.cells (h:NdX S I A qt K w0 P D x w) (hs:K.seen.length=50) (hk:x.k.okL) :
 w.cell? ⟨P.nb,0,none⟩=some (.pointer (some ⟨P.lp,0,none⟩))∧w.cell? ⟨P.nb,1,none⟩=some (.pointer (some ⟨P.ckb,0,none⟩))∧w.cell? ⟨P.nb,2,none⟩=some (.pointer (some ⟨P.cqb,0,none⟩))∧w.cell? ⟨P.nb,3,none⟩=some (.pointer (some ⟨P.rg,0,none⟩))∧w.cell? ⟨P.nb,5,none⟩=some (.pointer (some ⟨P.cg,0,none⟩))∧
  w.cell? ⟨P.nb,120,none⟩=some (.pointer (some ⟨P.p,0,none⟩))∧w.cell? ⟨P.nb,121,none⟩=some (.int .i64 P.me)∧w.cell? ⟨P.nb,123,none⟩=some (.pointer (some ⟨P.pb,0,none⟩))∧(∀i,w.frozen? ⟨P.nb,i,none⟩=false):=by
 have hl:=memV_len (a0:=ptrN P.lp) (a1:=ptrN P.ckb) (a2:=ptrN P.cqb) (a3:=ptrN P.rg) (a4:=ptrN P.fb) (a5:=ptrN P.cg) (told:=K.told) hs (lookV_len hk)
 obtain⟨c0,c1,c2,c3⟩:=ndV_cells hl h.nd
 exact⟨h.nd.cell 0,h.nd.cell 1,h.nd.cell 2,h.nd.cell 3,h.nd.cell 5,c0,c1,c3,h.nd.frozen⟩
theorem NdX.lk (h:NdX S I A qt K w0 P D x w) (hs:K.seen.length=50) (hk:x.k.okL) (j:Nat) (hj:j<63):w.cell? ⟨P.nb,57+j,none⟩=(lookV x.k)[j]?:=by
 have hl:=lookV_len hk
 have e:P.cells K x.k=(ptrN P.lp :: ptrN P.ckb :: ptrN P.cqb :: ptrN P.rg :: ptrN P.fb :: ptrN P.cg :: (K.seen++ [.bool K.told]))++(lookV x.k++ [.pointer (some ⟨P.p,0,none⟩),.int .i64 P.me,P.en,ptrN P.pb]):=by simp [NP.cells,ndV,memV]
 rw [h.nd.cell,List.getElem?_toArray,e,List.getElem?_append_right (by simp [hs]),List.getElem?_append_left (by simp [hs,hl];omega)]
 congr 1
 simp [hs]
theorem ndx_offer (h:NdX S I A qt K w0 P D x w) (hok:RefOk K.c) (hs:K.seen.length=50) (hk:x.k.okL) (hr:x.k.run=false):Calls Tryz.prog 108 #[.pointer (some ⟨P.nb,0,none⟩)] w fun e w'=>e=.returned (.agg saidZ.toArray)∧NdX S I A qt K w0 P D x w'∧KeepF I D D w w':=by
 obtain⟨-,-,-,-,-,c6,c7,-⟩:=h.cells hs hk
 have c8:=h.lk hs hk 4 (by omega)
 rw [show (lookV x.k)[4]? =some (.bool x.k.run) from rfl,hr] at c8
 refine (offer_idle S P.p A qt K.c P.nb P.me w h.net hok c6 c7 c8).mono ?_
 rintro e w' ⟨rfl,hb⟩
 exact⟨rfl,h.below hb,KeepF.below hb⟩
def SayN (S I:Nat→Prop) (A:CfA) (qt:Nat) (K:NdK) (w0:World) (P:NP) (D:NPd) (x:NdS) (own:Rw) (w:World) (e:Ending) (w':World):Prop:=
 ∃D' g0 g1 m,e=.returned (.tuple #[.agg #[.slice (some ⟨g0,0,none⟩) x.L.n x.L.n],.agg #[.slice (some ⟨g1,0,none⟩) x.L.n x.L.n]])∧NdX S I A qt K w0 P D' { x with L:=x.L.said own } w'∧g0≠g1∧w.heap.size≤m∧m≤g0∧m≤g1∧
  RowsB (fun b=>m≤b∧b≠g0∧b≠g1) w' g0 134 ((x.L.said own).out 0)∧RowsB (fun b=>m≤b∧b≠g0∧b≠g1) w' g1 134 ((x.L.said own).out 2)∧KeepF I D D' w w'
theorem ndx_say (h:NdX S I A qt K w0 P D x w) (own:Rw) (ho:own.ok) (hb:x.L.b=true) (hT:0<x.L.T) (hT2:x.L.T≤1000000000) {v:Value} (ht:AgA I D K.n own.t v w) (hn:K.n≤16) :
 Calls Tryz.prog 110 #[.pointer (some ⟨P.lp,0,none⟩),.agg (own.vals v).toArray] w (SayN S I A qt K w0 P D x own w):=by
 obtain⟨g,rfl,hf,-,hr⟩:=ht
 refine (say_any D.SL (· =g) P.lp D.gp D.G x.L own ho _ w h.lane hb hT hT2 ⟨_,_,_,rfl,hr,Nat.le_refl _,by unfold maxLen;omega⟩ (by rintro b rfl;exact hf.2.2.1)).mono ?_
 rintro e w' ⟨m,g0,g1,hm,hl,rfl,h0,h1,hne,hr0,hr1,hc⟩
 exact⟨_,g0,g1,m,rfl,h.turn hl hc,hne,hm,h0,h1,hr0,hr1,KeepF.turn hc⟩
end
end Go.Proofs.YtdilbjikeilhbaaGreatDoor
