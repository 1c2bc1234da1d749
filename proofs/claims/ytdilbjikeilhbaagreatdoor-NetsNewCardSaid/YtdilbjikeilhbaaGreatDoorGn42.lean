import Derived.Test.YtdilbjikeilhbaaGreatDoorGn41
import Derived.Shelf.Abstract
import Derived.Shelf.RegionOpen
import Derived.WalkKit
import Derived.OwnWalkIn
import Derived.TacticsInMore
import Derived.LoopNIn
import Derived.LoopIn
import Derived.Test.YtdilbjikeilhbaaGreatDoorGn02
namespace Go.Proofs.YtdilbjikeilhbaaGreatDoor
open Go.RowKit
set_option linter.unusedVariables false
set_option linter.unusedSimpArgs false
def lnkQ (n i q:Nat):Nat:=linkE (q / 2) (srcD n (q / 2) i (q % 2+1)).toNat (q % 2+1)
def insQ {σ μ:Type} (T:NtS σ μ) (n i q:Nat):PoM:=(T.W (lnkQ n i q)).headD poZ
theorem lnkQ_lt {n i q:Nat} (h4:4≤n) (hq:q<4):lnkQ n i q<4*n:=by
 unfold lnkQ linkE
 have:=srcD_rng n (q / 2) i (q % 2+1) (by omega)
 omega
section
variable {n:Nat} {N:NodeSp n} {M:MouthSp n} {tag tag':Nat→Nat} {w w':World} {A:NtP} {T:NtS N.σ M.μ}
theorem NtAt.here (h:NtAt N M tag w A T) (h4:4≤n) (h16:n≤16) {i q:Nat} (hi:i<n) (hq:q<4) :
 ∃c:Value×Value,PoAt (Snp tag w) w c.1 c.2 (insQ T n i q)∧∀w',Below w.heap.size w w'→Calls Tryz.prog 52 #[.pointer (some ⟨A.wr.wb,0,none⟩),.int .u8 (q / 2:Nat),.int .i64 i,.int .i64 (q % 2+1:Nat)] w' fun e w''=> ∃b,e=.returned (.tuple #[.agg #[c.1,c.2],.bool b])∧Below w'.heap.size w' w'':=by
 obtain⟨W,G,h1,h2,h3,h5⟩:=h.wx.at_
 obtain⟨e1,e2,e3⟩:=h2 (lnkQ n i q) (lnkQ_lt h4 hq)
 obtain⟨c,l,hc⟩:∃c l,W (lnkQ n i q)=c :: l:=by
  cases hw:W (lnkQ n i q) with
  | nil=>rw [hw] at e1;simp at e1
  | cons a l=>exact⟨a,l,rfl⟩
 obtain⟨p,l',hp⟩:∃p l',T.W (lnkQ n i q)=p :: l':=by
  cases hw:T.W (lnkQ n i q) with
  | nil=>rw [hw] at e2;simp at e2
  | cons a l=>exact⟨a,l,rfl⟩
 refine⟨(c.x0,c.x1),?_,fun w' hb=> ?_⟩
 ·have:=e3 0 c p (by rw [hc];rfl) (by rw [hp];rfl)
  unfold insQ
  rw [hp]
  exact this
 ·refine (whereA_any (h1.below hb) (h.bx.sg.below hb) h4 h16 (q / 2) i (q % 2+1) (by omega) hi (by omega) (c:=c) (l:=l) hc).mono ?_
  rintro e w'' ⟨rfl,hb2⟩
  exact⟨_,rfl,hb2⟩
theorem NtAt.ticked (h:NtAt N M tag w A T) (hn:n≤16) {i:Nat} (hi:i<n) {s':N.σ} (hc:Chg (fun b=>tag b=i+10) w w') (hd:N.ND (extT w.heap.size tag fun _=>i+10) i s' w') :
 NtAt N M (extT w.heap.size tag fun _=>i+10) w' A { T with s:=fun j=>if j=i then s' else T.s j }:=by
 have hk:∀j,j≠i+10→∀b,b<w.heap.size→tag b=j∨tag b=0→w'.heap[b]? =w.heap[b]?:=fun j hj b hl hb=>hc.block b hl (fun e=>by omega)
 refine⟨h.bx.keep hc.size (hk 1 (by omega)) (extT_ext _ _ _),h.wx.keep hc.size (hk 2 (by omega)) (extT_ext _ _ _),M.keep h.mx hc.size (hk 3 (by omega)) (extT_ext _ _ _),fun j hj=> ?_,h.lx.keep hc.size (hk 4 (by omega)) (extT_ext _ _ _)⟩
 by_cases hji:j=i
 ·subst hji
  simp only [if_true]
  exact hd
 ·simp only [if_neg hji]
  exact N.keep hj (h.nx j hj) hc.size (hk (j+10) (by omega)) (extT_ext _ _ _)
theorem NtAt.said (h:NtAt N M tag w A T) {m':M.μ} (hc:Chg (fun b=>tag b=3) w w') (hd:M.MD (extT w.heap.size tag fun _=>0) m' w'):NtAt N M (extT w.heap.size tag fun _=>0) w' A { T with m:=m' }:=by
 have hk:∀j,j≠3→∀b,b<w.heap.size→tag b=j∨tag b=0→w'.heap[b]? =w.heap[b]?:=fun j hj b hl hb=>hc.block b hl (fun e=>by omega)
 exact⟨h.bx.keep hc.size (hk 1 (by omega)) (extT_ext _ _ _),h.wx.keep hc.size (hk 2 (by omega)) (extT_ext _ _ _),hd,fun j hj=>N.keep hj (h.nx j hj) hc.size (hk (j+10) (by omega)) (extT_ext _ _ _),h.lx.keep hc.size (hk 4 (by omega)) (extT_ext _ _ _)⟩
def putO (f:Nat→Option PoM) (k:Nat) (p:PoM) (j:Nat):Option PoM:=if j=k then some p else f j
theorem relG_put {S:Nat→Prop} {L:Nat→Option (Value×Value)} {Lm:Nat→Option PoM} {k:Nat} {x0 x1:Value} {p:PoM} (h:∀j,j<4*n→RelG S w (L j) (Lm j)) (hp:PoAt S w x0 x1 p):∀j,j<4*n→RelG S w (if j=k then some (x0,x1) else L j) (putO Lm k p j):=fun j hj=>by
 unfold putO
 by_cases hjk:j=k
 ·rw [if_pos hjk,if_pos hjk];exact hp
 ·rw [if_neg hjk,if_neg hjk];exact h j hj
theorem NtAt.last (h:NtAt N M tag w A T) (h16:n≤16) {k:Nat} (hk:k<4*n) (hlc:T.lc≤1000000000000) {x0 x1:Value} {p:PoM} (hp:PoAt (Snp tag w) w x0 x1 p) :
 ∃w',(Instr.mapUpdate 54 (.map (some A.lst)) (.int .i64 k) (.agg #[x0,x1])).run Tryz.prog w=.ok () w'∧NtAt N M tag w' A { T with L:=putO T.L k p,lc:=T.lc+1 }∧Chg (· =A.lst) w w'∧
  ∀w'',w''.heap[A.lst]? =w'.heap[A.lst]?→(Instr.lookup 54 (.map (some A.lst)) (.int .i64 k) false).run Tryz.prog w''=.ok (.agg #[x0,x1]) w'':=by
 obtain⟨⟨L,h1,h2,h3⟩,h5⟩:=h.lx
 have hkw:(Lit.int .i64 (k:Int)).wf=true:=by simp [Lit.wf,IntKind.min,IntKind.max,IntKind.signed,IntKind.bits];omega
 obtain⟨w',hrun,hm2,hg2⟩:=h1.put (t:=54) (e:=63) (by kernel_rfl) (by kernel_rfl) (by unfold maxLen;omega) hkw (.agg #[x0,x1])
 have hC:Chg (· =A.lst) w w':=⟨hg2.os,hg2.tape,hg2.output,hg2.size,fun b hb hn=>hg2.block b hb (by intro e;injection e with e;exact hn e)⟩
 have hm3:MapI Tryz.prog 3 w' A.lst (T.lc+1) (gvF fun j=>if j=k then some (x0,x1) else L j):=by
  rw [←gvF_put];exact hm2
 have hkk:∀j,j≠4→∀b,b<w.heap.size→tag b=j∨tag b=0→w'.heap[b]? =w.heap[b]?:=fun j hj b hl hb=>hC.block b hl (by rintro rfl;omega)
 have hk0:∀b,b<w.heap.size→tag b=0→w'.heap[b]? =w.heap[b]?:=fun b hl hb=>hkk 1 (by omega) b hl (.inr hb)
 refine⟨w',hrun,⟨h.bx.keep hC.size (hkk 1 (by omega)) (Ext.refl _ _),h.wx.keep hC.size (hkk 2 (by omega)) (Ext.refl _ _),M.keep h.mx hC.size (hkk 3 (by omega)) (Ext.refl _ _),fun j hj=>N.keep hj (h.nx j hj) hC.size (hkk (j+10) (by omega)) (Ext.refl _ _),⟨⟨_,hm3,?_,fun j hj=> ?_⟩,h5⟩⟩,hC,fun w'' hb=> ?_⟩
 ·exact relG_put (fun j hj=>(h2 j hj).ext hC.size hk0 (Ext.refl _ _)) (hp.ext hC.size hk0 (Ext.refl _ _))
 ·show (if j=k then some (x0,x1) else L j)=none
  rw [if_neg (by omega)]
  exact h3 j hj
 ·have:=(hm3.keep hb).look1 (t:=54) (e:=63) (by kernel_rfl) (by kernel_rfl) (z:=.agg postZ.toArray) (by kernel_rfl) hkw
  rw [gvF_at] at this
  simpa using this
theorem NtAt.give (h:NtAt N M tag w A T) (h4:4≤n) (h16:n≤16) {k:Nat} (hk:k<4*n) (hgc:T.gc≤1000) {x0 x1:Value} {p:PoM} (hp:PoAt (Snp tag w) w x0 x1 p) :
 Calls Tryz.prog 56 #[.pointer (some ⟨A.wr.wb,0,none⟩),.int .i64 k,.agg #[x0,x1]] w fun e w'=>e=.returned (.int .i64 0)∧NtAt N M (extT w.heap.size tag fun _=>98) w' A { T with G:=putO T.G k p,gc:=T.gc+1 }∧Chg (· =A.wr.gb) w w':=by
 obtain⟨W,G,h1,h2,h3,h5⟩:=h.wx.at_
 have hc1:=hp.cell1
 have hne:A.wr.gb≠A.wr.wb∧A.wr.gb≠A.wr.mb∧∀k,k<4*n→A.wr.gb≠A.wr.lb k∧A.wr.gb≠A.wr.wy k:=⟨h1.g.ne_blk h1.b,h.wx.gm,fun k hk=>⟨h1.g.ne_blk (h1.l k hk).b,h1.g.ne_blk (h1.l k hk).g⟩⟩
 refine (wgive_any h1 h4 h16 hgc k hk hne x0 x1 hc1.1 hc1.2).mono ?_
 rintro e w' ⟨rfl,hw,hC⟩
 rw [gvF_put] at hw
 have tg:=h.wx.tg
 have hkk:∀j,j≠2→∀b,b<w.heap.size→tag b=j∨tag b=0→w'.heap[b]? =w.heap[b]?:=fun j hj b hl hb=>hC.block b hl (by rintro rfl;have:=tg.2.2.1;omega)
 have hk0:∀b,b<w.heap.size→tag b=0→w'.heap[b]? =w.heap[b]?:=fun b hl hb=>hkk 1 (by omega) b hl (.inr hb)
 have hE:=extT_ext w tag fun _=>98
 have hlt:=h.wx.lt
 refine⟨rfl,⟨h.bx.keep hC.size (hkk 1 (by omega)) hE,⟨⟨W,_,hw,fun j hj=>⟨(h2 j hj).1,(h2 j hj).2.1,fun a c p e1 e2=>((h2 j hj).2.2 a c p e1 e2).ext hC.size hk0 hE⟩,?_,fun j hj=> ?_⟩,?_,h.wx.gm,h.wx.inj⟩,M.keep h.mx hC.size (hkk 3 (by omega)) hE,fun j hj=>N.keep hj (h.nx j hj) hC.size (hkk (j+10) (by omega)) hE,h.lx.keep hC.size (hkk 4 (by omega)) hE⟩,hC⟩
 ·exact relG_put (fun j hj=>(h3 j hj).ext hC.size hk0 hE) (hp.ext hC.size hk0 hE)
 ·show (if j=k then some (x0,x1) else G j)=none
  rw [if_neg (by omega)]
  exact h5 j hj
 ·exact⟨(hE _ hlt.1).trans tg.1,(hE _ hlt.2.1).trans tg.2.1,(hE _ hlt.2.2.1).trans tg.2.2.1,fun j hj=>⟨(hE _ (hlt.2.2.2 j hj).1).trans (tg.2.2.2 j hj).1,(hE _ (hlt.2.2.2 j hj).2).trans (tg.2.2.2 j hj).2⟩⟩
end
def NtS.mid {n:Nat} {σ:Type} (M:MouthSp n) (i:Nat) (o:Nat→PoM) (T:NtS σ M.μ):Nat→NtS σ M.μ
 | 0=>T
 | r+1=>{ NtS.mid M i o T r with
    m:=M.st (NtS.mid M i o T r).m T.t (4*i+r) (o (r / 2))
    L:=putO (NtS.mid M i o T r).L (4*i+r) (M.out (NtS.mid M i o T r).m T.t (4*i+r) (o (r / 2)))
    lc:=(NtS.mid M i o T r).lc+1
    G:=putO (NtS.mid M i o T r).G (4*i+r) (M.out (NtS.mid M i o T r).m T.t (4*i+r) (o (r / 2)))
    gc:=(NtS.mid M i o T r).gc+1 }
theorem NtS.mid_same {n:Nat} {σ:Type} (M:MouthSp n) (i:Nat) (o:Nat→PoM) (T:NtS σ M.μ):∀r,(NtS.mid M i o T r).t=T.t∧(NtS.mid M i o T r).s=T.s∧(NtS.mid M i o T r).on=T.on∧(NtS.mid M i o T r).W=T.W∧(NtS.mid M i o T r).gc=T.gc+r∧(NtS.mid M i o T r).lc=T.lc+r
 | 0=>⟨rfl,rfl,rfl,rfl,rfl,rfl⟩
 | r+1=>by
   obtain⟨h1,h2,h3,h4,h5,h6⟩:=NtS.mid_same M i o T r
   refine⟨h1,h2,h3,h4,?_,?_⟩
   ·show (NtS.mid M i o T r).gc+1=_
    omega
   ·show (NtS.mid M i o T r).lc+1=_
    omega
def NtS.node {n:Nat} (N:NodeSp n) (M:MouthSp n) (i:Nat) (T:NtS N.σ M.μ):NtS N.σ M.μ:=
 NtS.mid M i (N.out i (T.s i) (T.on i) (insQ T n i)) { T with s:=fun j=>if j=i then N.st i (T.s i) (T.on i) (insQ T n i) else T.s j } 4
structure NtS.okN {n:Nat} (N:NodeSp n) (M:MouthSp n) (i:Nat) (T:NtS N.σ M.μ):Prop where
 nd:N.ok i (T.s i) (T.on i) (insQ T n i)
 mo:∀r,r<4→M.ok (NtS.mid M i (N.out i (T.s i) (T.on i) (insQ T n i)) { T with s:=fun j=>if j=i then N.st i (T.s i) (T.on i) (insQ T n i) else T.s j } r).m T.t (4*i+r) (N.out i (T.s i) (T.on i) (insQ T n i) (r / 2))
 gc:T.gc≤900
 lc:T.lc≤100000000000
 t:T.t≤900000
def insN (x:Nat→Value×Value) (m:Nat):List Value:=
 [if 0<m then (x 0).1 else .int .u8 0,if 0<m then (x 0).2 else .slice none 0 0,if 1<m then (x 1).1 else .int .u8 0,if 1<m then (x 1).2 else .slice none 0 0,
  if 2<m then (x 2).1 else .int .u8 0,if 2<m then (x 2).2 else .slice none 0 0,if 3<m then (x 3).1 else .int .u8 0,if 3<m then (x 3).2 else .slice none 0 0]
theorem insN_len (x:Nat→Value×Value) (m:Nat):(insN x m).length=8:=rfl
theorem insN_put (x:Nat→Value×Value) {q:Nat} (hq:q<4):(insN x q).take (2*q)++ [(x q).1,(x q).2] ++(insN x q).drop (2*q+2)=insN x (q+1):=by
 rcases (show q=0∨q=1∨q=2∨q=3 by omega) with rfl | rfl | rfl | rfl <;> rfl
section
variable (ρ:Operand→Value) (d:Option Tmp) (x y:Operand) (ty:TypeId) (s:String) (af:Array Edge) (g:Option (Nat×Bool)) (w:World)
@[go_sem ↓] theorem ld_insM (h:hasRowV w 8 (ρ x)=true):(execOp ρ { dst:=d,op:=.load 209 x,type:=ty,pos:=s,after:=af,guard:=g }).run Tryz.prog w=.ok (.value (.agg (rowV w 8 (ρ x)).toArray)) w:=exec_load ag_ins ρ d x ty s af g w h
@[go_sem ↓] theorem al_insN:(execOp ρ { dst:=d,op:=.alloc 209,type:=ty,pos:=s,after:=af,guard:=g }).run Tryz.prog w=.ok (.value (.pointer (some ⟨w.heap.size,0,none⟩))) (w.alloc (.cells (insN (fun _=>(.int .u8 0,.slice none 0 0)) 0).toArray 209)):=exec_alloc (by unfold zeroIs;kernel_rfl) ρ d ty s af g w
end
@[go_sem ↓] theorem idx_po0 (a b c d:Value) (w:World):(Instr.index 207 (.agg #[a,b,c,d]) (.int .i64 0)).run Tryz.prog w=.ok (.agg #[a,b]) w:=(by kernel_rfl)
@[go_sem ↓] theorem idx_po1 (a b c d:Value) (w:World):(Instr.index 207 (.agg #[a,b,c,d]) (.int .i64 1)).run Tryz.prog w=.ok (.agg #[c,d]) w:=(by kernel_rfl)
def NodeP {n:Nat} (N:NodeSp n) (M:MouthSp n) (tag:Nat→Nat) (A:NtP) (T:NtS N.σ M.μ) (i:Nat) (w:World) (e:Ending) (w':World):Prop:=
 ∃tag',e=.returned (.tuple #[])∧NtAt N M tag' w' A (NtS.node N M i T)∧Ext w tag tag'∧Chg (fun b=>tag b≠0∧tag b<98) w w'
section
variable {n:Nat} {N:NodeSp n} {M:MouthSp n} {tag:Nat→Nat} {w:World} {A:NtP} {T:NtS N.σ M.μ}
def MidI (N:NodeSp n) (M:MouthSp n) (A:NtP) (T1:NtS N.σ M.μ) (i:Nat) (o:Nat→PoM) (tk:Nat→Nat) (w2:World) (r:Nat) (tg:Nat→Nat) (wr:World):Prop:=
 Ext w2 tk tg∧NtAt N M tg wr A (NtS.mid M i o T1 r)∧Chg (fun b=>tk b=2∨tk b=3∨tk b=4) w2 wr
theorem MidI.chg {T1:NtS N.σ M.μ} {i r:Nat} {o:Nat→PoM} {tk tg tg':Nat→Nat} {w2 wr w':World} {S:Nat→Prop} (h:MidI N M A T1 i o tk w2 r tg wr) (hc:Chg S wr w') (hS:∀b,b<wr.heap.size→S b→tg b=2∨tg b=3∨tg b=4):Chg (fun b=>tk b=2∨tk b=3∨tk b=4) w2 w':=
 chgW h.2.2 hc fun b hb e=>by
  have:=hS b (Nat.lt_of_lt_of_le hb h.2.2.size) e
  rw [h.1 b hb] at this
  exact this
theorem MidI.below {T1:NtS N.σ M.μ} {i r:Nat} {o:Nat→PoM} {tk tg tg':Nat→Nat} {w2 wr w':World} (h:MidI N M A T1 i o tk w2 r tg wr) (hb:Below wr.heap.size wr w') (ht:Ext wr tg tg'):MidI N M A T1 i o tk w2 r tg' w':=
 ⟨h.1.trans h.2.2.size ht,h.2.1.below hb ht,h.2.2.trans (Chg.of_below hb _)⟩
set_option maxRecDepth 100000 in
set_option maxHeartbeats 4000000 in
theorem node31_any (h:NtAt N M tag w A T) (h4:4≤n) (h16:n≤16) {i:Nat} (hi:i<n) (hok:NtS.okN N M i T) :
 Calls Tryz.prog 30 #[.pointer (some ⟨A.b,0,none⟩),.int .i64 i] w (NodeP N M tag A T i w):=by
 have hH:∀q,q<4→∃c:Value×Value,PoAt (Snp tag w) w c.1 c.2 (insQ T n i q)∧∀w',Below w.heap.size w w'→Calls Tryz.prog 52 #[.pointer (some ⟨A.wr.wb,0,none⟩),.int .u8 (q / 2:Nat),.int .i64 i,.int .i64 (q % 2+1:Nat)] w' fun e w''=> ∃b,e=.returned (.tuple #[.agg #[c.1,c.2],.bool b])∧Below w'.heap.size w' w'':=fun q hq=>h.here h4 h16 hi hq
 obtain⟨x,hx⟩:∃x:Nat→Value×Value,∀q,q<4→PoAt (Snp tag w) w (x q).1 (x q).2 (insQ T n i q)∧∀w',Below w.heap.size w w'→Calls Tryz.prog 52 #[.pointer (some ⟨A.wr.wb,0,none⟩),.int .u8 (q / 2:Nat),.int .i64 i,.int .i64 (q % 2+1:Nat)] w' fun e w''=> ∃b,e=.returned (.tuple #[.agg #[(x q).1,(x q).2],.bool b])∧Below w'.heap.size w' w'':=
  ⟨fun q=>if hq:q<4 then (hH q hq).choose else (.int .u8 0,.slice none 0 0),fun q hq=>by simp only [hq,dif_pos];exact (hH q hq).choose_spec⟩
 have HX:=Lib.hid hx
 have HA:=Lib.hid h
 have HOK:=Lib.hid hok
 have hB1:=balP (Below.refl w.heap.size w) (.cells (insN (fun _=>(.int .u8 0,.slice none 0 0)) 0).toArray 209)
 have k1:=Blk.new w 209 (insN (fun _=>(.int .u8 0,.slice none 0 0)) 0).toArray
 rw [show insN (fun _=>(.int .u8 0,.slice none 0 0)) 0=insN x 0 from rfl] at hB1 k1
 clear h hok hH hx
 go_enter Tryz.func30,Tryz.ntmps30
 go_upto_region 2 with fail
 rw [show insN (fun _=>(.int .u8 0,.slice none 0 0)) 0=insN x 0 from rfl]
 generalize w.alloc (.cells (insN x 0).toArray 209)=w1 at hB1 k1 ⊢
 obtain⟨g,hg⟩:∃g,Hid (g=w.heap.size):=⟨_,Lib.hid rfl⟩
 rw [←hg.out] at k1 ⊢
 have HI:=Lib.hid (And.intro k1 hB1)
 clear k1 hB1
 go_loopw [11] (fun i wr=> ∃k:Nat,k≤2∧i=.int .i64 k∧Hid (Blk wr g 209 (insN x (2*k)).toArray∧Below w.heap.size w wr)) (fun i _=>2 - (intOf i).toNat)
 case atStart=>exact⟨0,by omega,rfl,HI⟩
 case round=>
  obtain⟨k,hk,rfl,HK⟩:=hrel
  clear HI
  by_cases hlt:k<2
  ·obtain⟨wo,hwo⟩:∃wo,wo=wr:=⟨_,rfl⟩
   rw [←hwo] at HK ⊢
   clear hwo
   have hkl:(k:Int)<2:=by omega
   go_wp2_with fail
   go_loopw [14] (fun j wr=> ∃m:Nat,m≤2∧j=.int .i64 m∧Hid (Blk wr g 209 (insN x (2*k+m)).toArray∧Below w.heap.size w wr)) (fun i _=>2 - (intOf i).toNat)
   case atStart=>exact⟨0,by omega,rfl,HK⟩
   case round=>
    obtain⟨m,hm,rfl,HM⟩:=hrel
    clear HK
    by_cases hml:m<2
    ·have hx:=HX.out (2*k+m) (by omega)
     rw [show (2*k+m) / 2=k by omega,show (2*k+m) % 2=m by omega] at hx
     have hc1:=hx.1.cell1
     obtain⟨cv,hcv⟩:∃cv:List Value,Hid (cv=[(x (2*k+m)).1,(x (2*k+m)).2]):=⟨_,Lib.hid rfl⟩
     have hcvl:cv.length=2:=by rw [hcv.out];rfl
     have hcva:cv.all cell1=true:=by rw [hcv.out];simp [hc1.1,hc1.2]
     have HC:Hid (Calls Tryz.prog 52 #[.pointer (some ⟨A.wr.wb,0,none⟩),.int .u8 k,.int .i64 i,.int .i64 ((m:Int)+1)] wr.drew fun e w''=> ∃b,e=.returned (.tuple #[.agg cv.toArray,.bool b])∧Below wr.heap.size wr w''):=Lib.hid (by
      refine (hx.2 wr.drew HM.out.2.drew).mono ?_
      rintro e w'' ⟨b,rfl,hb⟩
      exact⟨b,by rw [hcv.out],(Below.refl wr.heap.size wr).drew.trans hb⟩)
     have c3:wr.cell? ⟨A.b,3,none⟩=some (.pointer (some ⟨A.wr.wb,0,none⟩)):=((HA.out.below HM.out.2 (Ext.refl _ _)).bx.b.cell 3)
     have HC3:Hid (∀w',Below wr.heap.size wr w'→w'.cell? ⟨A.b,3,none⟩=some (.pointer (some ⟨A.wr.wb,0,none⟩))∧canPut w' ⟨g,k*4+m*2,none⟩ 2=true):=Lib.hid fun w' hb=>by
      have hb1:=(HM.out.1.below hb HM.out.1.lt)
      refine⟨(HA.out.below (HM.out.2.trans (hb.mono HM.out.2.size)) (Ext.refl _ _)).bx.b.cell 3,?_⟩
      rw [hb1.rules.2.2.2.2]
      simp [insN_len]
      omega
     have w1:IntKind.u8.wrap (k:Int)=k:=IntWalk.u8_in _ (by omega)
     have w2:IntKind.i64.wrap ((m:Int)+1)=(m:Int)+1:=IntWalk.i64_in _ (by omega)
     have HF:Hid (∀w',Below wr.heap.size wr w'→Blk (putRow w' ⟨g,k*4+m*2,none⟩ cv) g 209 (insN x (2*k+(m+1))).toArray∧Below w.heap.size w (putRow w' ⟨g,k*4+m*2,none⟩ cv)):=Lib.hid fun w' hb=>by
      have hb1:=(HM.out.1.below hb HM.out.1.lt).put (k*4+m*2) cv
      have he:=insN_put x (q:=2*k+m) (by omega)
      rw [show 2*(2*k+m)=k*4+m*2 by omega,←hcv.out] at he
      rw [hcvl,he] at hb1
      exact⟨hb1,Below.put (HM.out.2.trans (hb.mono HM.out.2.size)) (p:=⟨g,k*4+m*2,none⟩) (by show w.heap.size≤g;rw [hg.out];exact Nat.le_refl _) _⟩
     clear hx hc1
     go_upto_region 7 with fail
     go_region_law (first
      | (go_simp;go_at_call 52;(with_reducible refine HC.out.mono ?_);rintro e w3 ⟨b,rfl,hb3⟩;obtain⟨y1,y2⟩:=HC3.out _ hb3;have H3:=Lib.hid (HF.out _ hb3);clear hb3))
     all_goals go_wp2_with fail
     all_goals exact⟨⟨m+1,by omega,by go_num,H3⟩,by simp [intOf];omega⟩
    ·obtain rfl:m=2:=by omega
     go_wp2_with fail
     exact⟨⟨k+1,by omega,by go_num,by rw [show 2*(k+1)=2*k+2 by omega];exact HM⟩,by simp [intOf];omega⟩
  ·obtain rfl:k=2:=by omega
   -- the node's tick
   obtain⟨tl,htl⟩:∃tl,Hid (tl=extT w.heap.size tag fun _=>98):=⟨_,Lib.hid rfl⟩
   have HE0:Hid (Ext w tag tl):=Lib.hid (by rw [htl.out];exact extT_ext _ _ _)
   have HKd:Hid (Blk wr.drew g 209 (insN x (2*2)).toArray∧Below w.heap.size w wr.drew):=Lib.hid ⟨HK.out.1,HK.out.2.drew⟩
   have HA1:=Lib.hid (HA.out.below HKd.out.2 HE0.out)
   have hgt:tl g=98:=by rw [htl.out,extT_new _ _ (by rw [hg.out];exact Nat.le_refl _)]
   have HT:=Lib.hid (N.tick hi (HA1.out.nx i hi) HOK.out.nd (fun q hq=>((HX.out q hq).1.below HKd.out.2).mono fun b _ hb=>hb.ext HKd.out.2.size HE0.out))
   obtain⟨iv,hiv⟩:∃iv:List Value,Hid (iv=insN x (2*2)):=⟨_,Lib.hid rfl⟩
   rw [←hiv.out] at HK HKd
   have hivl:iv.length=8:=by rw [hiv.out];rfl
   rw [show (#[(x 0).1,(x 0).2,(x 1).1,(x 1).2,(x 2).1,(x 2).2,(x 3).1,(x 3).2]:Array Value)=iv.toArray by rw [hiv.out];rfl] at HT
   obtain⟨cur,hgl,hgs,hga⟩:=HA1.out.bx.gl
   have q1:wr.cell? ⟨A.b,1,none⟩=some (.slice (some ⟨A.gl,0,none⟩) n A.lc):=HA1.out.bx.b.cell 1
   have q2:wr.cell? ⟨A.b,2,none⟩=some (.slice (some ⟨A.og,0,none⟩) n n):=HA1.out.bx.b.cell 2
   have q3:wr.cell? ⟨A.gl,i,none⟩=some (.pointer (some ⟨N.nb i,0,none⟩)):=by show wr.drew.cell? _=_;rw [hgl.cell];exact hga i hi
   have q4:wr.cell? ⟨A.og,i,none⟩=some (.bool (T.on i)):=by show wr.drew.cell? _=_;rw [HA1.out.bx.og.cell,List.getElem?_toArray];exact onN_at hi
   obtain⟨r1,r2,-⟩:=HK.out.1.whole hivl
   have hin:(i:Int)<n:=by omega
   clear hgl hgs hga
   go_upto_region 10 with fail
   obtain⟨o,ho⟩:∃o,Hid (o=N.out i (T.s i) (T.on i) (insQ T n i)):=⟨_,Lib.hid rfl⟩
   obtain⟨T1,hT1⟩:∃T1:NtS N.σ M.μ,Hid (T1={ T with s:=fun j=>if j=i then N.st i (T.s i) (T.on i) (insQ T n i) else T.s j }):=⟨_,Lib.hid rfl⟩
   rw [←ho.out] at HT
   have HL:Hid (∀w2,Chg (fun b=>tl b=i+10) wr.drew w2→N.ND (extT wr.drew.heap.size tl fun _=>i+10) i (N.st i (T.s i) (T.on i) (insQ T n i)) w2→NtAt N M (extT wr.drew.heap.size tl fun _=>i+10) w2 A T1):=Lib.hid fun w2 hc hd=>by
    rw [hT1.out];exact HA1.out.ticked h16 hi hc hd
   have HS:Hid (∀(tg:Nat→Nat) (w':World) (U:NtS N.σ M.μ),NtAt N M tg w' A U→U.on=T.on→w'.heap[g]? =wr.drew.heap[g]?→w'.cell? ⟨A.b,1,none⟩=some (.slice (some ⟨A.gl,0,none⟩) n A.lc)∧w'.cell? ⟨A.b,2,none⟩=some (.slice (some ⟨A.og,0,none⟩) n n)∧w'.cell? ⟨A.gl,i,none⟩=some (.pointer (some ⟨N.nb i,0,none⟩))∧w'.cell? ⟨A.og,i,none⟩=some (.bool (T.on i))∧hasRow w' ⟨g,0,none⟩ 8=true∧rowOf w' ⟨g,0,none⟩ 8=iv):=Lib.hid fun tg w' U hU hon hgg=>by
    obtain⟨cur,hgl,hgs,hga⟩:=hU.bx.gl
    have hrb:=row_block (w:=wr.drew) (w':=w') (p:=⟨g,0,none⟩) (n:=8) hgg
    obtain⟨r1,r2,-⟩:=HKd.out.1.whole hivl
    exact⟨hU.bx.b.cell 1,hU.bx.b.cell 2,by rw [hgl.cell];exact hga i hi,by rw [hU.bx.og.cell,List.getElem?_toArray,hon];exact onN_at hi,hrb.1.trans r1,hrb.2.trans r2⟩
   have HG:Hid (∀w2,Chg (fun b=>tl b=i+10) wr.drew w2→w2.heap[g]? =wr.drew.heap[g]?):=Lib.hid fun w2 hc=>hc.block _ HKd.out.1.lt (by rw [hgt];omega)
   have hT1on:T1.on=T.on:=by rw [hT1.out]
   go_region_held3 (fun w'=>w'.cell? ⟨A.b,1,none⟩=some (.slice (some ⟨A.gl,0,none⟩) n A.lc)∧w'.cell? ⟨A.b,2,none⟩=some (.slice (some ⟨A.og,0,none⟩) n n)∧w'.cell? ⟨A.gl,i,none⟩=some (.pointer (some ⟨N.nb i,0,none⟩))∧w'.cell? ⟨A.og,i,none⟩=some (.bool (T.on i))∧hasRow w' ⟨g,0,none⟩ 8=true∧rowOf w' ⟨g,0,none⟩ 8=iv)
    (first | exact HS.out _ _ _ HA1.out rfl rfl | exact HS.out _ _ _ H2.out.2.1 hT1on H2.out.2.2.2)
    ((first
      | (go_at_call 53;(refine (HT.out.mono ?_));rintro e w2 ⟨y,rfl,hc,hd,hp⟩;obtain⟨av,hav⟩:∃av:List Value,Hid (av=[(y 0).1,(y 0).2,(y 1).1,(y 1).2]):=⟨_,Lib.hid rfl⟩;rw [show (#[(y 0).1,(y 0).2,(y 1).1,(y 1).2]:Array Value)=av.toArray by rw [hav.out]];have H2:=Lib.hid (And.intro hc (And.intro (HL.out w2 hc hd) (And.intro hp (HG.out w2 hc))));clear hc hd hp)))
   clear q1 q2 q3 q4 r1 r2 HS HG HL HT
   obtain⟨tk,htk⟩:∃tk,Hid (tk=extT wr.drew.heap.size tl fun _=>i+10):=⟨_,Lib.hid rfl⟩
   rw [←htk.out] at H2
   have HM0:Hid (MidI N M A T1 i o tk w2 0 tk w2):=Lib.hid ⟨Ext.refl _ _,H2.out.2.1,Chg.refl _ _⟩
   have hT1t:T1.t=T.t:=by rw [hT1.out]
   obtain⟨sz,hsz⟩:∃sz,Hid (sz=wr.heap.size):=⟨_,Lib.hid rfl⟩
   have HPo:Hid (∀d,d<2→PoAt (fun b=>sz≤b∧b<w2.heap.size) w2 (y d).1 (y d).2 (o d)):=Lib.hid fun d hd=>(H2.out.2.2.1 d hd).mono fun b hb h=>⟨by rw [hsz.out];exact h,hb⟩
   have HTk:Hid (∀b,sz≤b→tk b=i+10):=Lib.hid fun b hb=>by rw [htk.out,extT_new _ _ (by rw [hsz.out] at hb;exact hb)]
   have HPk:Hid (∀w',Chg (fun b=>tk b=2∨tk b=3∨tk b=4) w2 w'→∀d,d<2→PoAt (fun b=>sz≤b∧b<w2.heap.size) w' (y d).1 (y d).2 (o d)):=Lib.hid fun w' hc d hd=>(HPo.out d hd).keep hc.size fun b hb _=>hc.block b hb.2 (by
    rw [HTk.out b hb.1]
    omega)
   have HMo:Hid (∀r,r<4→M.ok (NtS.mid M i o T1 r).m T1.t (4*i+r) (o (r / 2))):=Lib.hid fun r hr=>by
    have:=HOK.out.mo r hr
    rw [←ho.out,←hT1.out,←hT1t] at this
    exact this
   have HTt:Hid (T1.t≤900000∧T1.gc≤900∧T1.lc≤100000000000):=Lib.hid (by rw [hT1.out];exact⟨HOK.out.t,HOK.out.gc,HOK.out.lc⟩)
   have HFin:Hid (∀tg w',MidI N M A T1 i o tk w2 (2*2) tg w'→NodeP N M tag A T i w (.returned (.tuple #[])) w'):=Lib.hid fun tg w' hm=>by
    have hcw:Chg (fun b=>tl b=i+10) wr.drew w2:=H2.out.1
    have hE1:Ext wr.drew tl tk:=by rw [htk.out];exact extT_ext _ _ _
    refine⟨tg,rfl,?_,(HE0.out.trans HKd.out.2.size hE1).trans (Nat.le_trans HKd.out.2.size hcw.size) hm.1,?_⟩
    ·have:=hm.2.1
     rw [ho.out,hT1.out] at this
     exact this
    ·refine chgW (S:=fun b=>tag b≠0∧tag b<98) (chgW (S:=fun b=>tag b≠0∧tag b<98) (Chg.of_below HKd.out.2 _) hcw fun b hb e=> ?_) hm.2.2 fun b hb e=> ?_
     ·rw [HE0.out b hb] at e;omega
     ·rw [hE1 b (Nat.lt_of_lt_of_le hb HKd.out.2.size),HE0.out b hb] at e;omega
   clear hT1t hT1on
   go_wp2_with fail
   go_loopw [52] (fun dd w5=> ∃d tg,d≤2∧dd=.int .i64 (d:Nat)∧Hid (MidI N M A T1 i o tk w2 (2*d) tg w5)) (fun dd _=>2 - (intOf dd).toNat)
   case atStart=>exact⟨0,_,by omega,rfl,HM0⟩
   case round=>
    obtain⟨d,tg5,hd,rfl,HM5⟩:=hrel
    clear HM0
    by_cases hdl:d<2
    ·have hdl':(d:Int)<2:=by omega
     have hc1:=((HPk.out _ HM5.out.2.2) d hdl).cell1
     obtain⟨yv,hyv⟩:∃yv:List Value,Hid (yv=[(y d).1,(y d).2]):=⟨_,Lib.hid rfl⟩
     have hyl:yv.length=2:=by rw [hyv.out];rfl
     have hya:yv.all cell1=true:=by rw [hyv.out];simp [hc1.1,hc1.2]
     have hidx:∀w:World,(Instr.index 207 (.agg av.toArray) (.int .i64 (d:Int))).run Tryz.prog w=.ok (.agg yv.toArray) w:=by
      intro w
      rw [hav.out,hyv.out]
      rcases (show d=0∨d=1 by omega) with rfl | rfl
      ·exact idx_po0 _ _ _ _ w
      ·exact idx_po1 _ _ _ _ w
     go_wp2_with fail
     have hk8:=Blk.new wr 63 yv.toArray
     have hb8:=balP (Below.refl wr.heap.size wr) (.cells yv.toArray 63)
     have hM8:=HM5.out.below hb8 (extT_ext wr tg5 fun _=>98)
     have ht8:(extT wr.heap.size tg5 fun _=>98) wr.heap.size=98:=extT_new _ _ (Nat.le_refl _)
     generalize wr.alloc (.cells yv.toArray 63)=w6 at hk8 hM8 ⊢
     obtain⟨q8,hq8⟩:∃q,Hid (q=wr.heap.size):=⟨_,Lib.hid rfl⟩
     obtain⟨tg6,htg6⟩:∃tg,Hid (tg=extT wr.heap.size tg5 fun _=>98):=⟨_,Lib.hid rfl⟩
     rw [←htg6.out] at hM8 ht8
     rw [←hq8.out] at hk8 ht8 ⊢
     have HJ:Hid (MidI N M A T1 i o tk w2 (2*d+1 - 1) tg6 w6∧Blk w6 q8 63 yv.toArray∧tg6 q8=98):=Lib.hid ⟨hM8,hk8,ht8⟩
     clear hk8 hM8 ht8 hb8 HM5 hidx
     go_loopw [9] (fun hh w7=> ∃hp tg,1≤hp∧hp≤3∧hh=.int .i64 (hp:Nat)∧Hid (MidI N M A T1 i o tk w2 (2*d+hp - 1) tg w7∧Blk w7 q8 63 yv.toArray∧tg q8=98)) (fun hh _=>3 - (intOf hh).toNat)
     case atStart=>exact⟨1,_,by omega,by omega,rfl,HJ⟩
     case round=>
      obtain⟨hp,tg7,hp1,hp3,rfl,HK7⟩:=hrel
      clear HJ
      by_cases hpl:hp<3
      ·obtain⟨r,hr⟩:∃r,Hid (r=2*d+hp - 1):=⟨_,Lib.hid rfl⟩
       rw [←hr.out] at HK7
       have hr4:r<4:=by have:=hr.out;omega
       have hrd:r / 2=d:=by have:=hr.out;omega
       obtain⟨k,hk⟩:∃k,Hid (k=4*i+r):=⟨_,Lib.hid rfl⟩
       have hkl:k<4*n:=by have:=hk.out;omega
       have HLk:Hid (Calls Tryz.prog 54 #[.int .i64 n,.int .u8 d,.int .i64 i,.int .i64 hp] wr fun e w'=>e=.returned (.int .i64 k)∧Below wr.heap.size wr w'):=Lib.hid (by
        refine (link_any n d i hp (by omega) (by omega) hdl (by omega) (by omega) wr).mono ?_
        rintro e w' ⟨rfl,hb⟩
        have hke:linkE d i hp=k:=by unfold linkE;rw [hk.out,hr.out];omega
        rw [hke]
        exact⟨rfl,hb⟩)
       have c0:wr.cell? ⟨A.b,0,none⟩=some (.pointer (some ⟨A.p,0,none⟩)):=HK7.out.1.2.1.bx.b.cell 0
       have cp:wr.cell? ⟨A.p,0,none⟩=some (.int .i64 n):=HK7.out.1.2.1.bx.c
       have hph:(hp:Int)≤2:=by omega
       have w1:IntKind.u8.wrap (d:Int)=d:=IntWalk.u8_in _ (by omega)
       have w3:IntKind.i64.wrap ((hp:Int)+1)=(hp:Int)+1:=IntWalk.i64_in _ (by omega)
       go_wp2_with fail
       (with_reducible refine HLk.out.mono ?_)
       rintro e w8 ⟨rfl,hb8⟩
       have hbd:=hb8.drew
       obtain⟨tg8,htg8⟩:∃tg,Hid (tg=extT wr.heap.size tg7 fun _=>98):=⟨_,Lib.hid rfl⟩
       have HK8:Hid (MidI N M A T1 i o tk w2 r tg8 w8.drew∧Blk w8.drew q8 63 yv.toArray∧tg8 q8=98):=Lib.hid (by
        rw [htg8.out]
        exact⟨HK7.out.1.below hbd (extT_ext _ _ _),HK7.out.2.1.below hbd HK7.out.2.1.lt,(extT_ext _ _ _ _ HK7.out.2.1.lt).trans HK7.out.2.2⟩)
       clear HK7 hb8 hbd c0 cp
       obtain⟨U,hU⟩:∃U:NtS N.σ M.μ,Hid (U=NtS.mid M i o T1 r):=⟨_,Lib.hid rfl⟩
       have hsame:=NtS.mid_same M i o T1 r
       rw [←hU.out] at hsame
       have hUt:Hid (U.t=T1.t):=Lib.hid hsame.1
       have HSm:=Lib.hid hsame
       clear hsame
       have HN8:Hid (NtAt N M tg8 w8.drew A U):=Lib.hid (by rw [hU.out];exact HK8.out.1.2.1)
       have hpo:=HPk.out _ HK8.out.1.2.2 d hdl
       have hmo:=HMo.out r hr4
       rw [←hU.out,hrd,←hk.out] at hmo
       have HSy:=Lib.hid (M.says hkl HN8.out.mx hmo (S:=fun b=>sz≤b∧b<w2.heap.size) (fun b hb _=>by rw [HK8.out.1.1 b hb.2,HTk.out b hb.1];omega) hpo)
       rw [show (#[(y d).1,(y d).2]:Array Value)=yv.toArray by rw [hyv.out]] at HSy
       -- the row,and the net's cells,in every world of the round
       have HS:Hid (∀(tg:Nat→Nat) (w':World) (V:NtS N.σ M.μ),NtAt N M tg w' A V→V.t=T1.t→w'.heap[q8]? =w8.drew.heap[q8]?→w'.cell? ⟨A.b,6,none⟩=some (.map (some A.lst))∧w'.cell? ⟨A.b,4,none⟩=some (.pointer (some ⟨M.mb,0,none⟩))∧w'.cell? ⟨A.b,7,none⟩=some (.int .i64 T1.t)∧w'.cell? ⟨A.b,3,none⟩=some (.pointer (some ⟨A.wr.wb,0,none⟩))∧hasRow w' ⟨q8,0,none⟩ 2=true∧rowOf w' ⟨q8,0,none⟩ 2=yv):=Lib.hid fun tg w' V hV ht hq=>by
        have hrb:=row_block (w:=w8.drew) (w':=w') (p:=⟨q8,0,none⟩) (n:=2) hq
        obtain⟨r1,r2,-⟩:=HK8.out.2.1.whole hyl
        exact⟨hV.bx.b.cell 6,hV.bx.b.cell 4,by rw [hV.bx.b.cell,←ht];rfl,hV.bx.b.cell 3,hrb.1.trans r1,hrb.2.trans r2⟩
       have hS8:=HS.out tg8 w8.drew U HN8.out hUt.out rfl
       obtain⟨z6,z4,z7,z3,zr1,zr2⟩:=(show w8.cell? ⟨A.b,6,none⟩=some (.map (some A.lst))∧w8.cell? ⟨A.b,4,none⟩=some (.pointer (some ⟨M.mb,0,none⟩))∧w8.cell? ⟨A.b,7,none⟩=some (.int .i64 T1.t)∧w8.cell? ⟨A.b,3,none⟩=some (.pointer (some ⟨A.wr.wb,0,none⟩))∧hasRow w8 ⟨q8,0,none⟩ 2=true∧rowOf w8 ⟨q8,0,none⟩ 2=yv from hS8)
       have HS8:=Lib.hid hS8
       -- what is said goes onto the link
       obtain⟨po,hpoe⟩:∃po,Hid (po=M.out U.m T1.t k (o d)):=⟨_,Lib.hid rfl⟩
       rw [←hpoe.out] at HSy
       have HSaid:Hid (∀(w9:World) (y0 y1:Value),Chg (fun b=>tg8 b=3) w8.drew w9→M.MD (extT w8.drew.heap.size tg8 fun _=>0) (M.st U.m T1.t k (o d)) w9→PoAt (fun b=>w8.drew.heap.size≤b) w9 y0 y1 po→
        ∃w10,(Instr.mapUpdate 54 (.map (some A.lst)) (.int .i64 k) (.agg #[y0,y1])).run Tryz.prog w9=.ok () w10∧NtAt N M (extT w8.drew.heap.size tg8 fun _=>0) w9 A { U with m:=M.st U.m T1.t k (o d) }∧w9.heap[q8]? =w8.drew.heap[q8]?∧
         NtAt N M (extT w8.drew.heap.size tg8 fun _=>0) w10 A { U with m:=M.st U.m T1.t k (o d),L:=putO U.L k po,lc:=U.lc+1 }∧w10.heap[q8]? =w8.drew.heap[q8]?∧PoAt (Snp (extT w8.drew.heap.size tg8 fun _=>0) w10) w10 y0 y1 po∧MidI N M A T1 i o tk w2 r tg8 w8.drew∧Chg (fun b=>tk b=2∨tk b=3∨tk b=4) w2 w10∧Ext w2 tk (extT w8.drew.heap.size tg8 fun _=>0)∧(extT w8.drew.heap.size tg8 fun _=>0) q8=98∧
         ∀w'',w''.heap[A.lst]? =w10.heap[A.lst]?→(Instr.lookup 54 (.map (some A.lst)) (.int .i64 k) false).run Tryz.prog w''=.ok (.agg #[y0,y1]) w''):=Lib.hid fun w9 y0 y1 hc hd hp=>by
        have h9:=HN8.out.said hc hd
        have hp9:PoAt (Snp (extT w8.drew.heap.size tg8 fun _=>0) w9) w9 y0 y1 po:=hp.mono fun b hb h=>⟨extT_new _ _ h,hb⟩
        have hlc:U.lc≤1000000000000:=by have:=HSm.out.2.2.2.2.2;have:=HTt.out;omega
        obtain⟨w10,e1,e2,e3,e4⟩:=h9.last h16 hkl hlc hp9
        have hql:=HK8.out.2.1.lt
        have hq9:w9.heap[q8]? =w8.drew.heap[q8]?:=hc.block _ hql (by rw [HK8.out.2.2];omega)
        have hlt9:=h9.lx.2
        have hq10:w10.heap[q8]? =w9.heap[q8]?:=e3.block _ (Nat.lt_of_lt_of_le hql hc.size) (by
         rintro rfl
         have h1:=extT_ext w8.drew tg8 (fun _=>0) _ hql
         rw [h1,HK8.out.2.2] at hlt9
         omega)
        have hk0:∀b,b<w9.heap.size→(extT w8.drew.heap.size tg8 fun _=>0) b=0→w10.heap[b]? =w9.heap[b]?:=fun b hb h0=>e3.block _ hb (by rintro rfl;omega)
        have hc9:=HK8.out.1.chg (tg':=tg8) hc fun b _ h=> .inr (.inl h)
        have hE9:Ext w2 tk (extT w8.drew.heap.size tg8 fun _=>0):=HK8.out.1.1.trans HK8.out.1.2.2.size (extT_ext _ _ _)
        refine⟨w10,e1,h9,hq9,e2,hq10.trans hq9,hp9.ext e3.size hk0 (Ext.refl _ _),HK8.out.1,chgW hc9 e3 fun b hb e=> ?_,hE9,(extT_ext _ _ _ _ hql).trans HK8.out.2.2,e4⟩
        rw [e] at hb ⊢
        have:=hE9 _ hb
        omega
       clear hS8
       go_upto_region 17 with fail
       go_region_held3 (fun w'=>w'.cell? ⟨A.b,6,none⟩=some (.map (some A.lst))∧w'.cell? ⟨A.b,4,none⟩=some (.pointer (some ⟨M.mb,0,none⟩))∧w'.cell? ⟨A.b,7,none⟩=some (.int .i64 T1.t)∧w'.cell? ⟨A.b,3,none⟩=some (.pointer (some ⟨A.wr.wb,0,none⟩))∧hasRow w' ⟨q8,0,none⟩ 2=true∧rowOf w' ⟨q8,0,none⟩ 2=yv)
        (with_reducible (first | exact HS8.out | exact HS9.out | exact HS10.out))
        ((first
          | (go_at_call 55;(with_reducible (refine (HSy.out.mono ?_)));rintro e w9 ⟨y0,y1,rfl,hc,hd,hp⟩;obtain⟨w10,hmu,hn9,hq9,hn10,hq10,hp10,hmi,hch,hex,ht8,hlo⟩:=HSaid.out w9 y0 y1 hc hd hp;have HS9:=Lib.hid (HS.out _ w9 _ hn9 hUt.out hq9);have HS10:=Lib.hid (HS.out _ w10 _ hn10 hUt.out hq10);have H10:=Lib.hid (And.intro hn10 (And.intro hp10 (And.intro hch (And.intro hex (And.intro ht8 (And.intro hlo hq10))))));clear hc hd hp hn9 hq9 hn10 hq10 hp10 hmi hch hex ht8 hlo)))
       clear z6 z4 z7 z3 zr1 zr2 HSaid HSy hmu HS8 HS9
       obtain⟨tgA,htgA⟩:∃tg,Hid (tg=extT w8.drew.heap.size tg8 fun _=>0):=⟨_,Lib.hid rfl⟩
       rw [←htgA.out] at H10
       obtain⟨V,hV⟩:∃V:NtS N.σ M.μ,Hid (V={ U with m:=M.st U.m T1.t k (o d),L:=putO U.L k po,lc:=U.lc+1 }):=⟨_,Lib.hid rfl⟩
       rw [←hV.out] at H10
       have hVg:V.gc≤1000:=by rw [hV.out];show U.gc≤1000;have:=HSm.out.2.2.2.2.1;have:=HTt.out;omega
       have hwd:=(Below.refl w10.heap.size w10).drew
       have HNd:=Lib.hid (H10.out.1.below hwd (Ext.refl _ _))
       have HGv:=Lib.hid (HNd.out.give h4 h16 hkl hVg (x0:=y0) (x1:=y1) (p:=po) (H10.out.2.1.below hwd))
       obtain⟨zv,hzv⟩:∃zv:List Value,Hid (zv=[y0,y1]):=⟨_,Lib.hid rfl⟩
       rw [show (#[y0,y1]:Array Value)=zv.toArray by rw [hzv.out]] at HGv H10 ⊢
       have HQ:Hid (∀w',Below w10.heap.size w10 w'→w'.cell? ⟨A.b,3,none⟩=some (.pointer (some ⟨A.wr.wb,0,none⟩))∧w'.cell? ⟨A.b,6,none⟩=some (.map (some A.lst))∧(Instr.lookup 54 (.map (some A.lst)) (.int .i64 k) false).run Tryz.prog w'=.ok (.agg zv.toArray) w'):=Lib.hid fun w' hb=>
        ⟨(H10.out.1.below hb (Ext.refl _ _)).bx.b.cell 3,(H10.out.1.below hb (Ext.refl _ _)).bx.b.cell 6,H10.out.2.2.2.2.2.1 w' (hb.block _ (by obtain⟨⟨L,h1,-⟩,-⟩:=H10.out.1.lx;exact h1.lt))⟩
       have HQ0:=Lib.hid (HQ.out _ hwd)
       clear hwd HS10
       obtain⟨v3,v6,-⟩:=HQ.out w10 (Below.refl _ _)
       have HQ1:Hid (∀w11,Chg (· =A.wr.gb) w10.drew w11→NtAt N M (extT w10.drew.heap.size tgA fun _=>98) w11 A { V with G:=putO V.G k po,gc:=V.gc+1 }→w11.cell? ⟨A.b,3,none⟩=some (.pointer (some ⟨A.wr.wb,0,none⟩))∧w11.cell? ⟨A.b,6,none⟩=some (.map (some A.lst))∧(Instr.lookup 54 (.map (some A.lst)) (.int .i64 k) false).run Tryz.prog w11=.ok (.agg zv.toArray) w11):=Lib.hid fun w11 hc hn=>by
        have hne:A.lst≠A.wr.gb:=fun e=>by have h1:=HNd.out.lx.2;have h2:=HNd.out.wx.tg.2.2.1;rw [e] at h1;omega
        refine⟨hn.bx.b.cell 3,hn.bx.b.cell 6,?_⟩
        obtain⟨⟨L,h1,-⟩,-⟩:=HNd.out.lx
        exact H10.out.2.2.2.2.2.1 w11 (hc.block A.lst h1.lt hne)
       go_upto_region 18 with fail
       go_region_held3 (fun w'=>w'.cell? ⟨A.b,3,none⟩=some (.pointer (some ⟨A.wr.wb,0,none⟩))∧w'.cell? ⟨A.b,6,none⟩=some (.map (some A.lst))∧(Instr.lookup 54 (.map (some A.lst)) (.int .i64 k) false).run Tryz.prog w'=.ok (.agg zv.toArray) w')
        (with_reducible (first | exact HQ0.out | exact HQ11.out))
        ((first
          | (go_at_call 56;(with_reducible (refine (HGv.out.mono ?_)));rintro e w11 ⟨rfl,hn11,hc11⟩;have HQ11:=Lib.hid (HQ1.out w11 hc11 hn11);have H11:=Lib.hid (And.intro hn11 hc11);clear hn11 hc11)))
       have HEnd:Hid (MidI N M A T1 i o tk w2 (2*d+(hp+1) - 1) (extT w10.drew.heap.size tgA fun _=>98) w11∧Blk w11 q8 63 yv.toArray∧(extT w10.drew.heap.size tgA fun _=>98) q8=98):=Lib.hid (by
        have hrr:2*d+(hp+1) - 1=r+1:=by have:=hr.out;omega
        obtain⟨h1,h2,h3,h4',h5,h6,h7⟩:=H10.out
        have hb10:Blk w10 q8 63 yv.toArray:=h7.trans HK8.out.2.1
        have hq10:q8<w10.heap.size:=hb10.lt
        have hEx:Ext w2 tk (extT w10.drew.heap.size tgA fun _=>98):=h4'.trans (show w2.heap.size≤w10.drew.heap.size from h3.size) (extT_ext w10.drew tgA _)
        refine⟨⟨hEx,?_,?_⟩,?_,?_⟩
        ·rw [hrr]
         have:=H11.out.1
         rw [hV.out,hU.out,hpoe.out,hU.out,hk.out,←hrd] at this
         exact this
        ·refine chgW h3.drew (H11.out.2) fun b hb e=> ?_
         have ht:=HNd.out.wx.tg.2.2.1
         rw [←e] at ht
         have:=h4' b hb
         omega
        ·refine (H11.out.2.block q8 hq10 ?_).trans (h7.trans HK8.out.2.1)
         rintro rfl
         have ht:=HNd.out.wx.tg.2.2.1
         omega
        ·exact (extT_ext w10.drew tgA _ _ hq10).trans h5)
       clear H10 H11 HNd HGv HQ HQ0 HQ1 HQ11 HK8 HN8
       go_wp2_with fail
       exact⟨⟨hp+1,_,by omega,by omega,by go_num,HEnd⟩,by simp [intOf];omega⟩
      ·obtain rfl:hp=3:=by omega
       go_wp2_with fail
       exact⟨⟨d+1,tg7,by omega,by go_num,Lib.hid (by have:=HK7.out.1;rw [show 2*d+3 - 1=2*(d+1) by omega] at this;exact this)⟩,by simp [intOf];omega⟩
    ·obtain rfl:d=2:=by omega
     go_wp2_with fail
     go_end0
     exact HFin.out _ _ HM5.out
end
open Go.RowKit Go.Shelf
attribute [local go_sem] Oper.semAt_some
def NtS.endT {σ μ:Type} (T:NtS σ μ):NtS σ μ:={ T with t:=T.t+1,W:=fun k=>(T.W k).tail++ [(T.G k).getD poZ],G:=fun _=>none,gc:=0 }
def NtS.nodes {n:Nat} (N:NodeSp n) (M:MouthSp n) (T:NtS N.σ M.μ):Nat→NtS N.σ M.μ
 | 0=>T
 | k+1=>NtS.node N M k (NtS.nodes N M T k)
def NtS.run {n:Nat} (N:NodeSp n) (M:MouthSp n) (T:NtS N.σ M.μ):Nat→NtS N.σ M.μ
 | 0=>T
 | k+1=>NtS.endT (NtS.nodes N M (NtS.run N M T k) n)
section
variable {n:Nat} {N:NodeSp n} {M:MouthSp n} {tag tag':Nat→Nat} {w w':World} {A:NtP} {T:NtS N.σ M.μ}
theorem NtS.node_same (i:Nat) (T:NtS N.σ M.μ):(NtS.node N M i T).t=T.t∧(NtS.node N M i T).on=T.on∧(NtS.node N M i T).W=T.W∧(NtS.node N M i T).gc=T.gc+4∧(NtS.node N M i T).lc=T.lc+4:=by
 have h:=NtS.mid_same M i (N.out i (T.s i) (T.on i) (insQ T n i)) { T with s:=fun j=>if j=i then N.st i (T.s i) (T.on i) (insQ T n i) else T.s j } 4
 exact⟨h.1,h.2.2.1,h.2.2.2.1,h.2.2.2.2.1,h.2.2.2.2.2⟩
theorem NtS.nodes_same (T:NtS N.σ M.μ):∀k,(NtS.nodes N M T k).t=T.t∧(NtS.nodes N M T k).on=T.on∧(NtS.nodes N M T k).W=T.W∧(NtS.nodes N M T k).gc=T.gc+4*k∧(NtS.nodes N M T k).lc=T.lc+4*k
 | 0=>⟨rfl,rfl,rfl,rfl,rfl⟩
 | k+1=>by
   obtain⟨h1,h2,h3,h4,h5⟩:=NtS.nodes_same T k
   obtain⟨g1,g2,g3,g4,g5⟩:=NtS.node_same k (NtS.nodes N M T k)
   exact⟨g1.trans h1,g2.trans h2,g3.trans h3,by show (NtS.node N M k _).gc=_;omega,by show (NtS.node N M k _).lc=_;omega⟩
theorem relG_cell1 {S:Nat→Prop}:∀{a:Option (Value×Value)} {b:Option PoM},RelG S w a b→∀v,a=some v→cell1 v.1=true∧cell1 v.2=true
 | some _,some _,h,_,rfl=>PoAt.cell1 h
 | some _,none,h,_,_=>h.elim
 | none,_,_,_,h=>by cases h
theorem NtAt.end_ (h:NtAt N M tag w A T) (h4:4≤n) (h16:n≤16) (ht:T.t≤1000000) :
 Calls Tryz.prog 51 #[.pointer (some ⟨A.wr.wb,0,none⟩)] w fun e w'=>e=.returned (.int .i64 0)∧WrX (extT w.heap.size tag fun _=>98) w' n 0 A.wr ((T.t:Int)+1) (NtS.endT T).W (NtS.endT T).G∧Chg (fun b=>tag b=2) w w':=by
 obtain⟨W,G,h1,h2,h3,h5⟩:=h.wx.at_
 have tg:=h.wx.tg
 have hlt:=h.wx.lt
 refine (wend_any h1 h4 h16 h.wx.gm h.wx.inj (by omega) (by omega) (fun k hk=> ?_) (fun k p hp=> ?_)).mono ?_
 ·have:=(h2 k hk).1
  refine⟨?_,by omega⟩
  intro e
  rw [e] at this
  simp at this
 ·by_cases hk:k<4*n
  ·exact relG_cell1 (h3 k hk) p hp
  ·rw [h5 k (by omega)] at hp;cases hp
 ·rintro e w' ⟨rfl,hw,hC⟩
  have hC2:Chg (fun b=>tag b=2) w w':=hC.mono (S':=fun b=>tag b=2) fun b _ e=>by
   rcases e with rfl | rfl | ⟨k,hk,rfl | rfl⟩
   ·exact tg.1
   ·exact tg.2.2.1
   ·exact (tg.2.2.2 k hk).1
   ·exact (tg.2.2.2 k hk).2
  have hE:=extT_ext w tag fun _=>98
  have hk0:∀b,b<w.heap.size→tag b=0→w'.heap[b]? =w.heap[b]?:=fun b hl hb=>hC2.block b hl (by omega)
  refine⟨rfl,⟨⟨_,_,hw,fun k hk=>⟨?_,?_,fun j c p e1 e2=> ?_⟩,fun k hk=>trivial,fun k hk=>rfl⟩,⟨(hE _ hlt.1).trans tg.1,(hE _ hlt.2.1).trans tg.2.1,(hE _ hlt.2.2.1).trans tg.2.2.1,fun j hj=>⟨(hE _ (hlt.2.2.2 j hj).1).trans (tg.2.2.2 j hj).1,(hE _ (hlt.2.2.2 j hj).2).trans (tg.2.2.2 j hj).2⟩⟩,h.wx.gm,h.wx.inj⟩,hC2⟩
  ·have:=(h2 k hk).1
   unfold endW
   simp [this]
  ·have:=(h2 k hk).2.1
   show ((T.W k).tail++ [(T.G k).getD poZ]).length=_
   simp [this]
  ·have l1:=(h2 k hk).1
   have l2:=(h2 k hk).2.1
   have hrel:=h3 k hk
   unfold endW at e1
   replace e2:((T.W k).tail++ [(T.G k).getD poZ])[j]? =some p:=e2
   by_cases hj:j<k % 2
   ·rw [List.getElem?_append_left (by simp;omega),List.getElem?_tail] at e1 e2
    exact ((h2 k hk).2.2 (j+1) c p e1 e2).ext hC2.size hk0 hE
   ·have hjl:j=k % 2:=by
     have:=(List.getElem?_eq_some_iff.1 e1).1
     simp at this
     omega
    subst hjl
    rw [List.getElem?_append_right (by simp;omega)] at e1 e2
    simp [l1] at e1
    simp [l2] at e2
    subst e1
    subst e2
    unfold endC
    cases hG:G k with
    | none=>
      cases hM:T.G k with
      | none=>exact PoAt.zero _ _
      | some q=>rw [hG,hM] at hrel;exact hrel.elim
    | some v=>
      cases hM:T.G k with
      | none=>rw [hG,hM] at hrel;exact hrel.elim
      | some q=>rw [hG,hM] at hrel;exact PoAt.ext hrel hC2.size hk0 hE
theorem NtAt.ended (h:NtAt N M tag w A T) (hn:n≤16) (hw:WrX (extT w.heap.size tag fun _=>98) w' n 0 A.wr ((T.t:Int)+1) (NtS.endT T).W (NtS.endT T).G) (hc:Chg (fun b=>tag b=2) w w') :
 NtAt N M (extT w.heap.size tag fun _=>98) (w'.setCell ⟨A.b,7,none⟩ (.int .i64 ((T.t:Int)+1))) A (NtS.endT T)∧w'.cell? ⟨A.b,7,none⟩=some (.int .i64 T.t)∧w'.frozen? ⟨A.b,7,none⟩=false∧Chg (fun b=>tag b=1∨tag b=2) w (w'.setCell ⟨A.b,7,none⟩ (.int .i64 ((T.t:Int)+1))):=by
 have hE:=extT_ext w tag fun _=>98
 have hk:∀j,j≠2→∀b,b<w.heap.size→tag b=j∨tag b=0→w'.heap[b]? =w.heap[b]?:=fun j hj b hl hb=>hc.block b hl (fun e=>by omega)
 have h1:=h.bx.keep hc.size (hk 1 (by omega)) hE
 have hlt:=h.bx.lt
 have tg:=h.bx.tg
 have hs:∀b,b≠A.b→(w'.setCell ⟨A.b,7,none⟩ (.int .i64 ((T.t:Int)+1))).heap[b]? =w'.heap[b]?:=fun b hb=>Below.heap_setCell _ _ _ _ hb
 have hks:∀j,j≠1→∀b,b<w'.heap.size→(extT w.heap.size tag fun _=>98) b=j∨(extT w.heap.size tag fun _=>98) b=0→(w'.setCell ⟨A.b,7,none⟩ (.int .i64 ((T.t:Int)+1))).heap[b]? =w'.heap[b]?:=fun j hj b _ hb=>hs b (by
  rintro rfl
  have:=hE _ hlt.1
  have:=tg.1
  omega)
 have hz:w'.heap.size≤(w'.setCell ⟨A.b,7,none⟩ (.int .i64 ((T.t:Int)+1))).heap.size:=by simp
 refine⟨⟨⟨?_,?_,?_,?_,h1.lc,?_,h1.tg⟩,hw.keep hz (hks 2 (by omega)) (Ext.refl _ _),M.keep (M.keep h.mx hc.size (hk 3 (by omega)) hE) hz (hks 3 (by omega)) (Ext.refl _ _),fun i hi=>N.keep hi (N.keep hi (h.nx i hi) hc.size (hk (i+10) (by omega)) hE) hz (hks (i+10) (by omega)) (Ext.refl _ _),(h.lx.keep hc.size (hk 4 (by omega)) hE).keep hz (hks 4 (by omega)) (Ext.refl _ _)⟩,h1.b.cell 7,h1.b.frozen 7,?_⟩
 ·have:=h1.b.set_ 7 (.int .i64 ((T.t:Int)+1))
  have e:((NtS.endT T).t:Int)=(T.t:Int)+1:=by show ((T.t+1:Nat):Int)=_;omega
  simpa [netCells,e] using this
 ·rw [World.cell?_of_block (a:=⟨A.p,0,none⟩) (hs A.p (by intro e;have:=tg.1;rw [←e] at this;omega))];exact h1.c
 ·exact h1.sg.keep_ (hs _ (by intro e;have:=tg.1;rw [←e] at this;omega))
 ·obtain⟨cur,g1,g2,g3⟩:=h1.gl
  exact⟨cur,g1.far (p:=⟨A.b,7,none⟩) (g1.ne_ h1.b (by decide)) _,g2,g3⟩
 ·exact h1.og.far (p:=⟨A.b,7,none⟩) (h1.og.ne_ h1.b (by decide)) _
 ·exact (chgW (hc.mono (S':=fun b=>tag b=1∨tag b=2) fun _ _ e=> .inr e) ((Chg.refl (· =A.b) w').setCell (.inl rfl) _) fun b hb e=> .inl (by rw [e];exact tg.1))
end
end Go.Proofs.YtdilbjikeilhbaaGreatDoor
