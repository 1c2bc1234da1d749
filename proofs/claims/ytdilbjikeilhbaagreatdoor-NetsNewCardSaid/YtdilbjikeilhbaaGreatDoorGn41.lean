import Derived.Test.YtdilbjikeilhbaaGreatDoorGn40
import Derived.Test.YtdilbjikeilhbaaGreatDoorGn26
import Derived.Test.YtdilbjikeilhbaaGreatDoorGn02
namespace Go.Proofs.YtdilbjikeilhbaaGreatDoor
open Go.RowKit
set_option linter.unusedVariables false
set_option linter.unusedSimpArgs false
set_option maxRecDepth 100000 in
set_option maxHeartbeats 1000000 in
theorem nlook_any {S I:Nat→Prop} {A:CfA} {qt:Nat} {K:NdK} {w0 w:World} {P:NP} {D:NPd} {x:NdS} (h:NdX S I A qt K w0 P D x w) (hs:K.seen.length=50) (hk:x.k.okL) (hka:(lookV x.k).all cell1=true) :
 Calls Tryz.prog 19 #[.pointer (some ⟨P.nb,0,none⟩)] w (AggP (lookV x.k) w):=by
 have hb:=balN (Below.refl w.heap.size w) (.cells (lookV lk0).toArray 91)
 have hz:=Blk.new w 91 (lookV lk0).toArray
 have hx:=h.below hb
 have hl:=lookV_len hk
 obtain⟨r1,r2⟩:=hx.row hs hk 0 63 (by omega)
 rw [List.drop_zero,List.take_of_length_le (by omega)] at r2
 replace r1:hasRow (w.alloc (.cells (lookV lk0).toArray 91)) ⟨P.nb,57,none⟩ 63=true:=r1
 replace r2:rowOf (w.alloc (.cells (lookV lk0).toArray 91)) ⟨P.nb,57,none⟩ 63=lookV x.k:=r2
 obtain⟨-,-,-,-,-,-,-,c123,-⟩:=hx.cells hs hk
 obtain⟨-,-,p3⟩:=hz.whole (n:=63) rfl
 obtain⟨q1,q2,-⟩:=(hz.put_all (l:=lookV x.k) (by rw [hl];rfl)).whole hl
 have HE:=Lib.hid (And.intro q1 (And.intro q2 (Below.put hb (p:=⟨w.heap.size,0,none⟩) (Nat.le_refl _) (lookV x.k))))
 clear hx hb hz q1 q2 h hk
 go_enter Tryz.func19,Tryz.ntmps19
 go_upto_region 1 with fail
 generalize w.alloc (.cells (lookV lk0).toArray 91)=w1 at *
 obtain⟨lv,hlv⟩:∃lv,Hid (lv=lookV x.k):=⟨_,Lib.hid rfl⟩
 rw [←hlv.out] at r2 hl hka HE ⊢
 go_wp2_with fail
 (try simp only [Exit.inBlock,Exit.then])
 first | refine bodyPost_ret (ret_rowB (n:=63) rfl ag_look _ _ _ rfl ?_) rfl ?_ | refine bodyPost_end (ret_rowB (n:=63) rfl ag_look _ _ _ rfl ?_) rfl ?_
 ·exact HE.out.1
 ·rw [HE.out.2.1]
  exact⟨by rw [hlv.out],HE.out.2.2⟩
def liveN:Cfg:=⟨4,[0,2],[0,1],120,[0,0,0,0],[],3,3,3⟩
theorem live_ref:RefOk liveN where
 n:=by decide
 p:=by decide
 pr:=by
  intro i a h
  have e:halvesL 4 [0]=[0,1]:=by decide
  have e2:halvesL 4 []=[]:=rfl
  match i,h with
  | 0,h=>simp [liveN] at h;subst h;simp [liveN,e2]
  | 1,h=>simp [liveN] at h;subst h;simp [liveN,e,show stepE 4 2=3 from by decide]
  | n+2,h=>simp [liveN] at h
 s:=by decide
 si:=by decide
 sc:=by decide
 lo:=by decide
 bl:=by decide
 b:=by decide
 t:=by decide
 st:=by intro s hs;cases hs
 mi:=by decide
 go:=by decide
 fr:=by decide
structure NodeSp (n:Nat) where
 σ:Type
 nb:Nat→Nat
 ND:(Nat→Nat)→Nat→σ→World→Prop
 ok:Nat→σ→Bool→(Nat→PoM)→Prop
 st:Nat→σ→Bool→(Nat→PoM)→σ
 out:Nat→σ→Bool→(Nat→PoM)→Nat→PoM
 keep:∀{tag tag':Nat→Nat} {i:Nat} {s:σ} {w w':World},i<n→ND tag i s w→w.heap.size≤w'.heap.size→(∀b,b<w.heap.size→tag b=i+10∨tag b=0→w'.heap[b]? =w.heap[b]?)→Ext w tag tag'→ND tag' i s w'
 tick:∀{tag:Nat→Nat} {w:World} {i:Nat} {s:σ} {on:Bool} {ins:Nat→PoM} {x:Nat→Value×Value},i<n→ND tag i s w→ok i s on ins→(∀q,q<4→PoAt (Snp tag w) w (x q).1 (x q).2 (ins q))→
  Calls Tryz.prog 53 #[.pointer (some ⟨nb i,0,none⟩),.bool on,.agg #[(x 0).1,(x 0).2,(x 1).1,(x 1).2,(x 2).1,(x 2).2,(x 3).1,(x 3).2]] w fun e w'=> ∃y:Nat→Value×Value,e=.returned (.agg #[(y 0).1,(y 0).2,(y 1).1,(y 1).2])∧Chg (fun b=>tag b=i+10) w w'∧
   ND (extT w.heap.size tag fun _=>i+10) i (st i s on ins) w'∧∀d,d<2→PoAt (fun b=>w.heap.size≤b) w' (y d).1 (y d).2 (out i s on ins d)
structure MouthSp (n:Nat) where
 μ:Type
 mb:Nat
 MD:(Nat→Nat)→μ→World→Prop
 ok:μ→Nat→Nat→PoM→Prop
 st:μ→Nat→Nat→PoM→μ
 out:μ→Nat→Nat→PoM→PoM
 keep:∀{tag tag':Nat→Nat} {m:μ} {w w':World},MD tag m w→w.heap.size≤w'.heap.size→(∀b,b<w.heap.size→tag b=3∨tag b=0→w'.heap[b]? =w.heap[b]?)→Ext w tag tag'→MD tag' m w'
 says:∀{tag:Nat→Nat} {w:World} {m:μ} {t k:Nat} {p:PoM} {x0 x1:Value} {S:Nat→Prop},k<4*n→MD tag m w→ok m t k p→(∀b,S b→b<w.heap.size→tag b≠3)→PoAt S w x0 x1 p→
  Calls Tryz.prog 55 #[.pointer (some ⟨mb,0,none⟩),.int .i64 t,.int .i64 k,.agg #[x0,x1]] w fun e w'=> ∃y0 y1,e=.returned (.agg #[y0,y1])∧Chg (fun b=>tag b=3) w w'∧
   MD (extT w.heap.size tag fun _=>0) (st m t k p) w'∧PoAt (fun b=>w.heap.size≤b) w' y0 y1 (out m t k p)
def RelG (S:Nat→Prop) (w:World):Option (Value×Value)→Option PoM→Prop
 | some v,some p=>PoAt S w v.1 v.2 p
 | none,none=>True
 | _,_=>False
theorem PoAt.ext {tag tag':Nat→Nat} {w w':World} {x0 x1:Value} {p:PoM} (h:PoAt (Snp tag w) w x0 x1 p) (hs:w.heap.size≤w'.heap.size) (hk:∀b,b<w.heap.size→tag b=0→w'.heap[b]? =w.heap[b]?) (ht:Ext w tag tag'):PoAt (Snp tag' w') w' x0 x1 p:=
 (h.keep hs fun b hb hl=>hk b hl hb.1).mono fun b _ hb=>hb.ext hs ht
theorem RelG.ext {tag tag':Nat→Nat} {w w':World}:∀{a:Option (Value×Value)} {b:Option PoM},RelG (Snp tag w) w a b→w.heap.size≤w'.heap.size→(∀b,b<w.heap.size→tag b=0→w'.heap[b]? =w.heap[b]?)→Ext w tag tag'→RelG (Snp tag' w') w' a b
 | some _,some _,h,hs,hk,ht=>PoAt.ext h hs hk ht
 | none,none,_,_,_,_=>trivial
 | some _,none,h,_,_,_=>h.elim
 | none,some _,h,_,_,_=>h.elim
structure WrP where
 wb:Nat
 mb:Nat
 gb:Nat
 lb:Nat→Nat
 wy:Nat→Nat
structure WrX (tag:Nat→Nat) (w:World) (n gc:Nat) (A:WrP) (tk:Int) (Wm:Nat→List PoM) (Gm:Nat→Option PoM):Prop where
 at_:∃(W:Nat→List Cgo) (G:Nat→Option (Value×Value)),WrAt w A.wb A.mb A.gb A.lb A.wy n gc tk W (gvF G)∧
  (∀k,k<4*n→(W k).length=k % 2+1∧(Wm k).length=k % 2+1∧∀(j:Nat) (c:Cgo) (p:PoM),(W k)[j]? =some c→(Wm k)[j]? =some p→PoAt (Snp tag w) w c.x0 c.x1 p)∧
  (∀k,k<4*n→RelG (Snp tag w) w (G k) (Gm k))∧(∀k,4*n≤k→G k=none)
 tg:tag A.wb=2∧tag A.mb=2∧tag A.gb=2∧∀k,k<4*n→tag (A.lb k)=2∧tag (A.wy k)=2
 gm:A.gb≠A.mb
 inj:∀j k,j<4*n→k<4*n→j≠k→A.lb j≠A.lb k∧A.wy j≠A.wy k
section
variable {tag tag':Nat→Nat} {w w':World} {n gc:Nat} {A:WrP} {tk:Int} {Wm:Nat→List PoM} {Gm:Nat→Option PoM}
theorem WrX.lt (h:WrX tag w n gc A tk Wm Gm):A.wb<w.heap.size∧A.mb<w.heap.size∧A.gb<w.heap.size∧∀k,k<4*n→A.lb k<w.heap.size∧A.wy k<w.heap.size:=by
 obtain⟨W,G,h1,-⟩:=h.at_
 obtain⟨c,hm⟩:=h1.m
 exact⟨h1.b.lt,hm.lt,h1.g.lt,fun k hk=>⟨(h1.l k hk).b.lt,(h1.l k hk).g.lt⟩⟩
theorem WrX.keep (h:WrX tag w n gc A tk Wm Gm) (hs:w.heap.size≤w'.heap.size) (hk:∀b,b<w.heap.size→tag b=2∨tag b=0→w'.heap[b]? =w.heap[b]?) (ht:Ext w tag tag'):WrX tag' w' n gc A tk Wm Gm:=by
 have hlt:=h.lt
 obtain⟨W,G,h1,h2,h3,h4⟩:=h.at_
 obtain⟨t1,t2,t3,t4⟩:=h.tg
 refine⟨⟨W,G,h1.keep fun b hl hb=>hk b hl (.inl ?_),fun k hk'=>⟨(h2 k hk').1,(h2 k hk').2.1,fun j c p e1 e2=>((h2 k hk').2.2 j c p e1 e2).ext hs (fun b hl hb=>hk b hl (.inr hb)) ht⟩,fun k hk'=>(h3 k hk').ext hs (fun b hl hb=>hk b hl (.inr hb)) ht,h4⟩,?_,h.gm,h.inj⟩
 ·rcases hb with rfl | rfl | rfl | ⟨k,hk2,rfl | rfl⟩
  ·exact t1
  ·exact t2
  ·exact t3
  ·exact (t4 k hk2).1
  ·exact (t4 k hk2).2
 ·refine⟨(ht _ hlt.1).trans t1,(ht _ hlt.2.1).trans t2,(ht _ hlt.2.2.1).trans t3,fun k hk'=>⟨(ht _ (hlt.2.2.2 k hk').1).trans (t4 k hk').1,(ht _ (hlt.2.2.2 k hk').2).trans (t4 k hk').2⟩⟩
end
def LaX (tag:Nat→Nat) (w:World) (n lc lst:Nat) (Lm:Nat→Option PoM):Prop:=
 (∃L:Nat→Option (Value×Value),MapI Tryz.prog 3 w lst lc (gvF L)∧(∀k,k<4*n→RelG (Snp tag w) w (L k) (Lm k))∧∀k,4*n≤k→L k=none)∧tag lst=4
theorem LaX.keep {tag tag':Nat→Nat} {w w':World} {n lc lst:Nat} {Lm:Nat→Option PoM} (h:LaX tag w n lc lst Lm) (hs:w.heap.size≤w'.heap.size) (hk:∀b,b<w.heap.size→tag b=4∨tag b=0→w'.heap[b]? =w.heap[b]?) (ht:Ext w tag tag'):LaX tag' w' n lc lst Lm:=by
 obtain⟨⟨L,h1,h3,h4⟩,h2⟩:=h
 exact⟨⟨L,h1.keep (hk _ h1.lt (.inl h2)),fun k hk'=>(h3 k hk').ext hs (fun b hl hb=>hk b hl (.inr hb)) ht,h4⟩,(ht _ h1.lt).trans h2⟩
structure NtP where
 b:Nat
 p:Nat
 gl:Nat
 lc:Nat
 og:Nat
 lst:Nat
 wr:WrP
 wrong:Int
structure NtS (σ μ:Type) where
 t:Nat
 s:Nat→σ
 on:Nat→Bool
 W:Nat→List PoM
 G:Nat→Option PoM
 L:Nat→Option PoM
 m:μ
 gc:Nat
 lc:Nat
def onN (n:Nat) (on:Nat→Bool):List Value:=(List.range n).map fun i=> .bool (on i)
theorem onN_at {n:Nat} {on:Nat→Bool} {i:Nat} (h:i<n):(onN n on)[i]? =some (.bool (on i)):=by simp [onN,h]
theorem onN_len (n:Nat) (on:Nat→Bool):(onN n on).length=n:=by simp [onN]
def netCells (n mb:Nat) (A:NtP) (t:Nat):List Value:=[.pointer (some ⟨A.p,0,none⟩),.slice (some ⟨A.gl,0,none⟩) n A.lc,.slice (some ⟨A.og,0,none⟩) n n,.pointer (some ⟨A.wr.wb,0,none⟩),.pointer (some ⟨mb,0,none⟩),.int .i64 A.wrong,.map (some A.lst),.int .i64 t]
structure NbX (tag:Nat→Nat) (w:World) (n mb:Nat) (nb:Nat→Nat) (A:NtP) (t:Nat) (on:Nat→Bool):Prop where
 b:Blk w A.b 56 (netCells n mb A t).toArray
 c:w.cell? ⟨A.p,0,none⟩=some (.int .i64 n)
 sg:SgW w
 gl:∃cur:Array Value,Blk w A.gl 69 cur∧n≤cur.size∧∀i,i<n→cur[i]? =some (.pointer (some ⟨nb i,0,none⟩))
 lc:n≤A.lc∧A.lc≤maxLen
 og:Blk w A.og 4 (onN n on).toArray
 tg:tag A.b=1∧tag A.gl=1∧tag A.og=1∧tag A.p=0∧tag 0=0
theorem NbX.lt {tag:Nat→Nat} {w:World} {n mb:Nat} {nb:Nat→Nat} {A:NtP} {t:Nat} {on:Nat→Bool} (h:NbX tag w n mb nb A t on):A.b<w.heap.size∧A.gl<w.heap.size∧A.og<w.heap.size∧A.p<w.heap.size∧0<w.heap.size:=by
 obtain⟨cur,hg,-⟩:=h.gl
 exact⟨h.b.lt,hg.lt,h.og.lt,World.block_lt_of_cell? w _ h.c,h.sg.lt⟩
theorem SgW.keep_ {w w':World} (h:SgW w) (hk:w'.heap[(0:Nat)]? =w.heap[(0:Nat)]?):SgW w':=⟨(World.cell?_of_block (a:=⟨0,0,none⟩) hk).trans h.1,(World.cell?_of_block (a:=⟨0,1,none⟩) hk).trans h.2⟩
theorem NbX.keep {tag tag':Nat→Nat} {w w':World} {n mb:Nat} {nb:Nat→Nat} {A:NtP} {t:Nat} {on:Nat→Bool} (h:NbX tag w n mb nb A t on) (hs:w.heap.size≤w'.heap.size) (hk:∀b,b<w.heap.size→tag b=1∨tag b=0→w'.heap[b]? =w.heap[b]?) (ht:Ext w tag tag'):NbX tag' w' n mb nb A t on:=by
 have hlt:=h.lt
 obtain⟨t1,t2,t3,t4,t5⟩:=h.tg
 obtain⟨cur,hg,hg2,hg3⟩:=h.gl
 exact⟨(hk _ hlt.1 (.inl t1)).trans h.b,(World.cell?_of_block (a:=⟨A.p,0,none⟩) (hk _ hlt.2.2.2.1 (.inr t4))).trans h.c,h.sg.keep_ (hk _ hlt.2.2.2.2 (.inr t5)),⟨cur,(hk _ hlt.2.1 (.inl t2)).trans hg,hg2,hg3⟩,h.lc,(hk _ hlt.2.2.1 (.inl t3)).trans h.og,
  ⟨(ht _ hlt.1).trans t1,(ht _ hlt.2.1).trans t2,(ht _ hlt.2.2.1).trans t3,(ht _ hlt.2.2.2.1).trans t4,(ht _ hlt.2.2.2.2).trans t5⟩⟩
structure NtAt {n:Nat} (N:NodeSp n) (M:MouthSp n) (tag:Nat→Nat) (w:World) (A:NtP) (T:NtS N.σ M.μ):Prop where
 bx:NbX tag w n M.mb N.nb A T.t T.on
 wx:WrX tag w n T.gc A.wr T.t T.W T.G
 mx:M.MD tag T.m w
 nx:∀i,i<n→N.ND tag i (T.s i) w
 lx:LaX tag w n T.lc A.lst T.L
section
variable {n:Nat} {N:NodeSp n} {M:MouthSp n} {tag tag':Nat→Nat} {w w':World} {A:NtP} {T:NtS N.σ M.μ}
theorem NtAt.below (h:NtAt N M tag w A T) (hb:Below w.heap.size w w') (ht:Ext w tag tag'):NtAt N M tag' w' A T:=
 ⟨h.bx.keep hb.size (fun b hl _=>hb.block b hl) ht,h.wx.keep hb.size (fun b hl _=>hb.block b hl) ht,M.keep h.mx hb.size (fun b hl _=>hb.block b hl) ht,fun i hi=>N.keep hi (h.nx i hi) hb.size (fun b hl _=>hb.block b hl) ht,h.lx.keep hb.size (fun b hl _=>hb.block b hl) ht⟩
theorem NtAt.chg {S:Nat→Prop} (h:NtAt N M tag w A T) (hc:Chg S w w') (hS:∀b,b<w.heap.size→S b→98≤tag b) (hn:n≤16) (ht:Ext w tag tag'):NtAt N M tag' w' A T:=by
 have hk:∀j,j<98→∀b,b<w.heap.size→tag b=j∨tag b=0→w'.heap[b]? =w.heap[b]?:=fun j hj b hl hb=>hc.block b hl (fun e=>by have:=hS b hl e;omega)
 exact⟨h.bx.keep hc.size (hk 1 (by omega)) ht,h.wx.keep hc.size (hk 2 (by omega)) ht,M.keep h.mx hc.size (hk 3 (by omega)) ht,fun i hi=>N.keep hi (h.nx i hi) hc.size (hk (i+10) (by omega)) ht,h.lx.keep hc.size (hk 4 (by omega)) ht⟩
end
end Go.Proofs.YtdilbjikeilhbaaGreatDoor
