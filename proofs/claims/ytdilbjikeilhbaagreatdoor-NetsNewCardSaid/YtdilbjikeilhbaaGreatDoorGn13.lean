import Derived.Test.YtdilbjikeilhbaaGreatDoorGn12
import Derived.Test.YtdilbjikeilhbaaGreatDoorGn09
import Derived.Test.YtdilbjikeilhbaaGreatDoorGn01
import Derived.Test.YtdilbjikeilhbaaGreatDoorGn02
namespace Go.Proofs.YtdilbjikeilhbaaGreatDoor
open Go.RowKit
set_option linter.unusedVariables false
set_option linter.unusedSimpArgs false
structure MR (w:World) (s:Nat) (l:List Rw) (k:Nat) (wr:World):Prop where
 map:∃es clock,MapB wr (w.heap.size+1) cellK es clock∧∀c,valE es c=(cntL s l k c:Int)
 b0:Blk wr w.heap.size 204 heldZ.toArray
 bel:Below w.heap.size w wr
 sz:w.heap.size+1+1≤wr.heap.size
theorem MR.skip {w:World} {s:Nat} {l:List Rw} {k:Nat} {wr w2:World} (h:MR w s l k wr) (hB:Below wr.heap.size wr w2) (hno:¬(k≠s∧(hasC l k s).isSome=true)):MR w s l (k+1) w2∧∀c,cntL s l (k+1) c=cntL s l k c:=by
 have e:∀c,cntL s l (k+1) c=cntL s l k c:=fun c=>by
  show cntL s l k c+_=_
  rw [if_neg (fun h=>hno ⟨h.1,by rw [h.2];rfl⟩)];rfl
 obtain⟨⟨es,clock,hm,hv⟩,h0,hb,hs⟩:=h
 have hsz:=hB.size
 refine⟨⟨⟨es,clock,hm.of_block (hB.block _ (by omega)),fun c=>by rw [hv c,e c]⟩,h0.below hB (by omega),hb.trans (hB.mono (by omega)),by omega⟩,e⟩
@[go_sem ↓] theorem min_two (ats:Array TypeId) (ty:TypeId) (x y:Nat):Builtin.min_ ats ty #[.int .i64 (x:Int),.int .i64 (y:Int)]=pure (.int .i64 ((min x y:Nat):Int)):=by
 simp only [Builtin.min_,List.foldlM,Builtin.min2]
 by_cases h:y<x
 ·have h1:(y:Int)<(x:Int):=by omega
  rw [Nat.min_eq_right (by omega)]
  simp [h1]
 ·have h1:¬(y:Int)<(x:Int):=by omega
  rw [Nat.min_eq_left (by omega)]
  simp [h1]
set_option maxRecDepth 100000 in
set_option maxHeartbeats 8000000 in
theorem most_any (S:Nat→Prop) (n s:Nat) (hn:4≤n∧n≤16) (hs:s<n) (a:Option Addr) (len cap:Nat) (l:List Rw) (w:World) (hrd:RdRs S w a len l) (hm1:len≤cap) (hm2:cap≤maxLen) :
 Calls Tryz.prog 144 #[.int .i64 n,.int .i64 s,.slice a len cap] w fun e w'=> ∃h,e=.returned (.agg h.vals.toArray)∧MostP n s l (min n len) h∧Below w.heap.size w w':=by
 unfold maxLen at hm2
 have hll:l.length=len:=hrd.1
 obtain⟨M,hM⟩:∃M,M=min n len:=⟨_,rfl⟩
 rw [←hM]
 have hst:MR w s l 0 ((w.alloc (.cells heldZ.toArray 204)).alloc (.map #[] 0)):=by
  have h:=new_map (w.alloc (.cells heldZ.toArray 204))
  have e:(w.alloc (.cells heldZ.toArray 204)).heap.size=w.heap.size+1:=by simp
  rw [e] at h
  exact⟨⟨_,_,h,fun c=>rfl⟩,(Blk.new _ _ _).alloc _,((Below.refl _ _).alloc (Nat.le_refl _) _).alloc (by simp) _,by simp⟩
 have HR:=Lib.hid hrd
 clear hrd
 go_enter Tryz.func144,Tryz.ntmps144
 go_upto_region 2 with fail
 generalize ((w.alloc (.cells heldZ.toArray 204)).alloc (.map #[] 0))=w1 at hst ⊢
 have H1:=Lib.hid hst
 clear hst
 have hMn:M≤n:=by omega
 have hMl:M≤len:=by omega
 have hMx:=hM.symm
 clear hM
 go_upto_region 3 with fail
 have HM:=Lib.hid hMx
 clear hMx
 go_loopw [19] (fun i wr=> ∃k:Nat,k≤M∧i=.int .i64 k∧(∀c,2*cntL s l k c≤n - 1)∧MR w s l k wr) (fun i _=>M - (intOf i).toNat)
 case atStart=>exact⟨0,by omega,rfl,fun c=>by simp [cntL],H1.out⟩
 case round=>
  obtain⟨k,hk,rfl,hc,hr⟩:=hrel
  by_cases hlt:k<M
  ·obtain⟨b,off,x,m,cp,r,rfl,hS,hbw,hv,hok,hrl,hrc1,hr1,hr2,-,-,hr5,hr6,hr7⟩:=HR.out.at_ k (by omega)
   have d:=row_below hr.bel (p:=⟨b,off+k*57,none⟩) hbw 57
   have d1:=d.1.trans hr1
   have d2:rowOf wr ⟨b,off+k*57,none⟩ 57=r.vals (.slice x m cp):=d.2.trans hr2
   have hvl:=Rw.len hok (.slice x m cp)
   have hvc:(r.vals (.slice x m cp)).all cell1=true:=RowR.cell1 (S:=S) (w:=w) ⟨x,m,cp,rfl,hr5,hr6,hr7⟩ hok
   have hrd5:=hr5.below hr.bel (fun _ _ h=>h)
   have hml:r.t.length=m:=hr5.1
   have hkl:k<len:=by omega
   have HH:=Lib.hid (And.intro hc (And.intro hr (And.intro hv (And.intro hrd5 hml))))
   clear d hr1 hr2 hr5 hc hr hv hrd5 hml hrl hrc1
   go_upto_region 5 with fail
   have hB2:Below wr.heap.size wr (wr.alloc (.cells (r.vals (.slice x m cp)).toArray 134)):=(Below.refl _ _).alloc (Nat.le_refl _) _
   have hbk:Blk (wr.alloc (.cells (r.vals (.slice x m cp)).toArray 134)) wr.heap.size 134 (r.vals (.slice x m cp)).toArray:=Blk.new _ _ _
   have hs2:(wr.alloc (.cells (r.vals (.slice x m cp)).toArray 134)).heap.size=wr.heap.size+1:=by simp
   generalize wr.alloc (.cells (r.vals (.slice x m cp)).toArray 134)=w2 at hB2 hbk hs2 ⊢
   obtain⟨f0,-,-,f3,-⟩:=blk_row hbk hok
   have hfin:(¬(k≠s∧(hasC l k s).isSome=true))→∃k':Nat,k'≤M∧Value.int .i64 ((k:Int)+1)=.int .i64 k'∧(∀c,2*cntL s l k' c≤n - 1)∧MR w s l k' w2:=fun hno=>by
    obtain⟨hc,hr,-⟩:=HH.out
    obtain⟨p1,p2⟩:=hr.skip hB2 hno
    exact⟨k+1,by omega,by simp,fun c=>by rw [p2 c];exact hc c,p1⟩
   have HF:=Lib.hid (And.intro hfin (And.intro hB2 (And.intro hbk hs2)))
   clear hfin hB2 hbk hs2
   by_cases hks:k=s
   ·subst hks
    have hksb:(k:Int)=(k:Int):=rfl
    go_wp2_with fail
    exact⟨HF.out.1 (fun h=>h.1 rfl),by simp [intOf];omega⟩
   ·have hksb:((k:Int)==(s:Int))=false:=by simp;omega
    by_cases his:r.is=true
    ·by_cases hsm:s<m
     ·have hsm1:¬(m:Int)≤(s:Int):=by omega
      obtain⟨b',off',ih,n',rr,rfl,hS',hbw',hv',hok',hrl',hrc',hr1,hr2,hr3,hr4,hr5,-⟩:=HH.out.2.2.2.1.at_ s hsm
      have d:=row_below HF.out.2.1 (p:=⟨b',off'+s*56+1,none⟩) hbw' 55
      have d3:=d.1.trans hr3
      have d4:=d.2.trans hr4
      have d5:w2.cell? ⟨b',off'+s*56,none⟩=some (.bool ih):=(HF.out.2.1.cell (p:=⟨b',off'+s*56,none⟩) hbw').trans hr5
      have hh:hasC l k s=if ih then some (.int .i64 n' :: rr) else none:=by
       unfold hasC
       rw [HH.out.2.2.1]
       simp only [his,if_true,hv']
      obtain⟨cc,hcc⟩:∃cc,cc=Value.int .i64 n' :: rr:=⟨_,rfl⟩
      rw [←hcc] at hh d4 hok'
      have hl55:cc.length=55:=(okL_len hok').trans len_cellK
      have hc55:=okL_cell1 hok'
      have HX:=Lib.hid (And.intro hh hok')
      clear d hr1 hr2 hr3 hr4 hr5 hv' hh hok' hrc' hcc
      cases ih with
      | false=>
        go_wp2_with fail
        exact⟨HF.out.1 (fun h=>by have:=h.2;rw [HX.out.1] at this;cases this),by simp [intOf];omega⟩
      | true=>
        go_upto_region 7 with fail
        have hB3:Below wr.heap.size wr (w2.alloc (.cells cc.toArray 131)):=HF.out.2.1.alloc (by rw [HF.out.2.2.2];omega) _
        have hbk3:Blk (w2.alloc (.cells cc.toArray 131)) w2.heap.size 131 cc.toArray:=Blk.new _ _ _
        generalize w2.alloc (.cells cc.toArray 131)=w3 at hB3 hbk3 ⊢
        obtain⟨⟨es,clock,hmp,hmv⟩,hb0,hbel,hsz⟩:=HH.out.2.1
        have hsz3:=hB3.size
        have hcn:=HH.out.1 cc
        obtain⟨eb,wA,wB,es2,c2,e1,e2,e3,hm2',hv1,hv2,hc1,hc2⟩:=count_cell HX.out.2 (w:=w3.drew) ((hmp.of_block (hB3.block _ (by omega))).of_block (w':=w3.drew) rfl)
        have hq16:cntL s l k cc≤k:=cntL_le s l cc k
        have hkn:cntL s l (k+1) cc=cntL s l k cc+1:=by
         show cntL s l k cc+_=_
         rw [if_pos ⟨hks,by rw [HX.out.1];rfl⟩]
        have hko:∀c,c≠cc→cntL s l (k+1) c=cntL s l k c:=fun c hc=>by
         show cntL s l k c+_=_
         rw [if_neg (fun h=>hc (by have:=h.2;rw [HX.out.1] at this;simpa using this.symm))];rfl
        have hvB:∀c,valE es2 c=(cntL s l (k+1) c:Int):=fun c=>by
         by_cases h:c=cc
         ·subst h;rw [hv1,hmv,hkn];simp
         ·rw [hv2 c h,hmv,hko c h]
        have e4:=look_cell HX.out.2 ((hmp.of_block (hB3.block _ (by omega))).of_block (w':=w3.drew) rfl)
        rw [hmv cc] at e1 e2 e3 e4
        have hB4:Below w.heap.size w wB:=by
         have h1:=hbel.trans ((hB3.mono (by omega)))
         exact⟨hc2.os.trans h1.os,hc2.tape.trans h1.tape,hc2.output.trans h1.output,Nat.le_trans h1.size hc2.size,fun b hb=>(hc2.block b (by have:=h1.size;exact Nat.lt_of_lt_of_le hb this) (by omega)).trans (h1.block b hb)⟩
        have look:=look_cell HX.out.2 hm2'
        rw [hvB cc,hkn] at look
        generalize hq:cntL s l k cc=q at hq16 hkn e1 e2 e3 e4 look hcn
        have hlt2:w2.heap.size<w3.heap.size:=hbk3.lt
        have hB0:Blk wB w.heap.size 204 heldZ.toArray:=by
         have h1:Blk w3 w.heap.size 204 heldZ.toArray:=hb0.below hB3 (by omega)
         exact (hc2.block _ h1.lt (by omega)).trans h1
        have hwr2:w2.heap.size=wr.heap.size+1:=HF.out.2.2.2
        have hbkA:Blk wA w2.heap.size 131 cc.toArray:=(hc1.block _ hlt2 (by omega)).trans hbk3
        have hbkB:Blk wB w2.heap.size 131 cc.toArray:=(hc2.block _ hlt2 (by omega)).trans hbk3
        obtain⟨r1,r2,-⟩:=Blk.whole (w:=w3.drew) (n:=55) hbk3 hl55
        obtain⟨r3,r4,-⟩:=hbkB.whole (n:=55) hl55
        have hszB:w.heap.size+1+1≤wB.heap.size:=by have:=hc2.size;have:w3.drew.heap.size=w3.heap.size:=rfl;omega
        have hmr:MR w s l (k+1) wB:=⟨⟨es2,c2,hm2',hvB⟩,hB0,hB4,hszB⟩
        have k6:=hB0.put_all (l:=Value.bool true :: cc) (by simp [hl55];rfl)
        have hv56:(Value.bool true :: cc).length=56:=by simp [hl55]
        obtain⟨p1,p2,-⟩:=k6.whole (n:=56) hv56
        obtain⟨p3,p4,p5⟩:=hB0.whole (n:=56) len_heldZ
        have hBf:=Below.put hB4 (p:=⟨w.heap.size,0,none⟩) (Nat.le_refl _) (Value.bool true :: cc)
        have HZ:=Lib.hid (And.intro hmr (And.intro p1 (And.intro p2 (And.intro hBf (And.intro hkn (And.intro hko hcn))))))
        have hc56:(Value.bool true :: cc).all cell1=true:=by simp [hc55,cell1]
        clear hmr p1 p2 hBf k6 hB3 hbk3 hmp hmv hb0 hbel hsz hm2' hv1 hv2 hc1 hc2 hvB hB4 hB0 hbkA hbkB hkn hko hcn hq hwr2
        go_region
        rw [show ((q+1:Nat):Int)=(q:Int)+1 from by omega] at look
        by_cases hbig:(n:Int) - 1<2*((q:Int)+1)
        ·have hbigb:decide ((n:Int) - 1<2*((q:Int)+1))=true:=by simpa using hbig
         go_wp2_with fail
         try simp only [Exit.inBlock,Exit.then]
         first | refine bodyPost_ret (ret_row (n:=56) rfl (by kernel_rfl) _ _ _ rfl ?_) rfl ?_ | refine bodyPost_end (ret_row (n:=56) rfl (by kernel_rfl) _ _ _ rfl ?_) rfl ?_
         ·exact HZ.out.2.1
         ·rw [HZ.out.2.2.1]
          refine⟨⟨true,cc⟩,rfl,.inl ⟨cc,rfl,HX.out.2,?_⟩,HZ.out.2.2.2.1⟩
          have h1:=cntL_mono s l cc (k:=k+1) (j:=M) (by omega)
          have h2:=HZ.out.2.2.2.2.1
          omega
        ·have hbigb:decide ((n:Int) - 1<2*((q:Int)+1))=false:=by simpa using hbig
         have hno:∀c,2*cntL s l (k+1) c≤n - 1:=fun c=>by
          by_cases h:c=cc
          ·subst h;rw [HZ.out.2.2.2.2.1];omega
          ·rw [HZ.out.2.2.2.2.2.1 c h];exact HH.out.1 c
         have HN:=Lib.hid hno
         clear hno
         go_wp2_with fail
         exact⟨⟨k+1,by omega,by go_num,HN.out,HZ.out.1⟩,by simp [intOf];omega⟩
     ·have hsm1:(m:Int)≤(s:Int):=by omega
      have hno:r.t[s]? =none:=List.getElem?_eq_none (by rw [HH.out.2.2.2.2];omega)
      have hh:hasC l k s=none:=by
       unfold hasC
       rw [HH.out.2.2.1]
       simp only [his,if_true,hno]
      have HX:=Lib.hid hh
      clear hh hno
      go_wp2_with fail
      exact⟨HF.out.1 (fun h=>by have:=h.2;rw [HX.out] at this;cases this),by simp [intOf];omega⟩
    ·have hh:hasC l k s=none:=by
      unfold hasC
      rw [HH.out.2.2.1]
      simp only [his,if_false];rfl
     have HX:=Lib.hid hh
     clear hh
     go_wp2_with fail
     exact⟨HF.out.1 (fun h=>by have:=h.2;rw [HX.out] at this;cases this),by simp [intOf];omega⟩
  ·have hkM:k=M:=by omega
   subst hkM
   have HC:=Lib.hid hc
   obtain⟨q1,q2,q3⟩:=hr.b0.whole (n:=56) len_heldZ
   have k6:=hr.b0.put_all (l:=heldZ) rfl
   obtain⟨p1,p2,-⟩:=k6.whole (n:=56) len_heldZ
   have hB:=Below.put hr.bel (p:=⟨w.heap.size,0,none⟩) (Nat.le_refl _) heldZ
   have HF:=Lib.hid (And.intro p1 (And.intro p2 hB))
   have hz1:heldZ.all cell1=true:=by kernel_rfl
   clear hc hr q1 q2 k6 p1 p2 hB
   go_wp2_with fail
   try simp only [Exit.inBlock,Exit.then]
   first | refine bodyPost_ret (ret_row (n:=56) rfl (by kernel_rfl) _ _ _ rfl ?_) rfl ?_ | refine bodyPost_end (ret_row (n:=56) rfl (by kernel_rfl) _ _ _ rfl ?_) rfl ?_
   ·exact HF.out.1
   ·rw [HF.out.2.1]
    exact⟨hd0,by rw [hd0_vals],.inr ⟨rfl,HC.out⟩,HF.out.2.2⟩
def VecV (B:Nat) (L:List Hd) (v:Value) (w:World):Prop:=(∃g,v=.slice (some ⟨g,0,none⟩) L.length L.length∧Blk w g 204 (flatH L).toArray∧B≤g)∨(L=[]∧v=.slice none 0 0)
def VecPost (L:List Hd) (w:World) (e:Ending) (w':World):Prop:=(∃v,e=.returned v∧VecV w.heap.size L v w')∧Below w.heap.size w w'
theorem VecV.rd {B:Nat} {L:List Hd} {v:Value} {w:World} (hL:∀x ∈ L,x.ok) (h:VecV B L v w):∃a,v=.slice a L.length L.length∧RdHs (B≤·) w a L.length L:=by
 rcases h with ⟨g,rfl,hb,hg⟩ | ⟨rfl,rfl⟩
 ·have h3:Blk w g 204 (flatH L++ []).toArray:=by simpa using hb
  exact⟨_,rfl,(RdHs.of_blk h3 hL).mono (fun b _ h=>by omega)⟩
 ·exact⟨none,rfl,⟨rfl,by simp,by simp⟩⟩
theorem VecV.keep {B:Nat} {L:List Hd} {v:Value} {w w':World} (h:VecV B L v w) (hk:∀b,B≤b→b<w.heap.size→w'.heap[b]? =w.heap[b]?):VecV B L v w':=by
 rcases h with ⟨g,rfl,hb,hg⟩ | ⟨rfl,rfl⟩
 ·exact .inl ⟨g,rfl,(hk g hg hb.lt).trans hb,hg⟩
 ·exact .inr ⟨rfl,rfl⟩
open Classical in
noncomputable def mostH (n s:Nat) (l:List Rw) (M:Nat):Hd:=if h:∃c,okL cellK c=true∧n - 1<2*cntL s l M c then ⟨true,Classical.choose h⟩ else hd0
theorem MostP.eq {n s:Nat} {l:List Rw} {M:Nat} (hs:s<n) (hM:M≤n) {h:Hd} (p:MostP n s l M h):h=mostH n s l M:=by
 refine p.unique hs hM ?_
 unfold mostH
 split
 ·rename_i hx
  exact .inl ⟨_,rfl,(Classical.choose_spec hx).1,(Classical.choose_spec hx).2⟩
 ·rename_i hx
  refine .inr ⟨rfl,?_⟩
  rcases p with ⟨c,-,h1,h2⟩ | ⟨-,h1⟩
  ·exact absurd ⟨c,h1,h2⟩ hx
  ·exact h1
theorem mostH_ok (n s:Nat) (l:List Rw) (M:Nat):(mostH n s l M).ok:=by
 unfold mostH
 split
 ·rename_i hx;exact (Classical.choose_spec hx).1
 ·exact hd0_ok
noncomputable def agreeL (n:Int) (l:List Rw):List Hd:=if 4≤n∧n≤16 then (List.range n.toNat).map (fun s=>mostH n.toNat s l (min n.toNat l.length)) else []
def tabL (l:List Rw):List Hd:=l.map fun r=>⟨r.is,r.c⟩
theorem agreeL_ok {n:Int} {l:List Rw}:∀x ∈ agreeL n l,x.ok:=fun x hx=>by
 unfold agreeL at hx
 split at hx
 ·obtain⟨s,-,rfl⟩:=List.mem_map.1 hx
  exact mostH_ok _ _ _ _
 ·cases hx
theorem tabL_ok {l:List Rw} (h:∀r ∈ l,r.ok):∀x ∈ tabL l,x.ok:=fun x hx=>by
 obtain⟨r,hr,rfl⟩:=List.mem_map.1 hx
 exact (h r hr).1
def parH (N k:Nat) (L:List Hd):List Hd:=L.take k++List.replicate (N - k) hd0
theorem parH_len {N k:Nat} {L:List Hd} (h1:k≤N) (h2:k≤L.length):(parH N k L).length=N:=by simp [parH];omega
theorem parH_ok {N k:Nat} {L:List Hd} (h:∀x ∈ L,x.ok):∀x ∈ parH N k L,x.ok:=fun x hx=>by
 rcases List.mem_append.1 hx with hx | hx
 ·exact h x (List.mem_of_mem_take hx)
 ·rw [List.eq_of_mem_replicate hx];exact hd0_ok
theorem parH_set {N k:Nat} {L:List Hd} {x:Hd} (h1:k<N) (hx:L[k]? =some x):(parH N k L).set k x=parH N (k+1) L:=by
 have h2:k<L.length:=(List.getElem?_eq_some_iff.1 hx).1
 unfold parH
 rw [List.take_add_one,hx]
 have e:N - k=(N - (k+1))+1:=by omega
 rw [e,List.replicate_succ,List.set_append,if_neg (by simp;omega)]
 have e2:k - (L.take k).length=0:=by simp;omega
 rw [e2]
 simp
theorem parH_end (L:List Hd):parH L.length L.length L=L:=by simp [parH]
structure PV (w:World) (N k:Nat) (L:List Hd) (wr:World):Prop where
 blk:Blk wr w.heap.size 204 (flatH (parH N k L)).toArray
 bel:Below w.heap.size w wr
theorem PV.start (w:World) (N:Nat) (L:List Hd):PV w N 0 L (w.alloc (.cells (zrep heldZ N).toArray 204)):=by
 refine⟨?_,(Below.refl _ _).alloc (Nat.le_refl _) _⟩
 rw [flatH_rep]
 have:parH N 0 L=List.replicate N hd0:=by simp [parH]
 rw [this]
 exact Blk.new _ _ _
theorem PV.step {w:World} {N k:Nat} {L:List Hd} {wr w1:World} (h:PV w N k L wr) (hb:Below wr.heap.size wr w1) (hL:∀x ∈ L,x.ok) (hN:N=L.length) {x:Hd} (hx:L[k]? =some x) :
 canPut w1 ⟨w.heap.size,k*56,none⟩ 56=true∧PV w N (k+1) L (putRow w1 ⟨w.heap.size,k*56,none⟩ x.vals):=by
 have h2:k<L.length:=(List.getElem?_eq_some_iff.1 hx).1
 have hlen:=len_flatH (parH_ok (N:=N) (k:=k) hL)
 rw [parH_len (by omega) (by omega)] at hlen
 have hbk:=h.blk.below hb h.blk.lt
 have hfs:=flatH_set (parH_ok (N:=N) (k:=k) hL) (k:=k) (by rw [parH_len (by omega) (by omega)];omega) x (hL x (List.mem_of_getElem? hx))
 rw [parH_set (by omega) hx] at hfs
 refine⟨?_,?_,Below.put (h.bel.trans (hb.mono h.bel.size)) (p:=⟨w.heap.size,k*56,none⟩) (Nat.le_refl _) x.vals⟩
 ·obtain⟨-,-,-,-,h5⟩:=hbk.rules
  rw [h5,hlen]
  have:(k+1)*56≤N*56:=Nat.mul_le_mul_right _ (by omega)
  simp;omega
 ·have:=hbk.put (k*56) x.vals
  rw [←hfs];exact this
theorem PV.post {w:World} {L:List Hd} {wr:World} (h:PV w L.length L.length L wr):VecPost L w (.returned (.slice (some ⟨w.heap.size,0,none⟩) L.length L.length)) wr:=by
 obtain⟨h1,h2⟩:=h
 rw [parH_end] at h1
 exact⟨⟨_,rfl,.inl ⟨_,rfl,h1,Nat.le_refl _⟩⟩,h2⟩
set_option maxRecDepth 100000 in
set_option maxHeartbeats 2000000 in
theorem agree_any (S:Nat→Prop) (n:Int) (a:Option Addr) (len cap:Nat) (l:List Rw) (w:World) (hrd:RdRs S w a len l) (hm1:len≤cap) (hm2:cap≤maxLen) :
 Calls Tryz.prog 101 #[.int .i64 n,.slice a len cap] w (VecPost (agreeL n l) w):=by
 have hll:l.length=len:=hrd.1
 by_cases hr:4≤n∧n≤16
 ·obtain⟨N,rfl⟩:∃N:Nat,n=N:=⟨n.toNat,by omega⟩
  have hA:agreeL N l=(List.range N).map (fun s=>mostH N s l (min N len)):=by
   unfold agreeL
   rw [if_pos hr];simp [hll]
  have hAo:=agreeL_ok (n:=N) (l:=l)
  generalize agreeL N l=L at hA hAo ⊢
  have hLl:N=L.length:=by rw [hA];simp
  have hat:∀k,k<N→L[k]? =some (mostH N k l (min N len)):=fun k hk=>by rw [hA];simp [hk]
  have hN4:4≤N:=by omega
  have hN16:N≤16:=by omega
  have hN1:N≤1048576:=by omega
  have hb1:¬(N:Int)<4:=by omega
  have hb2:¬16<(N:Int):=by omega
  have hst:=PV.start w N L
  have HH:=Lib.hid (And.intro hrd (And.intro hAo (And.intro hLl hat)))
  clear hrd hA hAo hLl hat hr
  go_enter Tryz.func101,Tryz.ntmps101
  go_upto_region 5 with fail
  generalize w.alloc (.cells (zrep heldZ N).toArray 204)=w1 at hst ⊢
  have H1:=Lib.hid hst
  clear hst
  go_loopw [17] (fun i wr=> ∃k:Nat,k≤N∧i=.int .i64 k∧PV w N k L wr) (fun i _=>N - (intOf i).toNat)
  case atStart=>exact⟨0,by omega,rfl,H1.out⟩
  case round=>
   obtain⟨k,hk,rfl,hr⟩:=hrel
   by_cases hlt:k<N
   ·have hcall:=most_any S N k ⟨hN4,hN16⟩ hlt a len cap l wr (HH.out.1.below hr.bel (fun _ _ h=>h)) hm1 hm2
    have HC:=Lib.hid (And.intro hcall hr)
    clear hcall hr
    go_wp2_with fail
    refine HC.out.1.mono ?_
    rintro e w2 ⟨x,rfl,hx,hb2'⟩
    have hxe:=hx.eq hlt (Nat.min_le_left _ _)
    have hxo:x.ok:=by rw [hxe];exact mostH_ok _ _ _ _
    have hxl:=Hd.vals_len hxo
    have hxc:=Hd.cell1 hxo
    obtain⟨p1,p2⟩:=HC.out.2.step hb2' HH.out.2.1 HH.out.2.2.1 (x:=x) (by rw [hxe];exact HH.out.2.2.2 k hlt)
    have H2:=Lib.hid p2
    clear p2 hx hxe hxo hb2'
    go_wp2
    exact⟨⟨k+1,by omega,by go_num,H2.out⟩,by simp [intOf];omega⟩
   ·have hkN:k=N:=by omega
    subst hkN
    have H2:=Lib.hid hr
    clear hr
    go_wp2
    go_ret
    have h1:=H2.out
    rw [HH.out.2.2.1] at h1 ⊢
    exact h1.post
 ·have hA:agreeL n l=[]:=by unfold agreeL;rw [if_neg hr]
  rw [hA]
  have HF:=Lib.hid (show VecPost [] w (.returned (.slice none 0 0)) w from ⟨⟨_,rfl,.inr ⟨rfl,rfl⟩⟩,Below.refl _ _⟩)
  by_cases h4:n<4
  ·go_enter Tryz.func101,Tryz.ntmps101
   go_wp2
   go_ret
   exact HF.out
  ·have h16:16<n:=by omega
   go_enter Tryz.func101,Tryz.ntmps101
   go_wp2
   go_ret
   exact HF.out
set_option maxRecDepth 100000 in
set_option maxHeartbeats 2000000 in
theorem table_any (S:Nat→Prop) (a:Option Addr) (len cap:Nat) (l:List Rw) (w:World) (hrd:RdRs S w a len l) (hm1:len≤cap) (hm2:cap≤maxLen) (hsm:len≤100000) :
 Calls Tryz.prog 109 #[.slice a len cap] w (VecPost (tabL l) w):=by
 have hll:l.length=len:=hrd.1
 have hTo:=tabL_ok hrd.2.1
 have hTl:len=(tabL l).length:=by simp [tabL,hll]
 have hat:∀(k:Nat) (r:Rw),l[k]? =some r→(tabL l)[k]? =some ⟨r.is,r.c⟩:=fun k r hk=>by simp [tabL,hk]
 generalize tabL l=L at hTo hTl hat ⊢
 have hN1:len≤1048576:=by omega
 have hst:=PV.start w len L
 have HH:=Lib.hid (And.intro hrd (And.intro hTo (And.intro hTl hat)))
 clear hrd hTo hTl hat
 unfold maxLen at hm2
 go_enter Tryz.func109,Tryz.ntmps109
 go_upto_region 3 with fail
 generalize w.alloc (.cells (zrep heldZ len).toArray 204)=w1 at hst ⊢
 have H1:=Lib.hid hst
 clear hst
 go_loopw [11] (fun i wr=> ∃k:Nat,k≤len∧i=.int .i64 k∧PV w len k L wr) (fun i _=>len - (intOf i).toNat)
 case atStart=>exact⟨0,by omega,rfl,H1.out⟩
 case round=>
  obtain⟨k,hk,rfl,hr⟩:=hrel
  by_cases hlt:k<len
  ·obtain⟨b,off,x,m,cp,r,rfl,hS,hbw,hv,hok,hrl,hrc1,hr1,hr2,-,-,hr5,hr6,hr7⟩:=HH.out.1.at_ k hlt
   have d:=row_below hr.bel (p:=⟨b,off+k*57,none⟩) hbw 57
   have d1:=d.1.trans hr1
   have d2:rowOf wr ⟨b,off+k*57,none⟩ 57=r.vals (.slice x m cp):=d.2.trans hr2
   have hvl:=Rw.len hok (.slice x m cp)
   have hvc:(r.vals (.slice x m cp)).all cell1=true:=RowR.cell1 (S:=S) (w:=w) ⟨x,m,cp,rfl,hr5,hr6,hr7⟩ hok
   have HR:=Lib.hid (And.intro hr hv)
   clear d hr1 hr2 hr5 hr hv hrl
   go_upto_region 5 with fail
   have hB2:Below wr.heap.size wr (wr.alloc (.cells (r.vals (.slice x m cp)).toArray 134)):=(Below.refl _ _).alloc (Nat.le_refl _) _
   have hbk:Blk (wr.alloc (.cells (r.vals (.slice x m cp)).toArray 134)) wr.heap.size 134 (r.vals (.slice x m cp)).toArray:=Blk.new _ _ _
   generalize wr.alloc (.cells (r.vals (.slice x m cp)).toArray 134)=w2 at hB2 hbk ⊢
   obtain⟨f0,f1,f2,-⟩:=blk_row hbk hok
   have hcl:r.c.length=55:=(okL_len hok.1).trans len_cellK
   have hyc:(Value.bool r.is :: r.c).all cell1=true:=by simp [hrc1,cell1]
   have hyl:(Value.bool r.is :: r.c).length=56:=by simp [hcl]
   obtain⟨p1,p2⟩:=HR.out.1.step hB2 HH.out.2.1 HH.out.2.2.1 (HH.out.2.2.2 k r HR.out.2)
   have H2:=Lib.hid p2
   clear p2 hB2 hbk
   go_wp2
   exact⟨⟨k+1,by omega,by go_num,H2.out⟩,by simp [intOf];omega⟩
  ·have hkN:k=len:=by omega
   subst hkN
   have H2:=Lib.hid hr
   clear hr
   go_wp2
   go_ret
   have h1:=H2.out
   rw [HH.out.2.2.1] at h1 ⊢
   exact h1.post
def srt (l:List Int):List Int:=l.mergeSort fun x y=>decide (x≤y)
theorem srt_perm (l:List Int):(srt l).Perm l:=List.mergeSort_perm _ _
theorem srt_len (l:List Int):(srt l).length=l.length:=(srt_perm l).length_eq
theorem srt_sorted (l:List Int):(srt l).Pairwise (·≤·):=by
 have:=List.pairwise_mergeSort (le:=fun x y:Int=>decide (x≤y)) (fun a b c h1 h2=>by simp at *;omega) (fun a b=>by simp;omega) l
 exact this.imp fun h=>by simpa using h
def medI (l:List Int):Int:=(srt l).getD ((l.length - 1) / 2) 0
def lessN (l:List Int) (x:Int):Nat:=l.countP fun y=>decide (y<x)
def mostN (l:List Int) (x:Int):Nat:=l.countP fun y=>decide (y≤x)
theorem lessN_perm {l l':List Int} (h:l.Perm l') (x:Int):lessN l x=lessN l' x:=h.countP_eq _
theorem mostN_perm {l l':List Int} (h:l.Perm l') (x:Int):mostN l x=mostN l' x:=h.countP_eq _
theorem sorted_at {s:List Int} (hs:s.Pairwise (·≤·)) {i:Nat} {m:Int} (hi:s[i]? =some m):lessN s m≤i∧i<mostN s m:=by
 obtain⟨hlt,he⟩:=List.getElem?_eq_some_iff.1 hi
 rw [List.pairwise_iff_getElem] at hs
 constructor
 ·unfold lessN
  rw [←List.take_append_drop i s,List.countP_append]
  have h0:(s.drop i).countP (fun y=>decide (y<m))=0:=by
   rw [List.countP_eq_zero]
   intro a ha
   obtain⟨j,hj,rfl⟩:=List.getElem_of_mem ha
   rw [List.getElem_drop]
   simp only [decide_eq_true_eq,Int.not_lt]
   rw [←he]
   by_cases h:j=0
   ·subst h;exact Int.le_refl _
   ·exact hs i (i+j) hlt (by rw [List.length_drop] at hj;omega) (by omega)
  rw [h0]
  have:=List.countP_le_length (p:=fun y=>decide (y<m)) (l:=s.take i)
  rw [List.length_take] at this
  omega
 ·unfold mostN
  have h1:(s.take (i+1)).countP (fun y=>decide (y≤m))=(s.take (i+1)).length:=by
   rw [List.countP_eq_length]
   intro a ha
   obtain⟨j,hj,rfl⟩:=List.getElem_of_mem ha
   rw [List.getElem_take]
   rw [List.length_take] at hj
   simp only [decide_eq_true_eq]
   rw [←he]
   by_cases h:j=i
   ·subst h;exact Int.le_refl _
   ·exact hs j i (by omega) hlt (by omega)
  have h2:(s.take (i+1)).countP (fun y=>decide (y≤m))≤s.countP (fun y=>decide (y≤m)):=(List.take_sublist _ _).countP_le
  rw [h1,List.length_take] at h2
  omega
theorem medI_at {l:List Int} (h:0<l.length):(srt l)[(l.length - 1) / 2]? =some (medI l):=by
 have hl:=srt_len l
 unfold medI
 rw [List.getD_eq_getElem?_getD,List.getElem?_eq_getElem (by omega)]
 rfl
theorem medI_mem {l:List Int} (h:0<l.length):medI l ∈ l:=(srt_perm l).mem_iff.1 (List.mem_of_getElem? (medI_at h))
theorem medI_spec {l:List Int} (h:0<l.length):lessN l (medI l)≤(l.length - 1) / 2∧(l.length - 1) / 2<mostN l (medI l):=by
 have:=sorted_at (srt_sorted l) (medI_at h)
 rwa [lessN_perm (srt_perm l),mostN_perm (srt_perm l)] at this
def okI (a:Int):Bool:=decide (0≤a)&&decide (a≤1099511627776)
def okAge (h:Hd):Bool:=h.is&&okI (ageL h.c)
def oneAge (h:Hd):List Int:=if okAge h then [ageL h.c] else []
def agesOf (L:List Hd):List Int:=L.flatMap oneAge
def commonF (n:Int) (L:List Hd):Int:=if 4≤n∧n≤16 then (if ((agesOf (L.take n.toNat)).length:Int)<n - 1 then -1 else medI (agesOf (L.take n.toNat))) else -1
theorem agesOf_app (L M:List Hd):agesOf (L++M)=agesOf L++agesOf M:=by simp [agesOf]
theorem agesOf_succ {L:List Hd} {k:Nat} {h:Hd} (hk:L[k]? =some h):agesOf (L.take (k+1))=agesOf (L.take k)++oneAge h:=by
 rw [List.take_add_one,hk,agesOf_app];simp [agesOf]
theorem oneAge_len (h:Hd):(oneAge h).length≤1:=by unfold oneAge;split <;> simp
theorem agesOf_len (L:List Hd):(agesOf L).length≤L.length:=by
 induction L with
 | nil=>exact Nat.le_refl _
 | cons h L ih=>
   have:=oneAge_len h
   have e:agesOf (h :: L)=oneAge h++agesOf L:=by simp [agesOf]
   rw [e,List.length_append,List.length_cons];omega
theorem agesOf_ok {L:List Hd} {x:Int} (h:x ∈ agesOf L):0≤x∧x≤1099511627776:=by
 unfold agesOf at h
 obtain⟨y,-,hx⟩:=List.mem_flatMap.1 h
 unfold oneAge at hx
 split at hx
 ·rename_i hok
  simp only [List.mem_singleton] at hx
  subst hx
  simp [okAge,okI] at hok
  exact hok.2
 ·cases hx
theorem commonF_range (n:Int) (L:List Hd): -1≤commonF n L∧commonF n L≤1099511627776:=by
 unfold commonF
 split
 ·rename_i hn
  split
  ·omega
  ·rename_i hl
   have:=agesOf_ok (medI_mem (l:=agesOf (L.take n.toNat)) (by omega))
   omega
 ·omega
def goodL (bad:Nat) (L:List Hd):Nat→List Int
 | 0=>[]
 | k+1=>goodL bad L k++(if k=bad then [] else match L[k]? with | some h=>oneAge h | none=>[])
theorem goodL_succ {bad:Nat} {L:List Hd} {k:Nat} {h:Hd} (hk:L[k]? =some h):goodL bad L (k+1)=goodL bad L k++(if k=bad then [] else oneAge h):=by
 rw [goodL,hk]
theorem good_perm (bad:Nat) (L:List Hd):∀k,k≤L.length→∃o:List Int,o.length≤1∧(agesOf (L.take k)).Perm (o++goodL bad L k)∧(k≤bad→o=[])
 | 0,_=>⟨[],by simp,by simp [goodL,agesOf],fun _=>rfl⟩
 | k+1,hk=>by
   obtain⟨o,h1,h2,h3⟩:=good_perm bad L k (by omega)
   obtain⟨h,hh⟩:∃h,L[k]? =some h:=⟨_,List.getElem?_eq_getElem (by omega)⟩
   rw [agesOf_succ hh,goodL_succ hh]
   by_cases hb:k=bad
   ·have:=h3 (by omega)
    subst this
    rw [if_pos hb,List.append_nil]
    exact⟨oneAge h,oneAge_len h,(h2.append_right _).trans (by rw [List.nil_append];exact List.perm_append_comm),fun h=>by omega⟩
   ·rw [if_neg hb]
    exact⟨o,h1,by rw [←List.append_assoc];exact h2.append_right _,fun h=>h3 (by omega)⟩
def LeastP (G:List Int) (v:Int):Prop:=(G=[]∧v= -1)∨(v ∈ G∧∀x ∈ G,v≤x)
def MostAP (G:List Int) (v:Int):Prop:=(G=[]∧v= -1)∨(v ∈ G∧∀x ∈ G,x≤v)
theorem LeastP.push {G:List Int} {v a:Int} (h:LeastP G v) (hG:∀x ∈ G,0≤x) (ha:0≤a):LeastP (G++ [a]) (if v<0∨a<v then a else v):=by
 rcases h with ⟨rfl,rfl⟩ | ⟨h1,h2⟩
 ·exact .inr ⟨by simp,by simp⟩
 ·have:=hG v h1
  by_cases hv:a<v
  ·rw [if_pos (.inr hv)]
   exact .inr ⟨by simp,fun x hx=>by
    rcases List.mem_append.1 hx with hx | hx
    ·have:=h2 x hx;omega
    ·simp at hx;omega⟩
  ·rw [if_neg (by omega)]
   exact .inr ⟨by simp [h1],fun x hx=>by
    rcases List.mem_append.1 hx with hx | hx
    ·exact h2 x hx
    ·simp at hx;omega⟩
theorem MostAP.push {G:List Int} {v a:Int} (h:MostAP G v) (ha:0≤a):MostAP (G++ [a]) (max v a):=by
 rcases h with ⟨rfl,rfl⟩ | ⟨h1,h2⟩
 ·exact .inr ⟨by simp;omega,by simp;omega⟩
 ·by_cases hv:a≤v
  ·rw [Int.max_eq_left hv]
   exact .inr ⟨by simp [h1],fun x hx=>by
    rcases List.mem_append.1 hx with hx | hx
    ·exact h2 x hx
    ·simp at hx;omega⟩
  ·rw [Int.max_eq_right (by omega)]
   exact .inr ⟨by simp,fun x hx=>by
    rcases List.mem_append.1 hx with hx | hx
    ·have:=h2 x hx;omega
    ·simp at hx;omega⟩
theorem middle {n:Nat} (h4:4≤n) (h16:n≤16) {L:List Hd} (hL:L.length=n) (bad:Nat) {least most:Int} (hl:LeastP (goodL bad L n) least) (hm:MostAP (goodL bad L n) most) :
 (0≤commonF n L→n - 2≤(goodL bad L n).length∧least≤commonF n L∧commonF n L≤most)∧
 ((goodL bad L n).length=n - 1→0≤commonF n L∧(least=most→commonF n L=least)):=by
 obtain⟨o,h1,h2,-⟩:=good_perm bad L n (by omega)
 have hc:commonF n L=if (agesOf (L.take n)).length<n - 1 then -1 else medI (agesOf (L.take n)):=by
  unfold commonF
  rw [if_pos (by omega)]
  simp only [Int.toNat_natCast]
  split <;> split <;> first | rfl | omega
 have hlen:=h2.length_eq
 rw [List.length_append] at hlen
 have key:n - 1≤(agesOf (L.take n)).length→least≤medI (agesOf (L.take n))∧medI (agesOf (L.take n))≤most∧0≤medI (agesOf (L.take n)):=by
  intro hge
  have hpos:0<(agesOf (L.take n)).length:=by omega
  obtain⟨s1,s2⟩:=medI_spec hpos
  have hnn:=(agesOf_ok (medI_mem hpos)).1
  generalize hmm:medI (agesOf (L.take n))=m at *
  rw [lessN_perm h2] at s1
  rw [mostN_perm h2] at s2
  rw [h2.length_eq,List.length_append] at s1 s2
  have hG0:goodL bad L n≠[]:=by
   intro h0
   rw [h0] at hlen
   simp at hlen;omega
  unfold lessN at s1
  unfold mostN at s2
  rw [List.countP_append] at s1 s2
  have ho:=List.countP_le_length (p:=fun y=>decide (y≤m)) (l:=o)
  refine⟨?_,?_,hnn⟩
  ·rcases hl with ⟨h,-⟩ | ⟨-,hall⟩
   ·exact absurd h hG0
   ·rcases Int.lt_or_le m least with hlt | hge'
    ·have h0:(goodL bad L n).countP (fun y=>decide (y≤m))=0:=by
      rw [List.countP_eq_zero]
      intro x hx
      have:=hall x hx
      simp;omega
     omega
    ·exact hge'
  ·rcases hm with ⟨h,-⟩ | ⟨-,hall⟩
   ·exact absurd h hG0
   ·rcases Int.lt_or_le most m with hlt | hge'
    ·have h0:(goodL bad L n).countP (fun y=>decide (y<m))=(goodL bad L n).length:=by
      rw [List.countP_eq_length]
      intro x hx
      have:=hall x hx
      simp;omega
     omega
    ·exact hge'
 rw [hc]
 constructor
 ·intro h0
  split at h0
  ·omega
  ·rename_i hge
   rw [if_neg hge]
   obtain⟨k1,k2,-⟩:=key (by omega)
   exact⟨by omega,k1,k2⟩
 ·intro h0
  rw [if_neg (by omega)]
  obtain⟨k1,k2,k3⟩:=key (by omega)
  exact⟨k3,fun h=>by omega⟩
def ownF (n common cold:Int):Int:=if okI (if okI common then common+2*n else cold) then (if okI common then common+2*n else cold) else -1
theorem ownF_range (n common cold:Int): -1≤ownF n common cold∧ownF n common cold≤1099511627776:=by
 unfold ownF
 generalize (if okI common then common+2*n else cold)=a
 split
 ·rename_i h
  simp [okI] at h
  omega
 ·omega
def bestW:List Int→Int
 | [] => -1
 | a :: W=>if 0≤a then max (a+W.length) (bestW W) else bestW W
def showF (W:List Int):Int:=if bestW W≤1099511627776 then bestW W else -1
theorem bestW_ge (W:List Int): -1≤bestW W:=by
 induction W with
 | nil=>exact Int.le_refl _
 | cons a W ih=>unfold bestW;split <;> omega
def MaxP (W:List Int) (I:Nat→Prop) (v:Int):Prop:= -1≤v∧(∀(i:Nat) (a:Int),I i→W[i]? =some a→0≤a→a+(W.length:Int) - 1 - i≤v)∧(v= -1∨∃(i:Nat) (a:Int),I i∧W[i]? =some a∧0≤a∧v=a+(W.length:Int) - 1 - i)
theorem MaxP.unique {W:List Int} {I:Nat→Prop} {v v':Int} (h:MaxP W I v) (h':MaxP W I v'):v=v':=by
 obtain⟨a1,a2,a3⟩:=h
 obtain⟨b1,b2,b3⟩:=h'
 rcases a3 with a3 | ⟨i,a,ia,ib,ic,id⟩ <;> rcases b3 with b3 | ⟨j,b,ja,jb,jc,jd⟩
 ·omega
 ·have:=a2 j b ja jb jc;omega
 ·have:=b2 i a ia ib ic;omega
 ·have h1:=a2 j b ja jb jc
  have h2:=b2 i a ia ib ic
  omega
theorem bestW_max:∀(W:List Int),MaxP W (fun _=>True) (bestW W)
 | [] =>⟨Int.le_refl _,by simp,.inl rfl⟩
 | x :: W=>by
   obtain⟨a1,a2,a3⟩:=bestW_max W
   refine⟨bestW_ge _,fun i a _ hi ha=> ?_,?_⟩
   ·cases i with
    | zero=>
      simp at hi
      subst hi
      unfold bestW
      rw [if_pos ha]
      simp;omega
    | succ i=>
      have:=a2 i a trivial (by simpa using hi) ha
      have h2:bestW W≤bestW (x :: W):=by
       conv=>rhs;unfold bestW
       split <;> omega
      simp;omega
   ·have tail:bestW W= -1∨∃(i:Nat) (a:Int),True∧(x :: W)[i]? =some a∧0≤a∧bestW W=a+((x :: W).length:Int) - 1 - i:=by
     rcases a3 with a3 | ⟨i,a,-,ib,ic,id⟩
     ·exact .inl a3
     ·exact .inr ⟨i+1,a,trivial,by simpa using ib,ic,by simp;omega⟩
    unfold bestW
    split
    ·rename_i hx
     by_cases hm:x+(W.length:Int)≤bestW W
     ·rw [Int.max_eq_right hm];exact tail
     ·rw [Int.max_eq_left (by omega)]
      exact .inr ⟨0,x,trivial,rfl,hx,by simp;omega⟩
    ·exact tail
theorem MaxP.best {W:List Int} {I:Nat→Prop} {v:Int} (h:MaxP W I v) (hI:∀i,i<W.length→I i):v=bestW W:=by
 refine h.unique ?_
 obtain⟨a1,a2,a3⟩:=bestW_max W
 refine⟨a1,fun i a _=>a2 i a trivial,?_⟩
 rcases a3 with a3 | ⟨i,a,-,ib,ic⟩
 ·exact .inl a3
 ·exact .inr ⟨i,a,hI i (List.getElem?_eq_some_iff.1 ib).1,ib,ic⟩
theorem MaxP.start (W:List Int) {I:Nat→Prop} (h:∀i,¬I i):MaxP W I (-1):=⟨Int.le_refl _,fun i _ hi=>absurd hi (h i),.inl rfl⟩
theorem MaxP.step {W:List Int} {I I':Nat→Prop} {v:Int} (h:MaxP W I v) {k:Nat} {a:Int} (hk:W[k]? =some a) (hI:∀i,I' i↔I i∨i=k) :
 MaxP W I' (if 0≤a then max v (a+(W.length:Int) - 1 - k) else v):=by
 obtain⟨a1,a2,a3⟩:=h
 have hkl:k<W.length:=(List.getElem?_eq_some_iff.1 hk).1
 by_cases ha:0≤a
 ·rw [if_pos ha]
  refine⟨by omega,fun i b hi hb h0=> ?_,?_⟩
  ·rcases (hI i).1 hi with hi | rfl
   ·have:=a2 i b hi hb h0;omega
   ·rw [hk] at hb;cases hb;omega
  ·by_cases hm:a+(W.length:Int) - 1 - k≤v
   ·rw [Int.max_eq_left hm]
    rcases a3 with a3 | ⟨i,b,ia,ib⟩
    ·exact .inl a3
    ·exact .inr ⟨i,b,(hI i).2 (.inl ia),ib⟩
   ·rw [Int.max_eq_right (by omega)]
    exact .inr ⟨k,a,(hI k).2 (.inr rfl),hk,ha,rfl⟩
 ·rw [if_neg ha]
  refine⟨a1,fun i b hi hb h0=> ?_,?_⟩
  ·rcases (hI i).1 hi with hi | rfl
   ·exact a2 i b hi hb h0
   ·rw [hk] at hb;cases hb;omega
  ·rcases a3 with a3 | ⟨i,b,ia,ib⟩
   ·exact .inl a3
   ·exact .inr ⟨i,b,(hI i).2 (.inl ia),ib⟩
end Go.Proofs.YtdilbjikeilhbaaGreatDoor
