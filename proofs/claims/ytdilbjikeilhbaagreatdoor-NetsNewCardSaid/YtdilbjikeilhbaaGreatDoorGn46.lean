import Derived.Test.YtdilbjikeilhbaaGreatDoorGn45
import Derived.Test.YtdilbjikeilhbaaGreatDoorGn43
namespace Go.Proofs.YtdilbjikeilhbaaGreatDoor
open Go.RowKit
set_option linter.unusedVariables false
set_option linter.unusedSimpArgs false
def agoQ (q:Nat):Nat:=q % 2+1
def srcQ (N q i:Nat):Nat:=if q=0 then (i+2*N - 1) % N else if q=1 then (i+2*N - 2) % N else if q=2 then (i+2*N+1) % N else (i+2*N+2) % N
section
variable (c:Cfg)
theorem ntR_len (t:Nat):(ntR c t).sent.length=t:=by
 unfold ntR
 rw [←rgT_bt]
 exact rgT_len _ _ _ _ t
theorem nt_sentM {t ago:Nat} (i k:Nat):(ntR c t).sentM i k ago=if t<ago then [] else if ago=0 then [] else ntO c (t - ago) (i % c.N.toNat) (if k<2 then 0 else 2):=by
 unfold RingM.sentM
 rw [ntR_len,(ntR_N c t).1]
 by_cases h:t<ago
 ·rw [if_pos h,if_pos h]
 ·rw [if_neg h,if_neg h]
  by_cases h0:ago=0
  ·rw [if_pos h0,h0,Nat.sub_zero,List.getD,List.getElem?_eq_none (by rw [ntR_len];omega)]
   rfl
  ·rw [if_neg h0,List.getD,nt_sent c t (t - ago) i k (by omega)]
   exact nt_word c (t - ago) (i % c.N.toNat) k
theorem nt_ins {t q:Nat} (i:Nat) (hq:q<4):ntI c t i q=if t<agoQ q then [] else ntO c (t - agoQ q) (srcQ c.N.toNat q i) (if q<2 then 0 else 2):=by
 unfold ntI RingM.insM
 rw [(ntR_N c t).1]
 rcases (show q=0∨q=1∨q=2∨q=3 by omega) with rfl | rfl | rfl | rfl
 ·rw [if_pos rfl,nt_sentM];rfl
 ·rw [if_neg (by decide),if_pos rfl,nt_sentM];rfl
 ·rw [if_neg (by decide),if_neg (by decide),if_pos rfl,nt_sentM];rfl
 ·rw [if_neg (by decide),if_neg (by decide),if_neg (by decide),nt_sentM];rfl
theorem ntO_ok (c:Cfg) (t i q:Nat):∀r ∈ ntO c t i q,r.ok:=by
 have h:=(bt_ok (N:=c.N.toNat) (F:=noF c.N.toNat) (boot:=b0) (on:=onA) (cell:=netCell c) (by simp [noF]) (netCell_ok c) (t+1)).1
 unfold ntO LaneM.out
 exact tabN_ok _ fun s=>h.1 i _ _ s
theorem ntI_ok (t i q:Nat) (hq:q<4):∀r ∈ ntI c t i q,r.ok:=by
 rw [nt_ins c i hq]
 split
 ·intro r hr;cases hr
 ·exact ntO_ok c _ _ _
theorem ntO_len (t i q:Nat):(ntO c t i q).length=c.N.toNat:=by
 unfold ntO LaneM.out
 rw [tab_len]
 exact (lane_n c (t+1) i).1
end
def NdF (A:CfA) (q:Nat) (K:NdK) (nb p j:Nat) (x:NdS) (tag:Nat→Nat) (w:World):Prop:=
 ∃(P:NP) (D:NPd),P.nb=nb∧P.p=p∧NdX (Snp tag w) (fun b=>tag b=j∧b<w.heap.size) A q K w P D x w
theorem NdF.keep {A:CfA} {q:Nat} {K:NdK} {nb p j:Nat} {x:NdS} {tag tag':Nat→Nat} {w w':World} (hj:j≠0) (h:NdF A q K nb p j x tag w) (hs:w.heap.size≤w'.heap.size) (hk:∀b,b<w.heap.size→tag b=j∨tag b=0→w'.heap[b]? =w.heap[b]?) (ht:Ext w tag tag'):NdF A q K nb p j x tag' w':=by
 obtain⟨P,D,h1,h2,h3⟩:=h
 have ho:=h3.own
 have kI:∀{b:Nat},(tag b=j∧b<w.heap.size)→w'.heap[b]? =w.heap[b]?:=fun hb=>hk _ hb.2 (.inl hb.1)
 have tI:∀{b:Nat},(tag b=j∧b<w.heap.size)→tag' b=j∧b<w'.heap.size:=fun hb=>⟨(ht _ hb.2).trans hb.1,Nat.lt_of_lt_of_le hb.2 hs⟩
 have sl:∀b,D.SL b→tag b=j∧b<w.heap.size:=fun b hb=>by
  have:=h3.lane.lt b hb
  rcases ho.ol b hb with e | e
  ·exact e
  ·omega
 have ov:∀b,D.v.ownBlock=some b→tag b=j∧b<w.heap.size:=fun b hb=>by
  have:=(h3.ck.2.lt b hb).2
  rcases ho.ov b hb with e | e
  ·exact e
  ·omega
 refine⟨P,D,h1,h2,⟨NetTab.mono (NetTab.keep h3.net hs fun b hb hl=>hk b hl (.inr hb.1)) fun b _ hb=>hb.ext hs ht,(kI ho.inb).trans h3.nd,(kI ho.ipb).trans h3.pw,h3.lane.keep hs fun b hb hl=>kI (sl b hb),ckrKeep h3.ck fun b hl e=> ?_,(kI ho.icqb).trans h3.cq,(kI ho.irg).trans h3.rg,(kI ho.icg).trans h3.cg,
  ⟨tI ho.inb,tI ho.ipb,tI ho.ickb,tI ho.icqb,tI ho.irg,tI ho.icg,fun b hb=> .inl (tI (sl b hb)),fun b hb=> .inl (tI (ov b hb)),fun b hb=>⟨hb.2,fun e=>hj (e.1.symm.trans hb.1)⟩,fun b hb=>hb.2,ho.al⟩,Chg.refl _ _⟩⟩
 rcases e with e | e
 ·rw [e];exact kI ho.ickb
 ·exact kI (ov b e)
theorem NdF.regroup {A:CfA} {q:Nat} {K:NdK} {nb p j:Nat} {x:NdS} {tag:Nat→Nat} {w w':World} {P:NP} {D:NPd} (hj:j≠0) (h1:P.nb=nb) (h2:P.p=p) (h3:NdX (Snp tag w) (fun b=>tag b=j∧b<w.heap.size) A q K w P D x w'):NdF A q K nb p j x (extT w.heap.size tag fun _=>j) w':=by
 have ho:=h3.own
 have hs:=h3.c.size
 have hE:=extT_ext w tag fun _=>j
 have tI:∀{b:Nat},(tag b=j∧b<w.heap.size)→extT w.heap.size tag (fun _=>j) b=j∧b<w'.heap.size:=fun hb=>⟨(hE _ hb.2).trans hb.1,Nat.lt_of_lt_of_le hb.2 hs⟩
 have tN:∀{b:Nat},w.heap.size≤b→b<w'.heap.size→extT w.heap.size tag (fun _=>j) b=j∧b<w'.heap.size:=fun hb hl=>⟨extT_new _ _ hb,hl⟩
 refine⟨P,D,h1,h2,⟨NetTab.mono h3.net fun b _ hb=>hb.ext hs hE,h3.nd,h3.pw,h3.lane,h3.ck,h3.cq,h3.rg,h3.cg,
  ⟨tI ho.inb,tI ho.ipb,tI ho.ickb,tI ho.icqb,tI ho.irg,tI ho.icg,fun b hb=> .inl ?_,fun b hb=> .inl ?_,fun b hb=>⟨hb.2,fun e=>hj (e.1.symm.trans hb.1)⟩,fun b hb=>hb.2,ho.al⟩,Chg.refl _ _⟩⟩
 ·rcases ho.ol b hb with e | e
  ·exact tI e
  ·exact tN e (h3.lane.lt b hb)
 ·rcases ho.ov b hb with e | e
  ·exact tI e
  ·exact tN e (h3.ck.2.lt b hb).2
theorem NdF.of {S I:Nat→Prop} {A:CfA} {q:Nat} {K:NdK} {nb p j:Nat} {x:NdS} {tag:Nat→Nat} {w0 w:World} {P:NP} {D:NPd} (hj:j≠0) (h1:P.nb=nb) (h2:P.p=p) (h3:NdX S I A q K w0 P D x w) (hS:∀b,b<w.heap.size→S b→tag b=0) (hI:∀b,b<w.heap.size→I b∨w0.heap.size≤b→tag b=j):NdF A q K nb p j x tag w:=by
 have ho:=h3.own
 have hs:=h3.c.size
 have tI:∀{b:Nat},I b→tag b=j∧b<w.heap.size:=fun {b} hb=>by
  have hl:=Nat.lt_of_lt_of_le (ho.il b hb) hs
  exact⟨hI b hl (.inl hb),hl⟩
 refine⟨P,D,h1,h2,⟨NetTab.mono h3.net fun b hl hb=>⟨hS b hl hb,hl⟩,h3.nd,h3.pw,h3.lane,h3.ck,h3.cq,h3.rg,h3.cg,
  ⟨tI ho.inb,tI ho.ipb,tI ho.ickb,tI ho.icqb,tI ho.irg,tI ho.icg,fun b hb=> .inl ?_,fun b hb=> .inl ?_,fun b hb=>⟨hb.2,fun e=>hj (e.1.symm.trans hb.1)⟩,fun b hb=>hb.2,ho.al⟩,Chg.refl _ _⟩⟩
 ·have hl:=h3.lane.lt b hb
  exact⟨hI b hl (ho.ol b hb),hl⟩
 ·have hl:=(h3.ck.2.lt b hb).2
  exact⟨hI b hl (ho.ov b hb),hl⟩
theorem insA_of {S:Nat→Prop} {w:World} {x:Nat→Value×Value} {ins:Nat→PoM} (h:∀q,q<4→PoAt S w (x q).1 (x q).2 (ins q)) :
 ∃(s:Nat→Int) (a:Nat→Option Addr) (ln cp:Nat→Nat),(∀q,q<4→(x q).1=.int .u8 (s q)∧(x q).2=.slice (a q) (ln q) (cp q))∧InsR S w a ln cp (fun q=>(ins q).rows):=by
 have hA:∀q,∃(s:Int) (a:Option Addr) (ln cp:Nat),q<4→((x q).1=.int .u8 s∧(x q).2=.slice a ln cp)∧RdRs S w a ln (ins q).rows∧ln≤cp∧cp≤maxLen:=fun q=>by
  by_cases hq:q<4
  ·obtain⟨-,e1,a,cap,e2,e3,e4,e5⟩:=h q hq
   exact⟨_,a,_,cap,fun _=>⟨⟨e1,e2⟩,e3,e4,e5⟩⟩
  ·exact⟨0,none,0,0,fun hq'=>absurd hq' hq⟩
 refine⟨fun q=>(hA q).choose,fun q=>(hA q).choose_spec.choose,fun q=>(hA q).choose_spec.choose_spec.choose,fun q=>(hA q).choose_spec.choose_spec.choose_spec.choose,fun q hq=>((hA q).choose_spec.choose_spec.choose_spec.choose_spec hq).1,⟨fun q hq=>((hA q).choose_spec.choose_spec.choose_spec.choose_spec hq).2.1,fun q hq=>((hA q).choose_spec.choose_spec.choose_spec.choose_spec hq).2.2⟩⟩
theorem rowsB_po {S:Nat→Prop} {w:World} {g n:Nat} {l:List Rw} {s:Int} (hs:0≤s∧s≤255) (h:RowsB S w g 134 l) (hl:l.length=n) (hn:n≤16) (hr:∀r ∈ l,r.ok∧r.t.length≤16) {S':Nat→Prop} (hg:S' g) (hS:∀b,b<w.heap.size→S b→S' b):PoAt S' w (.int .u8 s) (.slice (some ⟨g,0,none⟩) n n) ⟨s,l⟩:=by
 subst hl
 refine⟨⟨hs,hn,fun r hr'=>(hr r hr').2⟩,rfl,_,_,rfl,(h.rd fun r hr'=>(hr r hr').1).mono fun b hb e=> ?_,Nat.le_refl _,by unfold maxLen;omega⟩
 rcases e with rfl | e
 ·exact hg
 ·exact hS b hb e
theorem ntI_ok' (c:Cfg) (t i q:Nat):∀r ∈ ntI c t i q,r.ok:=by
 by_cases hq:q<4
 ·exact ntI_ok c t i q hq
 ·have e:ntI c t i q=ntI c t i 3:=by
   unfold ntI RingM.insM
   rw [if_neg (by omega),if_neg (by omega),if_neg (by omega),if_neg (by omega),if_neg (by omega),if_neg (by omega)]
  rw [e]
  exact ntI_ok c t i 3 (by omega)
section
variable (c:Cfg) (A:CfA) (q:Nat) (nb:Nat→Nat) (p:Nat) (hok:RefOk c) (hB:∀z ∈ c.B,z=0) (h4:c.N=4)
set_option maxHeartbeats 1000000 in
noncomputable def idleN:NodeSp 4 where
 σ:=Nat
 nb:=nb
 ND:=fun tag i t w=>NdF A q (NdK.new c i) (nb i) p (i+10) (ntS c t i) tag w
 ok:=fun i t on ins=>on=true∧t<16∧∀q,q<4→ins q=⟨0,ntI c t i q⟩
 st:=fun i t _ _=>t+1
 out:=fun i t _ _ d=>⟨0,ntO c t i (2*d)⟩
 keep:=fun hi h hs hk ht=>h.keep (by omega) hs hk ht
 tick:=by
  intro tag w i t on ins x hi h hk hx
  obtain⟨rfl,ht,hins⟩:=hk
  obtain⟨P,D,h1,h2,h3⟩:=h
  obtain⟨s,a,ln,cp,hsa,hI⟩:=insA_of hx
  have hI2:InsR (Snp tag w) w a ln cp (ntI c t i):=⟨fun q hq=>by have:=hI.rd q hq;rw [hins q hq] at this;exact this,hI.le⟩
  have hOk:NdOk (NdK.new c i) (ntS c t i):=nt_ok c hok hB (by omega) (by omega)
  have hX:tkX (NdK.new c i) (ntS c t i) (ntI c t i)=ntS c (t+1) i:=ntX c hB (by omega) i
  have hpw:(tkQ (NdK.new c i) (ntS c t i)).1=2:=by rw [ntQ c hB t i,net_pw t i (by omega)]
  have hF:∀b,Snp tag w b→Free (fun b=>tag b=i+10∧b<w.heap.size) D w b:=fun b hb=>by
   refine⟨hb.2,fun e=>by have:=hb.1;omega,fun e=> ?_,fun e=> ?_⟩
   ·have:=h3.lane.lt b e
    rcases h3.own.ol b e with e' | e'
    ·have:=hb.1;omega
    ·omega
   ·have:=(h3.ck.2.lt b e).2
    rcases h3.own.ov b e with e' | e'
    ·have:=hb.1;omega
    ·omega
  have hargs:(#[(x 0).1,(x 0).2,(x 1).1,(x 1).2,(x 2).1,(x 2).2,(x 3).1,(x 3).2]:Array Value)=(insA (s 0) (s 1) (s 2) (s 3) a ln cp).toArray:=by
   rw [(hsa 0 (by omega)).1,(hsa 0 (by omega)).2,(hsa 1 (by omega)).1,(hsa 1 (by omega)).2,(hsa 2 (by omega)).1,(hsa 2 (by omega)).2,(hsa 3 (by omega)).1,(hsa 3 (by omega)).2]
   rfl
  rw [hargs,←h1]
  refine (tick_any _ _ A q (NdK.new c i) P D (ntS c t i) w h3 hOk hpw (Snp tag w) a ln cp (ntI c t i) hI2 hF (ntI_ok' c t i) (nt_idle c hok hB h4 ht hi) (s 0) (s 1) (s 2) (s 3)).mono ?_
  rintro e w' ⟨D',g0,g1,m,rfl,hx',hne,hm,hg0,hg1,hr0,hr1,hkf⟩
  rw [hX] at hx' hr0 hr1
  have hN:(NdK.new c i).n=4:=by show c.N.toNat=4;omega
  have hto:∀q,∀r ∈ (ntS c (t+1) i).L.out q,r.ok∧r.t.length≤16:=fun q r hr=>⟨LaneM.out_ok hx'.lane.ok q r hr,LaneM.out_tlen hx'.lane.okt q r hr⟩
  have hlen:∀q,(ntO c t i q).length=4:=fun q=>by rw [ntO_len];omega
  have hC:Chg (fun b=>tag b=i+10) w w':=hx'.c.mono fun b _ e=>e.1
  refine⟨fun d=>if d=0 then (.int .u8 0,.slice (some ⟨g0,0,none⟩) 4 4) else (.int .u8 0,.slice (some ⟨g1,0,none⟩) 4 4),by rw [hN];rfl,hC,NdF.regroup (by omega) rfl h2 hx',fun d hd=> ?_⟩
  rcases (show d=0∨d=1 by omega) with rfl | rfl
  ·exact rowsB_po ⟨by omega,by omega⟩ hr0 (hlen 0) (by omega) (hto 0) (Nat.le_trans hm hg0) (fun b _ e=>Nat.le_trans hm e.1)
  ·exact rowsB_po ⟨by omega,by omega⟩ hr1 (hlen 2) (by omega) (hto 2) (Nat.le_trans hm hg1) (fun b _ e=>Nat.le_trans hm e.1)
end
def quietM (n mb:Nat) (sv:Value) (tm lm:Nat) (h4:4≤n) (h16:n≤16):MouthSp n where
 μ:=Unit
 mb:=mb
 MD:=fun tag _ w=>MoB w mb n (-1) (-1) sv tm lm∧tag mb=3
 ok:=fun _ _ _ _=>True
 st:=fun _ _ _ _=>()
 out:=fun _ _ _ p=>p
 keep:=fun h hs hk ht=>⟨(hk _ h.1.lt (.inl h.2)).trans h.1,(ht _ h.1.lt).trans h.2⟩
 says:=by
  intro tag w m t k p x0 x1 S hk h _ hS hp
  refine (says_as h.1 (by omega) (by omega) t k (by omega) (by unfold isF;rw [if_pos rfl];simp) S x0 x1 p hp).mono ?_
  rintro e w' ⟨y1,rfl,hy,hb⟩
  exact⟨x0,y1,rfl,Chg.of_below hb _,⟨h.1.below hb h.1.lt,(extT_ext w tag _ _ h.1.lt).trans h.2⟩,hy⟩
section
variable (c:Cfg)
noncomputable def poB (t a m:Nat):PoM:=if t<a then poZ else ⟨0,ntO c (t - a) (m / 4) (2*(m % 4 / 2))⟩
noncomputable def wlB (t m:Nat):List PoM:=if m % 2=0 then [poB c t 1 m] else [poB c t 2 m,poB c t 1 m]
theorem wlB_zero (m:Nat):wlB c 0 m=List.replicate (m % 2+1) poZ:=by
 unfold wlB poB
 rcases (show m % 2=0∨m % 2=1 by omega) with h | h
 ·rw [if_pos h,h];rfl
 ·rw [if_neg (by omega),h];rfl
theorem wlB_succ (t m:Nat):wlB c (t+1) m=(wlB c t m).tail++ [⟨0,ntO c t (m / 4) (2*(m % 4 / 2))⟩]:=by
 unfold wlB
 rcases (show m % 2=0∨m % 2=1 by omega) with h | h
 ·rw [if_pos h,if_pos h]
  simp [poB]
 ·rw [if_neg (by omega),if_neg (by omega)]
  simp only [List.tail_cons,List.singleton_append,List.cons.injEq,and_true]
  refine⟨?_,?_⟩
  ·unfold poB
   by_cases h1:t<1
   ·rw [if_pos (by omega),if_pos h1]
   ·rw [if_neg (by omega),if_neg h1,show t+1 - 2=t - 1 by omega]
  ·unfold poB
   rw [if_neg (by omega),show t+1 - 1=t by omega]
theorem src4 {i q:Nat} (hi:i<4) (hq:q<4):lnkQ 4 i q / 4=srcQ 4 q i∧lnkQ 4 i q % 4=q:=by
 have h1:i=0∨i=1∨i=2∨i=3:=by omega
 have h2:q=0∨q=1∨q=2∨q=3:=by omega
 rcases h1 with rfl | rfl | rfl | rfl <;> rcases h2 with rfl | rfl | rfl | rfl <;> decide
theorem wl_head {t i q:Nat} (hN:c.N.toNat=4) (hi:i<4) (hq:q<4):(wlB c t (lnkQ 4 i q)).headD poZ=⟨0,ntI c t i q⟩:=by
 obtain⟨h1,h2⟩:=src4 hi hq
 have hz:poZ=⟨0,[]⟩:=rfl
 rw [nt_ins c i hq,hN]
 unfold wlB poB agoQ
 rw [h1,h2]
 have h3:lnkQ 4 i q % 2=q % 2:=by omega
 rw [h3]
 have hq2:2*(q / 2)=if q<2 then 0 else 2:=by split <;> omega
 rw [hq2]
 rcases (show q % 2=0∨q % 2=1 by omega) with h | h
 ·rw [if_pos h,h]
  simp only [List.headD_cons,Nat.zero_add]
  by_cases ht:t<1
  ·rw [if_pos ht,if_pos ht];rfl
  ·rw [if_neg ht,if_neg ht]
 ·rw [if_neg (by omega),h]
  simp only [List.headD_cons]
  by_cases ht:t<2
  ·rw [if_pos ht,if_pos ht];rfl
  ·rw [if_neg ht,if_neg ht]
end
theorem putO_at {f:Nat→Option PoM} {k j:Nat} {p:PoM}:putO f k p j=if j=k then some p else f j:=rfl
theorem mid4_G {n:Nat} {σ:Type} (M:MouthSp n) (hM:∀m t k p,M.out m t k p=p) (i:Nat) (o:Nat→PoM) (T:NtS σ M.μ) (m:Nat):(NtS.mid M i o T 4).G m=if 4*i≤m∧m<4*i+4 then some (o ((m - 4*i) / 2)) else T.G m:=by
 simp only [NtS.mid,putO_at,hM]
 by_cases h:4*i≤m∧m<4*i+4
 ·rw [if_pos h]
  obtain⟨r,rfl⟩:∃r,m=4*i+r:=⟨m - 4*i,by omega⟩
  have hr:r=0∨r=1∨r=2∨r=3:=by omega
  rcases hr with rfl | rfl | rfl | rfl <;> simp
 ·rw [if_neg h,if_neg (by omega),if_neg (by omega),if_neg (by omega),if_neg (by omega)]
section
variable (c:Cfg) (A:CfA) (q:Nat) (nb:Nat→Nat) (p:Nat) (hok:RefOk c) (hB:∀z ∈ c.B,z=0) (h4:c.N=4) (mb tm lm:Nat) (sv:Value)
noncomputable abbrev exN:NodeSp 4:=idleN c A q nb p hok hB h4
noncomputable abbrev exM:MouthSp 4:=quietM 4 mb sv tm lm (Nat.le_refl 4) (Nat.le_of_ble_eq_true rfl)
structure ExT (t:Nat) (T:NtS Nat Unit):Prop where
 hs:∀i,i<4→T.s i=t
 hon:∀i,i<4→T.on i=true
 hw:∀m,m<16→T.W m=wlB c t m
 ht:T.t=t
 hgc:T.gc=0
 hlc:T.lc=16*t
 hg:∀m,T.G m=none
include hok hB h4
theorem ex_nodes {t:Nat} {T:NtS Nat Unit} (h:ExT c t T) (ht:t<16):∀k,k≤4→(∀i,i<4→(NtS.nodes (exN c A q nb p hok hB h4) (exM mb tm lm sv) T k).s i=if i<k then t+1 else t)∧
 (∀m,m<16→(NtS.nodes (exN c A q nb p hok hB h4) (exM mb tm lm sv) T k).G m=if m<4*k then some ⟨0,ntO c t (m / 4) (2*(m % 4 / 2))⟩ else none)
 | 0,_=>⟨fun i hi=>by rw [if_neg (by omega)];exact h.hs i hi,fun m hm=>by rw [if_neg (by omega)];exact h.hg m⟩
 | k+1,hk=>by
   obtain⟨h1,h2⟩:=ex_nodes h ht k (by omega)
   obtain⟨T',hT'⟩:∃T',T'=NtS.nodes (exN c A q nb p hok hB h4) (exM mb tm lm sv) T k:=⟨_,rfl⟩
   have hsk:T'.s k=t:=by rw [hT',h1 k (by omega),if_neg (by omega)]
   have hrec:NtS.nodes (exN c A q nb p hok hB h4) (exM mb tm lm sv) T (k+1)=NtS.node (exN c A q nb p hok hB h4) (exM mb tm lm sv) k T':=by rw [hT'];rfl
   rw [hrec]
   rw [←hT'] at h1 h2
   have hmid:=NtS.mid_same (exM mb tm lm sv) k ((exN c A q nb p hok hB h4).out k (T'.s k) (T'.on k) (insQ T' 4 k)) { T' with s:=fun j=>if j=k then (exN c A q nb p hok hB h4).st k (T'.s k) (T'.on k) (insQ T' 4 k) else T'.s j } 4
   refine⟨fun i hi=> ?_,fun m hm=> ?_⟩
   ·unfold NtS.node
    rw [hmid.2.1]
    have key:∀a b:Nat,a=t→b=(if i<k then t+1 else t)→(if i=k then Nat.succ a else b)=if i<k+1 then t+1 else t:=by
     rintro a b rfl rfl
     by_cases hik:i=k
     ·rw [if_pos hik,if_pos (by omega)]
     ·rw [if_neg hik]
      by_cases hil:i<k
      ·rw [if_pos hil,if_pos (by omega)]
      ·rw [if_neg hil,if_neg (by omega)]
    exact key (T'.s k) (T'.s i) hsk (h1 i hi)
   ·unfold NtS.node
    rw [mid4_G (exM mb tm lm sv) (fun _ _ _ _=>rfl)]
    by_cases hm4:4*k≤m∧m<4*k+4
    ·rw [if_pos hm4,if_pos (by omega)]
     show some (⟨0,ntO c (T'.s k) k (2*((m - 4*k) / 2))⟩:PoM)=_
     rw [hsk,show m / 4=k by omega,show m % 4=m - 4*k by omega]
    ·rw [if_neg hm4]
     show T'.G m=_
     rw [h2 m hm]
     by_cases hml:m<4*k
     ·rw [if_pos hml,if_pos (by omega)]
     ·rw [if_neg hml,if_neg (by omega)]
theorem ex_okT {t:Nat} {T:NtS Nat Unit} (h:ExT c t T) (ht:t<16):NtS.okT (exN c A q nb p hok hB h4) (exM mb tm lm sv) T:=⟨fun i hi=>by
 have hN:c.N.toNat=4:=by omega
 obtain⟨h1,h2⟩:=ex_nodes c A q nb p hok hB h4 mb tm lm sv h ht i (by omega)
 obtain⟨e1,e2,e3,e4,e5⟩:=NtS.nodes_same (N:=exN c A q nb p hok hB h4) (M:=exM mb tm lm sv) T i
 refine⟨⟨?_,?_,fun q hq=> ?_⟩,fun r hr=>trivial,by rw [e4,h.hgc];omega,by rw [e5,h.hlc];omega,by rw [e1,h.ht];omega⟩
 ·rw [e2];exact h.hon i hi
 ·rw [h1 i hi,if_neg (by omega)];exact ht
 ·rw [h1 i hi,if_neg (by omega)]
  unfold insQ
  rw [e3,h.hw _ (by have:=lnkQ_lt (n:=4) (i:=i) (by omega) hq;omega)]
  exact wl_head c hN hi hq⟩
theorem ex_run {T:NtS Nat Unit} (h:ExT c 0 T):∀k,k≤16→ExT c k (NtS.run (exN c A q nb p hok hB h4) (exM mb tm lm sv) T k)
 | 0,_=>h
 | k+1,hk=>by
   have hr:=ex_run h k (by omega)
   obtain⟨T',hT'⟩:∃T',T'=NtS.run (exN c A q nb p hok hB h4) (exM mb tm lm sv) T k:=⟨_,rfl⟩
   rw [←hT'] at hr
   have hrec:NtS.run (exN c A q nb p hok hB h4) (exM mb tm lm sv) T (k+1)=NtS.endT (NtS.nodes (exN c A q nb p hok hB h4) (exM mb tm lm sv) T' 4):=by rw [hT'];rfl
   rw [hrec]
   obtain⟨h1,h2⟩:=ex_nodes c A q nb p hok hB h4 mb tm lm sv hr (by omega) 4 (Nat.le_refl _)
   obtain⟨e1,e2,e3,e4,e5⟩:=NtS.nodes_same (N:=exN c A q nb p hok hB h4) (M:=exM mb tm lm sv) T' 4
   refine⟨fun i hi=> ?_,fun i hi=> ?_,fun m hm=> ?_,?_,rfl,?_,fun _=>rfl⟩
   ·show (NtS.nodes _ _ T' 4).s i=_
    rw [h1 i hi,if_pos hi]
   ·show (NtS.nodes _ _ T' 4).on i=_
    rw [e2];exact hr.hon i hi
   ·show ((NtS.nodes _ _ T' 4).W m).tail++ [((NtS.nodes _ _ T' 4).G m).getD poZ]=_
    rw [e3,hr.hw m hm,h2 m hm,if_pos (by omega),wlB_succ]
    rfl
   ·show (NtS.nodes _ _ T' 4).t+1=_
    rw [e1,hr.ht]
   ·show (NtS.nodes _ _ T' 4).lc=_
    rw [e5,hr.hlc];omega
omit hok in
theorem ex_end (hF:(noF c.N.toNat).acts=[]) {i:Nat} (hi:i<4):(ntS c 16 i).k.sure=true∧(ntS c 16 i).k.shows=15:=by
 have hN:c.N.toNat=4:=by omega
 have hsu:=net_sure (N:=c.N.toNat) (F:=noF c.N.toNat) (cell:=netCell c) (by simp [noF]) (netCell_ok c) (by omega) (by omega) (noF_bd _) (t:=15) (i:=i) (by omega) (by omega)
 have hsh:=net_shows (F:=noF 4) (cell:=netCell c) (by simp [noF]) (netCell_ok c) (noF_bd _) hi
 refine⟨?_,?_⟩
 ·show tkSure (NdK.new c i) (ntS c 15 i) (ntI c 15 i)=true
  rw [ntSure c 15 i]
  show (ndT c.N.toNat (noF c.N.toNat) b0 onA (netCell c) (15+1) i).sure=true
  rw [hsu,hN];rfl
 ·show showF (tkW (NdK.new c i) (ntS c 15 i) (ntI c 15 i))=15
  rw [ntShows c hB (by omega) i]
  show (ndT c.N.toNat (noF c.N.toNat) b0 onA (netCell c) (15+1) i).shows=15
  rw [hN]
  exact hsh
end
end Go.Proofs.YtdilbjikeilhbaaGreatDoor
