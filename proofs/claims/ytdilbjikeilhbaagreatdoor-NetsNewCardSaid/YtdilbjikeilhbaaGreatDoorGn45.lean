import Derived.Test.YtdilbjikeilhbaaGreatDoorGn13
import Derived.Test.YtdilbjikeilhbaaGreatDoorGn44
import Derived.Test.YtdilbjikeilhbaaGreatDoorGn15
import Derived.Test.YtdilbjikeilhbaaGreatDoorGn18
import Derived.Test.YtdilbjikeilhbaaGreatDoorGn19
import Derived.Test.YtdilbjikeilhbaaGreatDoorGn40
namespace Go.Proofs.YtdilbjikeilhbaaGreatDoor
open Go.RowKit
set_option linter.unusedVariables false
set_option linter.unusedSimpArgs false
theorem cnt_lo {L:List Rw} {N B s:Nat} {c:List Value} (h:∀k,k<N→k≠B→hasC L k s=some c):∀k,k≤N→k≤cntL s L k c+(if s<k then 1 else 0)+(if B<k then 1 else 0)
 | 0,_=>by omega
 | k+1,hk=>by
   have ih:=cnt_lo h k (by omega)
   unfold cntL
   by_cases hB:k=B
   ·split at ih <;> split at ih <;> split <;> split <;> split <;> omega
   ·by_cases hs:k=s
    ·split at ih <;> split at ih <;> split <;> split <;> split <;> omega
    ·rw [if_pos ⟨hs,h k (by omega) hB⟩]
     split at ih <;> split at ih <;> split <;> split <;> omega
def RingM.okR (R:RingM):Prop:=(∀i,(R.lane i).okP)∧(∀W ∈ R.sent,∀i k,∀r ∈ W i k,Rw.ok r)∧∀a ∈ R.F.acts,a.row.ok
theorem sentM_ok {R:RingM} (h:R.okR) (i link ago:Nat):∀r ∈ R.sentM i link ago,r.ok:=by
 unfold RingM.sentM
 split
 ·simp
 ·rw [List.getD_eq_getElem?_getD]
  cases hx:R.sent[R.sent.length - ago]? with
  | none=>simp
  | some W=>exact h.2.1 W (List.mem_of_getElem? hx) _ _
theorem insM_ok {R:RingM} (h:R.okR) (i q:Nat):∀r ∈ R.insM i q,r.ok:=by
 unfold RingM.insM
 split
 ·exact sentM_ok h _ _ _
 ·split
  ·exact sentM_ok h _ _ _
  ·split
   ·exact sentM_ok h _ _ _
   ·exact sentM_ok h _ _ _
theorem RingM.okR_new (N:Nat) (F:FltM) (hF:∀a ∈ F.acts,a.row.ok):(RingM.new N F).okR:=⟨fun i=>LaneM.new_ok N i,by simp [RingM.new],hF⟩
theorem RingM.okR_hear {R:RingM} (h:R.okR) (on:Nat→Bool):(R.hear on).okR:=by
 refine⟨fun i=> ?_,h.2.1,h.2.2⟩
 show (if on i then (if R.on i then R.lane i else LaneM.new R.N i).put (R.insM i) else R.lane i).okP
 split
 ·refine LaneM.put_ok ?_ (fun q=>insM_ok h i q)
  split
  ·exact h.1 i
  ·exact LaneM.new_ok _ _
 ·exact h.1 i
theorem held_okR {R:RingM} (h:R.okR) (i:Nat):∀r ∈ R.held i,r.ok:=by
 unfold RingM.held
 split
 ·intro r hr
  obtain⟨s,-,rfl⟩:=tab_mem hr
  exact LaneM.held_ok (h.1 i) s
 ·simp
theorem set_okR {l:List Rw} (h:∀r ∈ l,r.ok) {r:Rw} (hr:r.ok) (k:Nat):∀x ∈ l.set k r,x.ok:=fun x hx=>by
 rcases List.mem_or_eq_of_mem_set hx with hx | rfl
 ·exact h x hx
 ·exact hr
theorem word_okR {R:RingM} (h:R.okR) {own:Nat→Rw} (ho:∀i,(own i).ok) (i q:Nat):∀r ∈ R.word own i q,r.ok:=by
 unfold RingM.word
 split
 ·exact LaneM.out_ok (LaneM.said_ok (h.1 i) (ho i)) q
 ·simp
theorem saidM_okR {R:RingM} (h:R.okR) (i k:Nat) {w o:List Rw} (hw:∀r ∈ w,r.ok) (ho:∀r ∈ o,r.ok):∀r ∈ R.saidM i k w o,r.ok:=by
 unfold RingM.saidM
 split
 ·split
  ·exact hw
  ·rename_i a ha
   have har:=h.2.2 a (List.mem_of_getElem? ha)
   simp only
   split
   ·simp
   ·split
    ·exact set_okR hw har _
    ·split
     ·exact sentM_ok h _ _ _
     ·split
      ·exact ho
      ·split
       ·exact set_okR hw har _
       ·exact hw
 ·exact hw
theorem RingM.okR_say {R:RingM} (h:R.okR) {own:Nat→Rw} (ho:∀i,(own i).ok):(R.say own).okR:=by
 refine⟨fun i=> ?_,fun W hW i k=> ?_,h.2.2⟩
 ·show (if R.on i then (R.lane i).said (own i) else R.lane i).okP
  split
  ·exact LaneM.said_ok (h.1 i) (ho i)
  ·exact h.1 i
 ·rcases List.mem_append.1 hW with hW | hW
  ·exact h.2.1 W hW i k
  ·rw [List.mem_singleton.1 hW]
   unfold RingM.outM
   split
   ·exact saidM_okR h _ _ (word_okR h ho _ _) (word_okR h ho _ _)
   ·exact saidM_okR h _ _ (word_okR h ho _ _) (word_okR h ho _ _)
section
variable (N:Nat) (F:FltM) (on:Nat→Nat→Bool) (C:Nat→Nat→List Value)
def Bd (i:Nat):Prop:=F.at_ % N=i∧F.link=false
theorem bd_of {i:Nat} (h:¬Bd N F i):F.at_ % N=i→F.link=true:=fun e=>by
 cases hl:F.link
 ·exact absurd ⟨e,hl⟩ h
 ·rfl
theorem tabL_at {l:List Rw} {s:Nat} {r:Rw} (h:l[s]? =some r):(tabL l)[s]? =some ⟨r.is,r.c⟩:=by
 unfold tabL;rw [List.getElem?_map,h];rfl
theorem agreeL_len (h4:4≤N) (h16:N≤16) (l:List Rw):(agreeL N l).length=N:=by
 unfold agreeL
 rw [if_pos (by omega)]
 simp
end
section
variable (N:Nat) (F:FltM) (on:Nat→Nat→Bool) (own:Nat→Nat→Rw) (C:Nat→Nat→List Value) (sy:Nat→Nat→Bool)
noncomputable def heldO (t i:Nat):List Rw:=((rgT N F on own t).hear (on t)).held i
structure SayP:Prop where
 on_:∀t i,sy t i=true→on t i=true
 own_:∀t i,own t i=if sy t i=true then ⟨true,C t i,tabL (heldO N F on own t i)⟩ else rw0
 c:∀t i,okL cellK (C t i)=true
 ok:∀t i,(own t i).ok
theorem heldO_len {t i:Nat} (h:on t i=true) (hi:i<N):(heldO N F on own t i).length=N:=by
 unfold heldO
 rw [held_all N F on own t i h hi,tab_len]
variable {N F on own C sy} (h:SayP N F on own C sy)
include h
theorem heldO_at (h4:4≤N) {t i s:Nat} (hs:s<N) (hi:i<N) (bs:¬Bd N F s) (bi:¬Bd N F i) (hon:on t i=true) :
 ∃r,(heldO N F on own t i)[s]? =some r∧(∀lo,lo+N≤t→(∀t i,i<N→lo≤t→on t i=true)→r=(own (t - N) s).plain N)∧(r.is=true→N≤t∧r=(own (t - N) s).plain N):=
 held_truthL N F on own h4 hs hi (bd_of N F bs) (bd_of N F bi) h.ok hon
theorem own_plainO (h16:N≤16) {t k:Nat} (hs:sy t k=true):(own t k).plain N=⟨true,nrm (C t k),fillH N (tabL (heldO N F on own t k))⟩:=by
 rw [h.own_,if_pos hs]
 unfold Rw.plain
 rw [if_pos (by simp [mayN];omega)]
 rfl
theorem claim_rightO (h4:4≤N) (h16:N≤16) {t i k s:Nat} (hi:i<N) (hk:k<N) (hs:s<N) (bi:¬Bd N F i) (bk:¬Bd N F k) (bs:¬Bd N F s) (hon:on t i=true) :
 (hasC (heldO N F on own t i) k s=none∨(2*N≤t∧sy (t - 2*N) s=true∧hasC (heldO N F on own t i) k s=some (nrm (C (t - 2*N) s))))∧
 (∀lo,lo+2*N≤t→(∀t i,i<N→lo≤t→on t i=true)→sy (t - N) k=true→sy (t - 2*N) s=true→hasC (heldO N F on own t i) k s=some (nrm (C (t - 2*N) s))):=by
 obtain⟨r,hr,hall,his⟩:=heldO_at h h4 hk hi bk bi hon
 have hasE:∀{x:Rw},r=x→hasC (heldO N F on own t i) k s=if x.is then (match x.t[s]? with | some h=>if h.is then some h.c else none | none=>none) else none:=fun {x} e=>by
  unfold hasC;rw [hr,e];rfl
 have key:N≤t→sy (t - N) k=true→r=(own (t - N) k).plain N→
  (hasC (heldO N F on own t i) k s=none∨(2*N≤t∧sy (t - 2*N) s=true∧hasC (heldO N F on own t i) k s=some (nrm (C (t - 2*N) s))))∧
  (∀lo,lo+2*N≤t→(∀t i,i<N→lo≤t→on t i=true)→sy (t - N) k=true→sy (t - 2*N) s=true→hasC (heldO N F on own t i) k s=some (nrm (C (t - 2*N) s))):=fun ht hok he=>by
  obtain⟨q,hq,qall,qis⟩:=heldO_at h h4 hs hk bs bk (h.on_ _ _ hok)
  have hE:=hasE (he.trans (own_plainO h h16 hok))
  have hfi:(fillH N (tabL (heldO N F on own (t - N) k)))[s]? =some (Hd.nrm ⟨q.is,q.c⟩):=by
   rw [fillH_at N _ s hs,tabL_at hq]
  simp only [hfi,if_true] at hE
  have e2:t - N - N=t - 2*N:=by omega
  by_cases hqi:q.is=true
  ·obtain⟨h1,h2⟩:=qis hqi
   have hon2:sy (t - N - N) s=true:=by
    by_cases ho:sy (t - N - N) s=true
    ·exact ho
    ·rw [h.own_,if_neg ho,rw0_plain] at h2
     rw [h2] at hqi;cases hqi
   have hqc:q.c=nrm (C (t - 2*N) s):=by rw [h2,own_plainO h h16 hon2,e2]
   have hv:hasC (heldO N F on own t i) k s=some (nrm (C (t - 2*N) s)):=by
    rw [hE]
    unfold Hd.nrm
    simp only [hqi,if_true]
    rw [hqc,nrm_twice (h.c _ _)]
   exact⟨.inr ⟨by omega,by rw [←e2];exact hon2,hv⟩,fun _ _ _ _ _=>hv⟩
  ·have hn:hasC (heldO N F on own t i) k s=none:=by
    rw [hE]
    have hf:q.is=false:=by simpa using hqi
    unfold Hd.nrm
    rw [hf];rfl
   refine⟨.inl hn,fun lo hlo hon' hk' hs'=> ?_⟩
   have:=qall lo (by omega) hon'
   rw [this,own_plainO h h16 (by rw [e2];exact hs')] at hqi
   exact absurd rfl hqi
 by_cases hri:r.is=true
 ·obtain⟨h1,h2⟩:=his hri
  have hok:sy (t - N) k=true:=by
   by_cases ho:sy (t - N) k=true
   ·exact ho
   ·rw [h.own_,if_neg ho,rw0_plain] at h2
    rw [h2] at hri;cases hri
  exact key h1 hok h2
 ·have hf:r.is=false:=by simpa using hri
  refine⟨.inl ?_,fun lo hlo hon' hk' hs'=> ?_⟩
  ·rw [hasE rfl,hf];rfl
  ·exact (key (by omega) hk' (hall lo (by omega) hon')).2 lo hlo hon' hk' hs'
theorem agree_rightO (h4:4≤N) (h16:N≤16) {t i s:Nat} (hi:i<N) (hs:s<N) (bi:¬Bd N F i) (bs:¬Bd N F s) (hon:on t i=true) :
 ∃x,(agreeL N (heldO N F on own t i))[s]? =some x∧(∀lo,lo+2*N≤t→(∀t i,i<N→lo≤t→on t i=true)→(∀t k,k<N→¬Bd N F k→lo≤t→sy t k=true)→x=⟨true,nrm (C (t - 2*N) s)⟩)∧(x.is=true→2*N≤t∧sy (t - 2*N) s=true∧x=⟨true,nrm (C (t - 2*N) s)⟩):=by
 have hl:=heldO_len N F on own hon hi
 have hB:∃B,(∀k,k≠B→¬Bd N F k):=⟨F.at_ % N,fun k hk h=>hk h.1.symm⟩
 obtain⟨B,hB⟩:=hB
 refine⟨mostH N s (heldO N F on own t i) N,?_,?_,?_⟩
 ·unfold agreeL
  rw [if_pos (by omega),List.getElem?_map,hl]
  simp only [Int.toNat_natCast,Nat.min_self]
  rw [List.getElem?_range hs]
  rfl
 ·intro lo hlo hall hsy
  refine (MostP.eq (n:=N) hs (Nat.le_refl _) (.inl ⟨_,rfl,nrm_ok (h.c _ _),?_⟩)).symm
  have:=cnt_lo (N:=N) (B:=B) (s:=s) (L:=heldO N F on own t i) (c:=nrm (C (t - 2*N) s)) (fun k hk hkB=>(claim_rightO h h4 h16 hi hk hs bi (hB k hkB) bs hon).2 lo hlo hall (hsy _ _ hk (hB k hkB) (by omega)) (hsy _ _ hs bs (by omega))) N (Nat.le_refl _)
  rw [if_pos hs] at this
  split at this <;> omega
 ·intro hx
  by_cases hmx:∃c,okL cellK c=true∧N - 1<2*cntL s (heldO N F on own t i) N c
  ·have e:mostH N s (heldO N F on own t i) N=⟨true,Classical.choose hmx⟩:=by unfold mostH;rw [dif_pos hmx]
   obtain⟨hc,hm⟩:=Classical.choose_spec hmx
   generalize Classical.choose hmx=c at e hc hm
   have hex:∃k,k<N∧k≠B∧hasC (heldO N F on own t i) k s=some c:=by
    by_cases hne:∃k,k<N∧k≠B∧hasC (heldO N F on own t i) k s=some c
    ·exact hne
    ·exfalso
     have hcnt:∀k,k≤N→cntL s (heldO N F on own t i) k c≤if B<k then 1 else 0:=fun k=>by
      induction k with
      | zero=>intro _;simp [cntL]
      | succ k ih=>
        intro hk
        have:=ih (by omega)
        rw [cntL]
        by_cases hkB:k=B
        ·subst hkB
         rw [if_neg (by omega)] at this
         have h1:∀(P:Prop) (inst:Decidable P),@ite Nat P inst 1 0≤1:=fun P inst=>by split <;> omega
         show _≤if k<k+1 then 1 else 0
         rw [if_pos (Nat.lt_succ_self k)]
         exact Nat.le_trans (Nat.add_le_add this (h1 _ _)) (by omega)
        ·rw [if_neg (fun h=>hne ⟨k,by omega,hkB,h.2⟩)]
         split at this <;> split <;> omega
     have:=hcnt N (Nat.le_refl _)
     split at this <;> omega
   obtain⟨k,hk,hkB,hh⟩:=hex
   rcases (claim_rightO h h4 h16 hi hk hs bi (hB k hkB) bs hon).1 with h' | ⟨h1,h2,h3⟩
   ·rw [h'] at hh;cases hh
   ·rw [h3] at hh
    cases hh
    exact⟨h1,h2,e⟩
  ·have e:mostH N s (heldO N F on own t i) N=hd0:=by unfold mostH;rw [dif_neg hmx]
   rw [e] at hx;cases hx
end
structure NdM where
 s:Int
 left:Int
 cold:Int
 ck:List Int
 long:Int
 sure:Bool
 shows:Int
def NdM.new:NdM:=⟨0,0,0,[],0,false,-1⟩
def pwM (boot:Int) (x:NdM) (p:Bool):Int×Int×Int:=if p=true then pwOn boot x.s x.left x.cold else (0,x.left,x.cold)
def coldM (q:Int×Int×Int):Int:=if q.1=2 then q.2.2 else -1
def ageM (n:Nat) (boot:Int) (p:Bool) (A:List Hd) (x:NdM):Int:=ownF n (commonF n A) (coldM (pwM boot x p))
def longN (n:Nat) (A:List Hd) (x:NdM):Int:=cqOn x.long (2*n) (evenF n A (commonF n A))
def ckN (n:Nat) (boot:Int) (p:Bool) (A:List Hd) (x:NdM):List Int:=lastN (2*n) (x.ck++ [ageM n boot p A x])
def NdM.step (n:Nat) (boot:Int) (p:Bool) (A:List Hd) (x:NdM):NdM:=
 if p=true then ⟨(pwM boot x p).1,(pwM boot x p).2.1,(pwM boot x p).2.2,ckN n boot p A x,longN n A x,longN n A x==2*n,showF (ckN n boot p A x)⟩
 else ⟨(pwM boot x p).1,(pwM boot x p).2.1,(pwM boot x p).2.2,[],0,false,-1⟩
theorem NdM.step_s (n:Nat) (boot:Int) (p:Bool) (A:List Hd) (x:NdM):(x.step n boot p A).s=(pwM boot x p).1∧(x.step n boot p A).left=(pwM boot x p).2.1∧(x.step n boot p A).cold=(pwM boot x p).2.2:=by
 unfold NdM.step;split <;> exact⟨rfl,rfl,rfl⟩
def setAge (a:Int) (c:List Value):List Value:=.int .i64 a :: c.drop 1
theorem setAge_ok {a:Int} {c:List Value} (hc:okL cellK c=true) (h1: -1≤a) (h2:a≤1099511627776):okL cellK (setAge a c)=true:=by
 obtain⟨C,rfl,hC⟩:=cell_of hc
 obtain⟨h0,hr⟩:=(cell_ok_parts hC).1 hc
 refine (cell_ok_parts (c:={ C with age:=a }) hC).2 ⟨?_,hr⟩
 simp [Lit.wf,IntKind.min,IntKind.max,IntKind.signed,IntKind.bits]
 omega
theorem age_nrm {a:Int} {c:List Value} (hc:okL cellK c=true) (h1: -1≤a) (h2:a≤1099511627776):ageL (nrm (setAge a c))=a:=by
 obtain⟨C,rfl,hC⟩:=cell_of hc
 have:setAge a C.vals=({ C with age:=a }:Cl).vals:=rfl
 rw [this,nrm_vals { C with age:=a } hC]
 show (if a<0∨1099511627776<a then -1 else a)=a
 split <;> omega
noncomputable def ownN (n:Nat) (boot:Int) (p:Bool) (held:List Rw) (c:List Value) (x:NdM):Rw:=
 if p=true∧(pwM boot x p).1=2 then ⟨true,setAge (ageM n boot p (agreeL n held) x) c,tabL held⟩ else rw0
structure BtM where
 R:RingM
 nd:Nat→NdM
noncomputable def BtM.step (n:Nat) (boot:Nat→Int) (S:BtM) (p:Nat→Bool) (c:Nat→List Value):BtM:=
 ⟨(S.R.hear p).say fun i=>ownN n (boot i) (p i) ((S.R.hear p).held i) (c i) (S.nd i),fun i=>(S.nd i).step n (boot i) (p i) (agreeL n ((S.R.hear p).held i))⟩
section
variable (N:Nat) (F:FltM) (boot:Nat→Int) (on:Nat→Nat→Bool) (cell:Nat→Nat→List Value)
noncomputable def btT:Nat→BtM
 | 0=>⟨RingM.new N F,fun _=>NdM.new⟩
 | t+1=>(btT t).step N boot (on t) (cell t)
noncomputable def ownT (t i:Nat):Rw:=ownN N (boot i) (on t i) (((btT N F boot on cell t).R.hear (on t)).held i) (cell t i) ((btT N F boot on cell t).nd i)
theorem rgT_bt (t:Nat):rgT N F on (ownT N F boot on cell) t=(btT N F boot on cell t).R:=by
 induction t with
 | zero=>rfl
 | succ t ih=>rw [rgT_succ,ih];rfl
noncomputable def ndT (t i:Nat):NdM:=(btT N F boot on cell t).nd i
noncomputable def agT (t i:Nat):List Hd:=agreeL N (heldO N F on (ownT N F boot on cell) t i)
theorem heldO_bt (t i:Nat):heldO N F on (ownT N F boot on cell) t i=((btT N F boot on cell t).R.hear (on t)).held i:=by
 unfold heldO;rw [rgT_bt]
theorem ndT_succ (t i:Nat):ndT N F boot on cell (t+1) i=(ndT N F boot on cell t i).step N (boot i) (on t i) (agT N F boot on cell t i):=by
 unfold agT;rw [heldO_bt];rfl
noncomputable def pwT (t i:Nat):Int×Int×Int:=pwM (boot i) (ndT N F boot on cell t i) (on t i)
noncomputable def comT (t i:Nat):Int:=commonF N (agT N F boot on cell t i)
noncomputable def ageT (t i:Nat):Int:=ageM N (boot i) (on t i) (agT N F boot on cell t i) (ndT N F boot on cell t i)
noncomputable def sayT (t i:Nat):Bool:=on t i&&decide ((pwT N F boot on cell t i).1=2)
noncomputable def cT (t i:Nat):List Value:=setAge (ageT N F boot on cell t i) (cell t i)
theorem ageT_eq (t i:Nat):ageT N F boot on cell t i=ownF N (comT N F boot on cell t i) (coldM (pwT N F boot on cell t i)):=rfl
theorem ageT_range (t i:Nat): -1≤ageT N F boot on cell t i∧ageT N F boot on cell t i≤1099511627776:=ownF_range _ _ _
theorem ownT_eq (t i:Nat):ownT N F boot on cell t i=if sayT N F boot on cell t i=true then ⟨true,cT N F boot on cell t i,tabL (heldO N F on (ownT N F boot on cell) t i)⟩ else rw0:=by
 unfold cT ageT agT
 rw [heldO_bt]
 unfold ownT ownN sayT pwT ndT
 by_cases h:on t i=true∧(pwM (boot i) ((btT N F boot on cell t).nd i) (on t i)).1=2
 ·rw [if_pos h,if_pos (by simp [h.1];exact h.1 ▸ h.2)]
 ·rw [if_neg h,if_neg (by simpa using h)]
variable {N F boot on cell}
theorem bt_ok (hF:∀a ∈ F.acts,a.row.ok) (hc:∀t i,okL cellK (cell t i)=true) (t:Nat):(btT N F boot on cell t).R.okR∧∀i,(ownT N F boot on cell t i).ok:=by
 have own_ok:∀t,(btT N F boot on cell t).R.okR→∀i,(ownT N F boot on cell t i).ok:=fun t h i=>by
  rw [ownT_eq]
  split
  ·refine⟨setAge_ok (hc _ _) (ageT_range N F boot on cell t i).1 (ageT_range N F boot on cell t i).2,?_⟩
   rw [heldO_bt]
   exact tabL_ok (held_okR (RingM.okR_hear h _) i)
  ·exact⟨by kernel_rfl,by simp [rw0]⟩
 induction t with
 | zero=>exact⟨RingM.okR_new N F hF,own_ok 0 (RingM.okR_new N F hF)⟩
 | succ t ih=>
   have h1:(btT N F boot on cell (t+1)).R.okR:=RingM.okR_say (RingM.okR_hear ih.1 _) ih.2
   exact⟨h1,own_ok (t+1) h1⟩
theorem bt_say (hF:∀a ∈ F.acts,a.row.ok) (hc:∀t i,okL cellK (cell t i)=true):SayP N F on (ownT N F boot on cell) (cT N F boot on cell) (sayT N F boot on cell) where
 on_:=fun t i h=>by unfold sayT at h;simp at h;exact h.1
 own_:=fun t i=>ownT_eq N F boot on cell t i
 c:=fun t i=>setAge_ok (hc _ _) (ageT_range N F boot on cell t i).1 (ageT_range N F boot on cell t i).2
 ok:=fun t i=>(bt_ok hF hc t).2 i
theorem pw_inv (hb:∀i,0≤boot i) (t i:Nat):((ndT N F boot on cell t i).s=0∨(ndT N F boot on cell t i).s=1∨(ndT N F boot on cell t i).s=2)∧0≤(ndT N F boot on cell t i).left∧(ndT N F boot on cell t i).left≤boot i∧0≤(ndT N F boot on cell t i).cold∧(ndT N F boot on cell t i).cold≤t∧(ndT N F boot on cell t i).cold≤1099511627776:=by
 induction t with
 | zero=>exact⟨.inl rfl,Int.le_refl _,hb i,Int.le_refl _,Int.le_refl _,by show (0:Int)≤_;decide⟩
 | succ t ih=>
   have hbi:=hb i
   rw [ndT_succ]
   obtain⟨e1,e2,e3⟩:=(ndT N F boot on cell t i).step_s N (boot i) (on t i) (agT N F boot on cell t i)
   rw [e1,e2,e3]
   generalize ndT N F boot on cell t i=x at *
   unfold pwM
   cases on t i with
   | false=>
     simp only [Bool.false_eq_true,if_false]
     obtain⟨-,i1,i2,i3,i4,i5⟩:=ih
     exact⟨.inl trivial,i1,i2,i3,by push_cast;omega,i5⟩
   | true=>
     simp only [if_true]
     unfold pwOn
     rcases ih with ⟨h | h | h,ih⟩ <;> rw [h] <;> simp only [if_true,if_false,show ¬(0:Int)=2 from by decide,show ¬(1:Int)=2 from by decide,show ¬(1:Int)=0 from by decide] <;> (try split) <;> simp <;> omega
theorem pw_on (hb:∀i,0≤boot i) {i a:Nat}:∀k,(∀t,a≤t→t≤a+k→on t i=true)→(ndT N F boot on cell (a+k+1) i).s=2∨((ndT N F boot on cell (a+k+1) i).s=1∧(ndT N F boot on cell (a+k+1) i).left≤boot i - (k+1)):=by
 have one:∀t (m:Int),on t i=true→((ndT N F boot on cell t i).s=2∨((ndT N F boot on cell t i).s=1∧(ndT N F boot on cell t i).left≤m)∨((ndT N F boot on cell t i).s=0∧boot i≤m))→
  (ndT N F boot on cell (t+1) i).s=2∨((ndT N F boot on cell (t+1) i).s=1∧(ndT N F boot on cell (t+1) i).left≤m - 1):=fun t m ho hx=>by
  rw [ndT_succ]
  obtain⟨e1,e2,e3⟩:=(ndT N F boot on cell t i).step_s N (boot i) (on t i) (agT N F boot on cell t i)
  rw [e1,e2]
  generalize ndT N F boot on cell t i=x at *
  unfold pwM
  rw [if_pos ho]
  unfold pwOn
  rcases hx with h | ⟨h,h2⟩ | ⟨h,h2⟩ <;> rw [h] <;> simp only [if_true,if_false,show ¬(0:Int)=2 from by decide,show ¬(1:Int)=2 from by decide,show ¬(1:Int)=0 from by decide] <;> (try split) <;> simp <;> omega
 intro k
 induction k with
 | zero=>
   intro h
   obtain⟨h1,h2,h3,-⟩:=pw_inv (N:=N) (F:=F) (on:=on) (cell:=cell) hb a i
   have:=one a (boot i) (h a (by omega) (by omega)) (by rcases h1 with h1 | h1 | h1;exact .inr (.inr ⟨h1,Int.le_refl _⟩);exact .inr (.inl ⟨h1,h3⟩);exact .inl h1)
   simpa using this
 | succ k ih=>
   intro h
   have:=ih fun t h1 h2=>h t h1 (by omega)
   have h2:=one (a+k+1) (boot i - (k+1)) (h _ (by omega) (by omega)) (by rcases this with h | h;exact .inl h;exact .inr (.inl h))
   rcases h2 with h2 | ⟨h2,h3⟩
   ·exact .inl h2
   ·refine .inr ⟨h2,?_⟩
    have:a+(k+1)+1=a+k+1+1:=by omega
    rw [this];push_cast;omega
theorem say_on (hb:∀i,0≤boot i) {i a t:Nat} (h:∀t',a≤t'→t'≤t→on t' i=true) (ht:(a:Int)+boot i≤t):sayT N F boot on cell t i=true:=by
 have hat:a≤t:=by have:=hb i;omega
 have h1:=pw_on (N:=N) (F:=F) (cell:=cell) hb (i:=i) (a:=a) (t - a) (fun t' h1 h2=>h t' h1 (by omega))
 rw [show a+(t - a)+1=t+1 from by omega] at h1
 have h2:=(pw_inv (N:=N) (F:=F) (on:=on) (cell:=cell) hb (t+1) i).2.1
 have h3:(ndT N F boot on cell (t+1) i).s=2:=by
  rcases h1 with h1 | ⟨-,h1⟩
  ·exact h1
  ·omega
 rw [ndT_succ,((ndT N F boot on cell t i).step_s N (boot i) (on t i) (agT N F boot on cell t i)).1] at h3
 unfold sayT pwT
 rw [h3,h t hat (Nat.le_refl _)]
 rfl
theorem ck_len (t i:Nat):(ndT N F boot on cell t i).ck.length≤2*N:=by
 cases t with
 | zero=>exact Nat.zero_le _
 | succ t=>
   rw [ndT_succ]
   unfold NdM.step
   split
   ·show (lastN _ _).length≤_
    unfold lastN
    rw [List.length_drop];omega
   ·exact Nat.zero_le _
theorem ck_run {i:Nat}:∀m t,m≤t→m≤2*N→(∀d,d<m→on (t - 1 - d) i=true)→∃pre,(ndT N F boot on cell t i).ck=pre++(List.range m).map fun j=>ageT N F boot on cell (t - m+j) i
 | 0,t,_,_,_=>⟨(ndT N F boot on cell t i).ck,by simp⟩
 | m+1,0,h,_,_=>by omega
 | m+1,t+1,h,h2,ho=>by
   obtain⟨pre,e⟩:=ck_run m t (by omega) (by omega) (fun d hd=>by have:=ho (d+1) (by omega);rwa [show t+1 - 1 - (d+1)=t - 1 - d from by omega] at this)
   have hon:=ho 0 (by omega)
   rw [show t+1 - 1 - 0=t from by omega] at hon
   rw [ndT_succ]
   have e3:((ndT N F boot on cell t i).step N (boot i) (on t i) (agT N F boot on cell t i)).ck=lastN (2*N) ((ndT N F boot on cell t i).ck++ [ageT N F boot on cell t i]):=by
    unfold NdM.step
    rw [if_pos hon]
    rfl
   rw [e3,e,List.append_assoc]
   have e4:((List.range m).map fun j=>ageT N F boot on cell (t - m+j) i)++ [ageT N F boot on cell t i]=(List.range (m+1)).map fun j=>ageT N F boot on cell (t+1 - (m+1)+j) i:=by
    rw [List.range_succ,List.map_append]
    simp only [List.map_cons,List.map_nil]
    rw [show t+1 - (m+1)=t - m from by omega,show t - m+m=t from by omega]
   rw [e4]
   unfold lastN
   refine⟨pre.drop ((pre++(List.range (m+1)).map fun j=>ageT N F boot on cell (t+1 - (m+1)+j) i).length - 2*N),?_⟩
   rw [List.drop_append_of_le_length]
   simp;omega
theorem ck_full {i t:Nat} (ht:2*N≤t) (ho:∀d,d<2*N→on (t - 1 - d) i=true):(ndT N F boot on cell t i).ck=(List.range (2*N)).map fun j=>ageT N F boot on cell (t - 2*N+j) i:=by
 obtain⟨pre,e⟩:=ck_run (N:=N) (F:=F) (boot:=boot) (on:=on) (cell:=cell) (i:=i) (2*N) t ht (Nat.le_refl _) ho
 have:=ck_len (N:=N) (F:=F) (boot:=boot) (on:=on) (cell:=cell) t i
 rw [e] at this ⊢
 simp at this
 have hp:pre=[]:=List.eq_nil_of_length_eq_zero (by omega)
 rw [hp];rfl
theorem long_ge0 (t i:Nat):0≤(ndT N F boot on cell t i).long:=by
 induction t with
 | zero=>exact Int.le_refl _
 | succ t ih=>
   rw [ndT_succ]
   unfold NdM.step
   split
   ·simp only [longN,cqOn];split <;> omega
   ·exact Int.le_refl _
theorem long_le (t i:Nat):(ndT N F boot on cell t i).long≤2*N:=by
 cases t with
 | zero=>show (0:Int)≤_;omega
 | succ t=>
   rw [ndT_succ]
   unfold NdM.step
   split
   ·simp only [longN,cqOn];split <;> omega
   ·simp only;omega
theorem sure_iff (t i:Nat):(ndT N F boot on cell (t+1) i).sure=true↔on t i=true∧(ndT N F boot on cell (t+1) i).long=2*N:=by
 rw [ndT_succ]
 unfold NdM.step
 by_cases h:on t i=true
 ·rw [if_pos h];simp [h]
 ·rw [if_neg h];simp [h]
theorem shows_on {t i:Nat} (h:on t i=true):(ndT N F boot on cell (t+1) i).shows=showF (ndT N F boot on cell (t+1) i).ck:=by
 rw [ndT_succ]
 unfold NdM.step
 rw [if_pos h]
end
theorem evenN_ge {L:List Hd} {c:Int} {B:Nat} (h:∀(s:Nat) (x:Hd),s≠B→L[s]? =some x→x.is=true∧ageL x.c=c):∀k,k≤L.length→k≤evenN (L.take k) c+(if B<k then 1 else 0)
 | 0,_=>by omega
 | k+1,hk=>by
   obtain⟨x,hx⟩:∃x,L[k]? =some x:=⟨_,List.getElem?_eq_getElem (by omega)⟩
   have ih:=evenN_ge h k (by omega)
   rw [evenN_succ L c k x hx]
   by_cases hB:k=B
   ·subst hB
    rw [if_neg (by omega)] at ih
    rw [if_pos (Nat.lt_succ_self k)]
    omega
   ·obtain⟨h1,h2⟩:=h k x hB hx
    have e:(if (x.is&&ageL x.c==c)=true then 1 else 0:Nat)=1:=by rw [h1,h2];simp
    rw [e]
    split at ih <;> split <;> omega
theorem even_parts {n:Nat} {L:List Hd} {c:Int} (hl:L.length=n) (h:evenF n L c=true):0≤c∧c≤1099511627776∧n≤evenN L c+1:=by
 unfold evenF at h
 simp only [Bool.and_eq_true,decide_eq_true_eq] at h
 obtain⟨⟨⟨⟨h1,h2⟩,h3⟩,h4⟩,h5⟩:=h
 rw [Int.toNat_natCast,←hl,List.take_length] at h5
 exact⟨h3,h4,by omega⟩
theorem most_ex (G:List Int):∃v,MostAP G v:=by
 induction G with
 | nil=>exact⟨-1,.inl ⟨rfl,rfl⟩⟩
 | cons a G ih=>
   obtain⟨v,⟨rfl,rfl⟩ | ⟨h1,h2⟩⟩:=ih
   ·exact⟨a,.inr ⟨by simp,by simp⟩⟩
   ·by_cases h:a≤v
    ·exact⟨v,.inr ⟨by simp [h1],fun x hx=>by rcases List.mem_cons.1 hx with rfl | hx;exact h;exact h2 x hx⟩⟩
    ·exact⟨a,.inr ⟨by simp,fun x hx=>by rcases List.mem_cons.1 hx with rfl | hx;exact Int.le_refl _;have:=h2 x hx;omega⟩⟩
theorem least_ex (G:List Int):∃v,LeastP G v:=by
 induction G with
 | nil=>exact⟨-1,.inl ⟨rfl,rfl⟩⟩
 | cons a G ih=>
   obtain⟨v,⟨rfl,rfl⟩ | ⟨h1,h2⟩⟩:=ih
   ·exact⟨a,.inr ⟨by simp,by simp⟩⟩
   ·by_cases h:v≤a
    ·exact⟨v,.inr ⟨by simp [h1],fun x hx=>by rcases List.mem_cons.1 hx with rfl | hx;exact h;exact h2 x hx⟩⟩
    ·exact⟨a,.inr ⟨by simp,fun x hx=>by rcases List.mem_cons.1 hx with rfl | hx;exact Int.le_refl _;have:=h2 x hx;omega⟩⟩
theorem goodL_mem {bad:Nat} {L:List Hd}:∀(k:Nat) (x:Int),k≤L.length→x ∈ goodL bad L k→∃s h,s<k∧s≠bad∧L[s]? =some h∧okAge h=true∧x=ageL h.c
 | 0,x,_,h=>by cases h
 | k+1,x,hk,h=>by
   obtain⟨y,hy⟩:∃y,L[k]? =some y:=⟨_,List.getElem?_eq_getElem (by omega)⟩
   rw [goodL_succ hy] at h
   rcases List.mem_append.1 h with h | h
   ·obtain⟨s,z,h1,h2⟩:=goodL_mem k x (by omega) h
    exact⟨s,z,by omega,h2⟩
   ·split at h
    ·cases h
    ·rename_i hb
     unfold oneAge at h
     split at h
     ·rename_i ho
      exact⟨k,y,by omega,hb,hy,ho,by simpa using h⟩
     ·cases h
theorem goodL_full {bad:Nat} {L:List Hd}:∀k,k≤L.length→(∀(s:Nat) (h:Hd),s<k→s≠bad→L[s]? =some h→okAge h=true)→(goodL bad L k).length=if bad<k then k - 1 else k
 | 0,_,_=>by simp [goodL]
 | k+1,hk,h=>by
   obtain⟨y,hy⟩:∃y,L[k]? =some y:=⟨_,List.getElem?_eq_getElem (by omega)⟩
   have ih:=goodL_full k (by omega) fun s z h1=>h s z (by omega)
   rw [goodL_succ hy,List.length_append,ih]
   by_cases hb:k=bad
   ·rw [if_pos hb]
    simp only [List.length_nil]
    split <;> split <;> omega
   ·rw [if_neg hb]
    have:=h k y (by omega) hb hy
    unfold oneAge
    rw [if_pos this]
    simp only [List.length_cons,List.length_nil]
    split <;> split <;> omega
section
variable {N:Nat} {F:FltM} {boot:Nat→Int} {on:Nat→Nat→Bool} {cell:Nat→Nat→List Value}
variable (hF:∀a ∈ F.acts,a.row.ok) (hc:∀t i,okL cellK (cell t i)=true) (hb:∀i,0≤boot i) (h4:4≤N) (h16:N≤16)
theorem ag_len (h4:4≤N) (h16:N≤16) (t i:Nat):(agT N F boot on cell t i).length=N:=agreeL_len N h4 h16 _
theorem not_bd {s:Nat} (h:s≠F.at_ % N):¬Bd N F s:=fun hb=>h hb.1.symm
theorem cold_le (hb:∀i,0≤boot i) (t i:Nat):coldM (pwT N F boot on cell t i)≤t+1:=by
 have h:=(pw_inv (N:=N) (F:=F) (on:=on) (cell:=cell) hb (t+1) i).2.2.2.2.1
 rw [ndT_succ,((ndT N F boot on cell t i).step_s N (boot i) (on t i) (agT N F boot on cell t i)).2.2] at h
 unfold coldM pwT
 split
 ·push_cast at h;exact h
 ·omega
include hF hc h4 h16
theorem ag_at {t i s:Nat} (hi:i<N) (hs:s<N) (bi:¬Bd N F i) (bs:¬Bd N F s) (ho:on t i=true) {x:Hd} (hx:(agT N F boot on cell t i)[s]? =some x) (his:x.is=true) :
 2*N≤t∧sayT N F boot on cell (t - 2*N) s=true∧ageL x.c=ageT N F boot on cell (t - 2*N) s:=by
 obtain⟨y,hy,-,h2⟩:=agree_rightO (bt_say (boot:=boot) (on:=on) hF hc) h4 h16 hi hs bi bs ho
 have:(agT N F boot on cell t i)[s]? =some y:=hy
 rw [hx] at this
 cases this
 obtain⟨h3,h5,h6⟩:=h2 his
 refine⟨h3,h5,?_⟩
 rw [h6]
 exact age_nrm (hc _ _) (ageT_range N F boot on cell _ _).1 (ageT_range N F boot on cell _ _).2
include hb
theorem age_com:∀t i:Nat,i<N→¬Bd N F i→on t i=true→ageT N F boot on cell t i≤t+1∧(0≤comT N F boot on cell t i→comT N F boot on cell t i+2*N≤t+1):=by
 intro t
 induction t using Nat.strongRecOn with
 | _ t ih=>
   intro i hi bi ho
   have hl:=ag_len (F:=F) (boot:=boot) (on:=on) (cell:=cell) h4 h16 t i
   obtain⟨least,hle⟩:=least_ex (goodL (F.at_ % N) (agT N F boot on cell t i) N)
   obtain⟨most,hmo⟩:=most_ex (goodL (F.at_ % N) (agT N F boot on cell t i) N)
   have hm:=(middle h4 h16 hl (F.at_ % N) hle hmo).1
   have h2:0≤comT N F boot on cell t i→comT N F boot on cell t i+2*N≤t+1:=fun h0=>by
    obtain⟨k1,k2,k3⟩:=hm h0
    rcases hmo with ⟨he,-⟩ | ⟨hmem,-⟩
    ·rw [he] at k1;simp at k1;omega
    ·obtain⟨s,x,hs,hsb,hx,hok,rfl⟩:=goodL_mem N most (by omega) hmem
     unfold okAge at hok
     simp only [Bool.and_eq_true] at hok
     obtain⟨q1,q2,q3⟩:=ag_at hF hc h4 h16 hi hs bi (not_bd hsb) ho hx hok.1
     have q4:on (t - 2*N) s=true:=by unfold sayT at q2;simp at q2;exact q2.1
     have:=(ih (t - 2*N) (by omega) s hs (not_bd hsb) q4).1
     rw [←q3] at this
     have k3':comT N F boot on cell t i≤ageL x.c:=k3
     omega
   refine⟨?_,h2⟩
   have hcl:=cold_le (N:=N) (F:=F) (on:=on) (cell:=cell) hb t i
   rw [ageT_eq]
   unfold ownF
   by_cases hoc:okI (comT N F boot on cell t i)=true
   ·rw [if_pos hoc]
    unfold okI at hoc
    simp only [Bool.and_eq_true,decide_eq_true_eq] at hoc
    have:=h2 hoc.1
    split <;> omega
   ·rw [if_neg hoc]
    split <;> omega
theorem age_of {t i:Nat} (ht:t≤1000000) (hi:i<N) (bi:¬Bd N F i) (ho:on t i=true) (h0:0≤comT N F boot on cell t i):ageT N F boot on cell t i=comT N F boot on cell t i+2*N:=by
 have h2:=(age_com hF hc hb h4 h16 t i hi bi ho).2 h0
 rw [ageT_eq]
 unfold ownF
 have hoc:okI (comT N F boot on cell t i)=true:=by simp [okI];omega
 rw [if_pos hoc,if_pos (by simp [okI];omega)]
theorem age_say {t i:Nat} (ht:t≤1000000) (hi:i<N) (bi:¬Bd N F i) (hs:sayT N F boot on cell t i=true):0≤ageT N F boot on cell t i:=by
 have hs':=hs
 unfold sayT at hs'
 simp at hs'
 obtain⟨ho,h2⟩:=hs'
 by_cases h0:okI (comT N F boot on cell t i)=true
 ·unfold okI at h0
  simp only [Bool.and_eq_true,decide_eq_true_eq] at h0
  have:=age_of hF hc hb h4 h16 ht hi bi ho h0.1
  omega
 ·have hp:=(pw_inv (N:=N) (F:=F) (on:=on) (cell:=cell) hb (t+1) i).2.2.2
  rw [ndT_succ,((ndT N F boot on cell t i).step_s N (boot i) (on t i) (agT N F boot on cell t i)).2.2] at hp
  rw [ageT_eq]
  unfold ownF
  rw [if_neg h0]
  have e:coldM (pwT N F boot on cell t i)=(pwM (boot i) (ndT N F boot on cell t i) (on t i)).2.2:=by
   unfold coldM
   rw [if_pos h2];rfl
  rw [e,if_pos (by unfold okI;simp;omega)]
  omega
variable {T:Nat} (hall:∀t i,i<N→T≤t→on t i=true) (hsy:∀t k,k<N→¬Bd N F k→T≤t→sayT N F boot on cell t k=true)
include hall hsy
theorem full_at {t i s:Nat} (ht:T+2*N≤t) (hi:i<N) (hs:s<N) (bi:¬Bd N F i) (bs:¬Bd N F s):∃x,(agT N F boot on cell t i)[s]? =some x∧x.is=true∧ageL x.c=ageT N F boot on cell (t - 2*N) s:=by
 have _:=hb
 obtain⟨y,hy,h1,-⟩:=agree_rightO (bt_say (boot:=boot) (on:=on) hF hc) h4 h16 hi hs bi bs (hall t i hi (by omega))
 have h6:=h1 T ht hall hsy
 refine⟨y,hy,by rw [h6],?_⟩
 rw [h6]
 exact age_nrm (hc _ _) (ageT_range N F boot on cell _ _).1 (ageT_range N F boot on cell _ _).2
theorem com_ok {t i:Nat} (ht:T+2*N≤t) (ht2:t≤1000000) (hi:i<N) (bi:¬Bd N F i):0≤comT N F boot on cell t i∧
 (∀a,(∀s,s<N→¬Bd N F s→ageT N F boot on cell (t - 2*N) s=a)→comT N F boot on cell t i=a∧evenF N (agT N F boot on cell t i) (comT N F boot on cell t i)=true):=by
 have hl:=ag_len (F:=F) (boot:=boot) (on:=on) (cell:=cell) h4 h16 t i
 have hat:F.at_ % N<N:=Nat.mod_lt _ (by omega)
 obtain⟨least,hle⟩:=least_ex (goodL (F.at_ % N) (agT N F boot on cell t i) N)
 obtain⟨most,hmo⟩:=most_ex (goodL (F.at_ % N) (agT N F boot on cell t i) N)
 have hm:=(middle h4 h16 hl (F.at_ % N) hle hmo).2
 have hfl:=goodL_full (bad:=F.at_ % N) (L:=agT N F boot on cell t i) N (by omega) fun s x hs hsb hx=>by
  obtain⟨y,hy,hyi,hya⟩:=full_at hF hc hb h4 h16 hall hsy ht hi hs bi (not_bd hsb)
  rw [hx] at hy
  cases hy
  have h0:=age_say hF hc hb h4 h16 (t:=t - 2*N) (by omega) hs (not_bd hsb) (hsy _ _ hs (not_bd hsb) (by omega))
  have h1:=(ageT_range N F boot on cell (t - 2*N) s).2
  unfold okAge okI
  rw [hyi,hya]
  simp
  omega
 rw [if_pos hat] at hfl
 obtain⟨k1,k2⟩:=hm hfl
 refine⟨k1,fun a ha=> ?_⟩
 have hmem:∀x ∈ goodL (F.at_ % N) (agT N F boot on cell t i) N,x=a:=fun x hx=>by
  obtain⟨s,y,hs,hsb,hy,-,rfl⟩:=goodL_mem N x (by omega) hx
  obtain⟨z,hz,-,hza⟩:=full_at hF hc hb h4 h16 hall hsy ht hi hs bi (not_bd hsb)
  rw [hy] at hz
  cases hz
  rw [hza,ha s hs (not_bd hsb)]
 have hne:∀v,(goodL (F.at_ % N) (agT N F boot on cell t i) N=[]∧v=(-1:Int))→False:=fun v h=>by
  rw [h.1] at hfl;simp at hfl;omega
 have e1:least=a:=by
  rcases hle with h | ⟨h,-⟩
  ·exact (hne _ h).elim
  ·exact hmem _ h
 have e2:most=a:=by
  rcases hmo with h | ⟨h,-⟩
  ·exact (hne _ h).elim
  ·exact hmem _ h
 have e3:comT N F boot on cell t i=a:=(k2 (by rw [e1,e2])).trans e1
 refine⟨e3,?_⟩
 have hcnt:=evenN_ge (L:=agT N F boot on cell t i) (c:=a) (B:=F.at_ % N) (fun s x hsb hx=>by
  have hs:s<N:=by rw [←hl];exact (List.getElem?_eq_some_iff.1 hx).1
  obtain⟨z,hz,hzi,hza⟩:=full_at hF hc hb h4 h16 hall hsy ht hi hs bi (not_bd hsb)
  rw [hx] at hz
  cases hz
  exact⟨hzi,by rw [hza,ha s hs (not_bd hsb)]⟩) N (by omega)
 rw [if_pos hat] at hcnt
 have hr:=commonF_range (N:Int) (agT N F boot on cell t i)
 have hr2:comT N F boot on cell t i≤1099511627776:=hr.2
 unfold evenF
 simp only [Bool.and_eq_true,decide_eq_true_eq,Int.toNat_natCast]
 rw [←e3] at hcnt
 exact⟨⟨⟨⟨by omega,by omega⟩,k1⟩,hr2⟩,by omega⟩
end
section
variable {N:Nat} {F:FltM} {cell:Nat→Nat→List Value}
def b0 (_:Nat):Int:=0
def onA (_ _:Nat):Bool:=true
variable (hF:∀a ∈ F.acts,a.row.ok) (hc:∀t i,okL cellK (cell t i)=true) (h4:4≤N) (h16:N≤16) (hbd:∀s,¬Bd N F s)
theorem net_pw:∀t i:Nat,t≤1000000→pwT N F b0 onA cell t i=(2,0,(t:Int))
 | 0,i,_=>rfl
 | t+1,i,h=>by
   have ih:=net_pw t i (by omega)
   unfold pwT
   have e:=(ndT N F b0 onA cell t i).step_s N (b0 i) (onA t i) (agT N F b0 onA cell t i)
   rw [←ndT_succ] at e
   obtain⟨e1,e2,e3⟩:=e
   have ih':pwM (b0 i) (ndT N F b0 onA cell t i) (onA t i)=(2,0,(t:Int)):=ih
   rw [ih'] at e1 e2 e3
   show pwOn 0 (ndT N F b0 onA cell (t+1) i).s (ndT N F b0 onA cell (t+1) i).left (ndT N F b0 onA cell (t+1) i).cold=_
   rw [e1,e2,e3]
   unfold pwOn
   simp
   omega
theorem net_sayA (t i:Nat):sayT N F b0 onA cell t i=true:=say_on (a:=0) (fun _=>Int.le_refl _) (fun _ _ _=>rfl) (by show ((0:Nat):Int)+0≤t;omega)
include hF hc h4 h16 hbd in
theorem net_com0 {t i:Nat} (ht:t<2*N) (hi:i<N):comT N F b0 onA cell t i= -1:=by
 have hl:=ag_len (F:=F) (boot:=b0) (on:=onA) (cell:=cell) h4 h16 t i
 have hn:∀x ∈ (agT N F b0 onA cell t i).take (N:Int).toNat,oneAge x=[]:=fun x hx=>by
  obtain⟨s,hs⟩:=List.mem_iff_getElem?.1 (List.mem_of_mem_take hx)
  have hsl:s<N:=by have:=(List.getElem?_eq_some_iff.1 hs).1;omega
  unfold oneAge okAge
  cases his:x.is with
  | false=>rfl
  | true=>
    have:=(ag_at hF hc h4 h16 hi hsl (hbd i) (hbd s) rfl hs his).1
    omega
 have he:agesOf ((agT N F b0 onA cell t i).take (N:Int).toNat)=[]:=by
  unfold agesOf
  rw [List.flatMap_eq_nil_iff]
  exact hn
 unfold comT commonF
 rw [if_pos ⟨by omega,by omega⟩,he,if_pos (by simp;omega)]
include hF hc h4 h16 hbd in
theorem net_age:∀t i:Nat,t≤100000→i<N→ageT N F b0 onA cell t i=t:=by
 intro t
 induction t using Nat.strongRecOn with
 | _ t ih=>
   intro i ht hi
   by_cases h:t<2*N
   ·rw [ageT_eq,net_com0 hF hc h4 h16 hbd h hi,net_pw t i (by omega)]
    unfold ownF coldM okI
    simp
    omega
   ·have hk:=com_ok (boot:=b0) (on:=onA) (T:=0) hF hc (fun _=>Int.le_refl _) h4 h16 (fun _ _ _ _=>rfl) (fun t k _ _ _=>net_sayA t k) (t:=t) (i:=i) (by omega) (by omega) hi (hbd i)
    have e:=(hk.2 (t - 2*N:Nat) fun s hs _=>ih (t - 2*N) (by omega) s (by omega) hs).1
    rw [age_of (boot:=b0) (on:=onA) hF hc (fun _=>Int.le_refl _) h4 h16 (by omega) hi (hbd i) rfl hk.1,e]
    omega
include hF hc h4 h16 hbd in
theorem net_even {t i:Nat} (ht:t≤100000) (hi:i<N):evenF N (agT N F b0 onA cell t i) (comT N F b0 onA cell t i)=decide (2*N≤t):=by
 by_cases h:2*N≤t
 ·rw [decide_eq_true h]
  have hk:=com_ok (boot:=b0) (on:=onA) (T:=0) hF hc (fun _=>Int.le_refl _) h4 h16 (fun _ _ _ _=>rfl) (fun t k _ _ _=>net_sayA t k) (t:=t) (i:=i) (by omega) (by omega) hi (hbd i)
  exact (hk.2 (t - 2*N:Nat) fun s hs _=>net_age hF hc h4 h16 hbd (t - 2*N) s (by omega) hs).2
 ·rw [decide_eq_false h]
  cases he:evenF N (agT N F b0 onA cell t i) (comT N F b0 onA cell t i) with
  | false=>rfl
  | true=>
    have hl:=ag_len (F:=F) (boot:=b0) (on:=onA) (cell:=cell) h4 h16 t i
    have:=(even_parts hl he).1
    rw [net_com0 hF hc h4 h16 hbd (by omega) hi] at this
    omega
include hF hc h4 h16 hbd in
theorem net_long:∀t i:Nat,t≤100000→i<N→(ndT N F b0 onA cell t i).long=((min (t - 2*N) (2*N):Nat):Int)
 | 0,i,_,_=>by show (0:Int)=_;simp
 | t+1,i,ht,hi=>by
   have ih:=net_long t i (by omega) hi
   have he:=net_even hF hc h4 h16 hbd (t:=t) (i:=i) (by omega) hi
   rw [ndT_succ]
   unfold NdM.step
   rw [if_pos (show onA t i=true from rfl)]
   simp only [longN,cqOn]
   rw [show commonF N (agT N F b0 onA cell t i)=comT N F b0 onA cell t i from rfl,he,ih]
   by_cases h:2*N≤t
   ·rw [decide_eq_true h,if_pos rfl];omega
   ·rw [decide_eq_false h,if_neg (by simp)];omega
include hF hc h4 h16 hbd in
theorem net_sure {t i:Nat} (ht:t+1≤4*N) (hi:i<N):(ndT N F b0 onA cell (t+1) i).sure=decide (t+1=4*N):=by
 have hl:=net_long hF hc h4 h16 hbd (t+1) i (by omega) hi
 have hs:=sure_iff (N:=N) (F:=F) (boot:=b0) (on:=onA) (cell:=cell) t i
 by_cases h:t+1=4*N
 ·rw [decide_eq_true h]
  exact hs.2 ⟨rfl,by rw [hl];omega⟩
 ·rw [decide_eq_false h]
  cases hx:(ndT N F b0 onA cell (t+1) i).sure with
  | false=>rfl
  | true=>
    have:=(hs.1 hx).2
    rw [hl] at this
    omega
end
theorem net_shows {F:FltM} {cell:Nat→Nat→List Value} (hF:∀a ∈ F.acts,a.row.ok) (hc:∀t i,okL cellK (cell t i)=true) (hbd:∀s,¬Bd 4 F s) {i:Nat} (hi:i<4):(ndT 4 F b0 onA cell 16 i).shows=15:=by
 rw [show (16:Nat)=15+1 from rfl,shows_on rfl,ck_full (by omega) (fun _ _=>rfl)]
 have e:((List.range (2*4)).map fun j=>ageT 4 F b0 onA cell (15+1 - 2*4+j) i)=(List.range 8).map fun j:Nat=>((8+j:Nat):Int):=by
  refine List.map_congr_left fun j hj=> ?_
  have:=List.mem_range.1 hj
  exact net_age hF hc (by omega) (by omega) hbd _ i (by omega) hi
 rw [e]
 decide
def netCell (c:Cfg) (_ _:Nat):List Value:=.int .i64 0 :: (saidZ++(saidZ++firstV c))
def noF (N:Nat):FltM:=⟨true,0,0,[]⟩
section
variable (c:Cfg)
noncomputable def ntR (t:Nat):RingM:=(btT c.N.toNat (noF c.N.toNat) b0 onA (netCell c) t).R
noncomputable def ntN (t i:Nat):NdM:=ndT c.N.toNat (noF c.N.toNat) b0 onA (netCell c) t i
noncomputable def ntI (t i:Nat):Nat→List Rw:=(ntR c t).insM i
noncomputable def ntK (t i:Nat):LkM:=match t with
 | 0=>lkN (-1) (-1) (firstV c)
 | t+1=>⟨2,ageT c.N.toNat (noF c.N.toNat) b0 onA (netCell c) t i,(ntN c (t+1) i).shows,(ntN c (t+1) i).sure,false,(0,0,0),0,saidZ,firstV c,saidZ⟩
noncomputable def ntS (t i:Nat):NdS:=⟨((ntN c t i).s,(ntN c t i).left,(ntN c t i).cold),(ntR c t).lane i,(ntN c t i).ck,(ntN c t i).long,(0,0,0),ntK c t i⟩
theorem ntR_N (t:Nat):(ntR c t).N=c.N.toNat∧(ntR c t).F=noF c.N.toNat:=by
 unfold ntR
 rw [←rgT_bt]
 exact rgT_N _ _ _ _ t
theorem said_n (L:LaneM) (r:Rw):(L.said r).n=L.n∧(L.said r).me=L.me∧(L.said r).T=L.T:=by
 unfold LaneM.said
 split <;> exact⟨rfl,rfl,rfl⟩
theorem ntR_succ (t:Nat):ntR c (t+1)=((ntR c t).hear (onA t)).say fun i=>ownN c.N.toNat (b0 i) (onA t i) (((ntR c t).hear (onA t)).held i) (netCell c t i) (ntN c t i):=rfl
theorem hear_lane (t i:Nat):((ntR c t).hear (onA t)).lane i=((ntR c t).lane i).put (ntI c t i):=by
 show (if onA t i=true then (if (ntR c t).on i=true then (ntR c t).lane i else LaneM.new (ntR c t).N i).put ((ntR c t).insM i) else (ntR c t).lane i)=_
 rw [if_pos (show onA t i=true from rfl)]
 cases t with
 | zero=>rfl
 | succ t=>
   have:(ntR c (t+1)).on i=true:=rfl
   rw [if_pos this]
   rfl
theorem lane_succ (t i:Nat):(ntR c (t+1)).lane i=(((ntR c t).lane i).put (ntI c t i)).said (ownN c.N.toNat (b0 i) (onA t i) (((ntR c t).hear (onA t)).held i) (netCell c t i) (ntN c t i)):=by
 rw [ntR_succ,←hear_lane]
 rfl
theorem lane_n:∀t i:Nat,((ntR c t).lane i).n=c.N.toNat∧((ntR c t).lane i).me=i∧((ntR c t).lane i).T=t
 | 0,i=>⟨rfl,rfl,rfl⟩
 | t+1,i=>by
   obtain⟨h1,h2,h3⟩:=lane_n t i
   rw [lane_succ]
   obtain⟨e1,e2,e3⟩:=said_n (((ntR c t).lane i).put (ntI c t i)) (ownN c.N.toNat (b0 i) (onA t i) (((ntR c t).hear (onA t)).held i) (netCell c t i) (ntN c t i))
   rw [e1,e2,e3]
   exact⟨h1,h2,congrArg (· +1) h3⟩
theorem hear_held (t i:Nat):((ntR c t).hear (onA t)).held i=tab c.N.toNat (((ntR c t).lane i).put (ntI c t i)).held:=by
 unfold RingM.held
 rw [if_pos (show ((ntR c t).hear (onA t)).on i=true from rfl),hear_lane]
 show tab (ntR c t).N _=_
 rw [(ntR_N c t).1]
variable (hB:∀z ∈ c.B,z=0)
include hB in
theorem boot0 (i:Nat):(NdK.new c i).boot=0:=by
 show c.B.getD i 0=0
 rw [List.getD]
 cases h:c.B[i]? with
 | none=>rfl
 | some z=>exact hB z (List.mem_of_getElem? h)
theorem ntH (t i:Nat):tkH (NdK.new c i) (ntS c t i) (ntI c t i)=((ntR c t).hear (onA t)).held i:=by
 rw [hear_held]
 show tab ((ntR c t).lane i).n _=_
 rw [(lane_n c t i).1]
 rfl
theorem ntA (t i:Nat):tkA (NdK.new c i) (ntS c t i) (ntI c t i)=agT c.N.toNat (noF c.N.toNat) b0 onA (netCell c) t i:=by
 unfold tkA agT
 rw [ntH,heldO_bt]
 rfl
theorem ntC (t i:Nat):tkC (NdK.new c i) (ntS c t i) (ntI c t i)=comT c.N.toNat (noF c.N.toNat) b0 onA (netCell c) t i:=by
 unfold tkC comT
 rw [ntA]
 rfl
include hB in
theorem ntQ (t i:Nat):tkQ (NdK.new c i) (ntS c t i)=pwT c.N.toNat (noF c.N.toNat) b0 onA (netCell c) t i:=by
 unfold tkQ
 rw [boot0 c hB]
 rfl
include hB in
theorem ntAge {t:Nat} (ht:t≤1000000) (i:Nat):tkAge (NdK.new c i) (ntS c t i) (ntI c t i)=ageT c.N.toNat (noF c.N.toNat) b0 onA (netCell c) t i:=by
 rw [ageT_eq]
 unfold tkAge
 rw [ntC,ntQ c hB,net_pw t i ht]
 rfl
include hB in
theorem ntRow {t:Nat} (ht:t≤1000000) (i:Nat):tkRow (NdK.new c i) (ntS c t i) (ntI c t i)=ownN c.N.toNat (b0 i) (onA t i) (((ntR c t).hear (onA t)).held i) (netCell c t i) (ntN c t i):=by
 have hp:onA t i=true∧(pwM (b0 i) (ntN c t i) (onA t i)).1=2:=⟨rfl,by
  have:=net_pw (N:=c.N.toNat) (F:=noF c.N.toNat) (cell:=netCell c) t i ht
  unfold pwT at this
  show (pwM (b0 i) (ndT c.N.toNat (noF c.N.toNat) b0 onA (netCell c) t i) (onA t i)).1=2
  rw [this]⟩
 unfold ownN
 rw [if_pos hp]
 unfold tkRow
 rw [ntAge c hB ht,ntH]
 have e:ageT c.N.toNat (noF c.N.toNat) b0 onA (netCell c) t i=ageM c.N.toNat (b0 i) (onA t i) (agreeL c.N.toNat (((ntR c t).hear (onA t)).held i)) (ntN c t i):=by
  unfold ageT agT
  rw [heldO_bt]
  rfl
 rw [e]
 rfl
include hB in
theorem ntX {t:Nat} (ht:t≤1000000) (i:Nat):tkX (NdK.new c i) (ntS c t i) (ntI c t i)=ntS c (t+1) i:=by
 have hs:ntN c (t+1) i=(ntN c t i).step c.N.toNat (b0 i) (onA t i) (agT c.N.toNat (noF c.N.toNat) b0 onA (netCell c) t i):=ndT_succ _ _ _ _ _ t i
 have hq:=ntQ c hB t i
 have hage:=ntAge c hB ht i
 have hw:tkW (NdK.new c i) (ntS c t i) (ntI c t i)=(ntN c (t+1) i).ck:=by
  rw [hs]
  unfold tkW NdM.step
  rw [if_pos (show onA t i=true from rfl),hage]
  rfl
 have hl:tkL (NdK.new c i) (ntS c t i) (ntI c t i)=(ntN c (t+1) i).long:=by
  rw [hs]
  unfold tkL NdM.step
  rw [if_pos (show onA t i=true from rfl),ntA,ntC]
  rfl
 have hsu:tkSure (NdK.new c i) (ntS c t i) (ntI c t i)=(ntN c (t+1) i).sure:=by
  unfold tkSure
  rw [hl,hs]
  unfold NdM.step
  rw [if_pos (show onA t i=true from rfl)]
  rfl
 have hsh:showF (tkW (NdK.new c i) (ntS c t i) (ntI c t i))=(ntN c (t+1) i).shows:=by
  rw [hw,hs]
  unfold NdM.step
  rw [if_pos (show onA t i=true from rfl)]
 have hqq:tkQ (NdK.new c i) (ntS c t i)=((ntN c (t+1) i).s,(ntN c (t+1) i).left,(ntN c (t+1) i).cold):=by
  rw [hq,hs]
  obtain⟨e1,e2,e3⟩:=(ntN c t i).step_s c.N.toNat (b0 i) (onA t i) (agT c.N.toNat (noF c.N.toNat) b0 onA (netCell c) t i)
  rw [e1,e2,e3]
  rfl
 have hgot:(ntS c t i).k.got=saidZ:=by cases t <;> rfl
 have hlane:(((ntS c t i).L.put (ntI c t i)).said (tkRow (NdK.new c i) (ntS c t i) (ntI c t i)))=(ntR c (t+1)).lane i:=by
  rw [lane_succ,ntRow c hB ht]
  rfl
 unfold tkX tkK
 rw [hqq,hlane,hw,hl,hsu,hage,hgot]
 rw [show showF (ntN c (t+1) i).ck=(ntN c (t+1) i).shows from by rw [←hw];exact hsh]
 rfl
noncomputable def ntO (t i q:Nat):List Rw:=((ntR c (t+1)).lane i).out q
theorem nt_sent (t τ i k:Nat) (h:τ<t):(ntR c t).sent[τ]? =some (sentT c.N.toNat (noF c.N.toNat) onA (ownT c.N.toNat (noF c.N.toNat) b0 onA (netCell c)) τ):=by
 unfold ntR
 rw [←rgT_bt]
 exact rgT_sent _ _ _ _ t τ h
theorem nt_word (τ i k:Nat):sentT c.N.toNat (noF c.N.toNat) onA (ownT c.N.toNat (noF c.N.toNat) b0 onA (netCell c)) τ i k=ntO c τ i (if k<2 then 0 else 2):=by
 unfold sentT
 rw [rgT_bt]
 show ((ntR c τ).hear (onA τ)).outM _ i k=_
 have hod:((ntR c τ).hear (onA τ)).odd i k=false:=by
  unfold RingM.odd
  rw [show ((ntR c τ).hear (onA τ)).F=noF c.N.toNat from (ntR_N c τ).2]
  simp [noF]
 have hw:∀own q,((ntR c τ).hear (onA τ)).word own i q=((((ntR c τ).hear (onA τ)).lane i).said (own i)).out q:=fun own q=>by
  unfold RingM.word
  rw [if_pos (by rw [hear_lane];rfl)]
 unfold RingM.outM RingM.saidM
 rw [hod]
 simp only [Bool.false_eq_true,if_false,hw]
 unfold ntO
 rw [ntR_succ]
 show (if k<2 then _ else _)=_
 by_cases hk:k<2
 ·rw [if_pos hk,if_pos hk];rfl
 ·rw [if_neg hk,if_neg hk];rfl
end
theorem firstV_ok (c:Cfg):okL viewK (firstV c)=true:=rfl
theorem netCell_ok (c:Cfg) (t i:Nat):okL cellK (netCell c t i)=true:=by
 show (okK (.i .i64) (.int .i64 0)&&okL (saidK++(saidK++viewK)) (saidZ++(saidZ++firstV c)))=true
 rw [okL_append (by decide) (okL_append (by decide) (firstV_ok c))]
 rfl
theorem noF_bd (N s:Nat):¬Bd N (noF N) s:=fun h=>by
 unfold Bd at h
 simp [noF] at h
section
variable (c:Cfg) (hok:RefOk c) (hB:∀z ∈ c.B,z=0)
theorem nt_ck:∀t i:Nat,∀a ∈ (ntN c t i).ck,-1≤a∧a≤1099511627776
 | 0,i,a,h=>by cases h
 | t+1,i,a,h=>by
   have ih:=nt_ck t i
   have hs:ntN c (t+1) i=(ntN c t i).step c.N.toNat (b0 i) (onA t i) (agT c.N.toNat (noF c.N.toNat) b0 onA (netCell c) t i):=ndT_succ _ _ _ _ _ t i
   rw [hs] at h
   unfold NdM.step at h
   rw [if_pos (show onA t i=true from rfl)] at h
   have h2:=List.mem_of_mem_drop h
   rcases List.mem_append.1 h2 with h2 | h2
   ·exact ih a h2
   ·rw [List.mem_singleton] at h2
    rw [h2]
    exact ownF_range _ _ _
include hok hB in
theorem nt_ok {t i:Nat} (ht:t≤100000) (hi:(i:Int)<c.N):NdOk (NdK.new c i) (ntS c t i):=by
 have hn:=hok.n
 have hp:=pw_inv (N:=c.N.toNat) (F:=noF c.N.toNat) (boot:=b0) (on:=onA) (cell:=netCell c) (fun _=>Int.le_refl _) t i
 obtain⟨p1,p2,p3,p4,p5,p6⟩:=hp
 have hb:=boot0 c hB i
 have hl:=lane_n c t i
 exact { hok:=hok,hn:=by show c.N=((c.N.toNat:Nat):Int);omega,h4:=by show 4≤c.N.toNat;omega,h16:=by show c.N.toNat≤16;omega,hs:=rfl,hV:=len_firstV c,hVa:=all_firstV c,hVk:=firstV_ok c,hk:=by cases t <;> exact⟨rfl,len_firstV c,rfl⟩,hL:=hl.1,hT:=by show ((ntR c t).lane i).T≤_;rw [hl.2.2];omega,q1:=p1,b0:=by rw [hb];decide,b1:=by rw [hb];decide,l0:=p2,l1:=by show (ntN c t i).left≤4096;have h9:(ntN c t i).left≤0:=p3;omega,c0:=by show -1≤(ntN c t i).cold;have h9:0≤(ntN c t i).cold:=p4;omega,c1:=by show (ntN c t i).cold≤_;have h9:(ntN c t i).cold≤t:=p5;omega,hw:=nt_ck c t i,hwl:=ck_len t i,g0:=long_ge0 t i,g1:=by show (ntN c t i).long≤1000000;have h9:(ntN c t i).long≤2*(c.N.toNat:Nat):=long_le t i;omega,hr:=by cases t <;> rfl }
theorem ntSure (t i:Nat):tkSure (NdK.new c i) (ntS c t i) (ntI c t i)=(ntN c (t+1) i).sure:=by
 have hs:ntN c (t+1) i=(ntN c t i).step c.N.toNat (b0 i) (onA t i) (agT c.N.toNat (noF c.N.toNat) b0 onA (netCell c) t i):=ndT_succ _ _ _ _ _ t i
 rw [hs]
 unfold tkSure tkL NdM.step
 rw [if_pos (show onA t i=true from rfl),ntA,ntC]
 rfl
include hB in
theorem ntShows {t:Nat} (ht:t≤1000000) (i:Nat):showF (tkW (NdK.new c i) (ntS c t i) (ntI c t i))=(ntN c (t+1) i).shows:=by
 have hs:ntN c (t+1) i=(ntN c t i).step c.N.toNat (b0 i) (onA t i) (agT c.N.toNat (noF c.N.toNat) b0 onA (netCell c) t i):=ndT_succ _ _ _ _ _ t i
 rw [hs]
 unfold tkW NdM.step
 rw [if_pos (show onA t i=true from rfl),ntAge c hB ht]
 rfl
include hok hB in
theorem nt_idle (h4:c.N=4) {t i:Nat} (ht:t<16) (hi:i<4):Idle c (showF (tkW (NdK.new c i) (ntS c t i) (ntI c t i))) (tkSure (NdK.new c i) (ntS c t i) (ntI c t i)):=by
 have hN:c.N.toNat=4:=by omega
 have hsu:=net_sure (N:=c.N.toNat) (F:=noF c.N.toNat) (cell:=netCell c) (by simp [noF]) (netCell_ok c) (by omega) (by omega) (noF_bd _) (t:=t) (i:=i) (by omega) (by omega)
 by_cases h:t+1=16
 ·obtain rfl:t=15:=by omega
  have hsh:(ntN c 16 i).shows=15:=by
   have:=net_shows (F:=noF c.N.toNat) (cell:=netCell c) (by simp [noF]) (netCell_ok c) (by intro s;rw [←hN];exact noF_bd _ s) hi
   unfold ntN
   rw [hN] at this ⊢
   exact this
  rw [ntShows c hB (by omega),hsh]
  refine .inr (.inr ?_)
  have hlo:=hok.lo
  have hs:=hok.s
  have hr:=hok.roundV
  unfold ofT
  simp only
  rw [show (15:Int) % roundV c=15 from Int.emod_eq_of_lt (by omega) (by omega),show (15:Int) % c.lo=15 from Int.emod_eq_of_lt (by omega) (by omega)]
  omega
 ·refine .inl ?_
  rw [ntSure]
  refine (show (ntN c (t+1) i).sure=_ from hsu).trans ?_
  rw [decide_eq_false]
  omega
end
end Go.Proofs.YtdilbjikeilhbaaGreatDoor
