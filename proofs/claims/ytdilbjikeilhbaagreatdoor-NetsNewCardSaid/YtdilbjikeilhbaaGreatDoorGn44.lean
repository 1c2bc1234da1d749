import Derived.Test.YtdilbjikeilhbaaGreatDoorGn03
namespace Go.Proofs.YtdilbjikeilhbaaGreatDoor
open Go.RowKit
set_option linter.unusedVariables false
set_option linter.unusedSimpArgs false
theorem Sd.norm_twice (s:Sd):s.norm.norm=s.norm:=by
 unfold Sd.norm
 by_cases h:s.good=true
 ·simp [h]
 ·have:sd0.good=false:=rfl
  simp [h,this]
theorem Cl.norm_twice (c:Cl):c.norm.norm=c.norm:=by
 have e1:=Sd.norm_twice c.o
 have e2:=Sd.norm_twice c.r
 unfold Cl.norm
 simp only [Cl.mk.injEq]
 refine⟨?_,e1,e2,trivial,?_,?_⟩
 all_goals repeat' split
 all_goals first | rfl | omega
theorem nrm_twice {c:List Value} (h:okL cellK c=true):nrm (nrm c)=nrm c:=by
 obtain⟨C,rfl,hC⟩:=cell_of h
 rw [nrm_vals C hC,nrm_vals C.norm hC,Cl.norm_twice]
theorem Hd.nrm_twice {y:Hd} (h:y.ok):y.nrm.nrm=y.nrm:=by
 unfold Hd.nrm
 split
 ·simp [YtdilbjikeilhbaaGreatDoor.nrm_twice h]
 ·rfl
theorem fillH_twice {n:Nat} {l:List Hd} (h:∀x ∈ l,x.ok):fillH n (fillH n l)=fillH n l:=by
 apply List.ext_getElem?
 intro k
 by_cases hk:k<n
 ·rw [fillH_at n _ k hk,fillH_at n l k hk]
  congr 1
  cases hy:l[k]? with
  | none=>rfl
  | some y=>exact Hd.nrm_twice (h y (List.mem_of_getElem? hy))
 ·rw [List.getElem?_eq_none (by rw [fillH_len];omega),List.getElem?_eq_none (by rw [fillH_len];omega)]
theorem Rw.plain_twice {n:Int} {r:Rw} (h:r.ok):(r.plain n).plain n=r.plain n:=by
 unfold Rw.plain
 by_cases hm:(r.is&&mayN n)=true
 ·rw [if_pos hm]
  have:mayN n=true:=by simp only [Bool.and_eq_true] at hm;exact hm.2
  simp [this,nrm_twice h.1,fillH_twice h.2]
 ·rw [if_neg hm];rfl
theorem rw0_plain (n:Int):rw0.plain n=rw0:=by unfold Rw.plain;rw [if_neg (by simp [rw0])]
theorem plain_no {n:Int} {r:Rw} (h:(r.plain n).is=false):r.plain n=rw0:=by
 unfold Rw.plain at h ⊢
 split at h
 ·cases h
 ·rename_i hh;rw [if_neg hh]
structure ActM where
 kind:Int
 s:Int
 row:Rw
structure FltM where
 link:Bool
 at_:Nat
 which:Nat
 acts:List ActM
abbrev WordsM:=Nat→Nat→List Rw
structure RingM where
 N:Nat
 F:FltM
 lane:Nat→LaneM
 on:Nat→Bool
 sent:List WordsM
def RingM.new (N:Nat) (F:FltM):RingM:=⟨N,F,fun i=>LaneM.new N i,fun _=>false,[]⟩
def RingM.bad (R:RingM) (i:Nat):Bool:=!R.F.link&&decide (R.F.at_ % R.N=i)
def RingM.sentM (R:RingM) (i link ago:Nat):List Rw:=if R.sent.length<ago then [] else (R.sent.getD (R.sent.length - ago) (fun _ _=>[])) (i % R.N) link
def RingM.insM (R:RingM) (i q:Nat):List Rw:=
 if q=0 then R.sentM (i+2*R.N - 1) 0 1 else if q=1 then R.sentM (i+2*R.N - 2) 1 2 else if q=2 then R.sentM (i+2*R.N+1) 2 1 else R.sentM (i+2*R.N+2) 3 2
def RingM.odd (R:RingM) (i k:Nat):Bool:=decide (R.F.at_ % R.N=i)&&(!R.F.link||decide (R.F.which % 4=k))&& !R.F.acts.isEmpty
def RingM.saidM (R:RingM) (i k:Nat) (w other:List Rw):List Rw:=
 if R.odd i k then
  match R.F.acts[(R.sent.length*4+k) % R.F.acts.length]? with
  | none=>w
  | some a=>
    let s:=(a.s % R.N).toNat
    if a.kind % 6=1 then [] else if a.kind % 6=2 then w.set s a.row else if a.kind % 6=3 then R.sentM (i+2*R.N) k (1+s) else if a.kind % 6=4 then other else if a.kind % 6=5 then w.set i a.row else w
 else w
def RingM.hear (R:RingM) (on:Nat→Bool):RingM:=
 { R with lane:=fun i=>if on i then (if R.on i then R.lane i else LaneM.new R.N i).put (R.insM i) else R.lane i,on:=on }
noncomputable def RingM.held (R:RingM) (i:Nat):List Rw:=if R.on i then tab R.N (R.lane i).held else []
def RingM.word (R:RingM) (own:Nat→Rw) (i q:Nat):List Rw:=if R.on i&&(R.lane i).b then ((R.lane i).said (own i)).out q else []
def RingM.outM (R:RingM) (own:Nat→Rw) (i k:Nat):List Rw:=
 if k<2 then R.saidM i k (R.word own i 0) (R.word own i 2) else R.saidM i k (R.word own i 2) (R.word own i 0)
def RingM.say (R:RingM) (own:Nat→Rw):RingM:=
 { R with lane:=fun i=>if R.on i then (R.lane i).said (own i) else R.lane i,sent:=R.sent++ [R.outM own] }
def RingM.run (R:RingM) (on:Nat→Nat→Bool) (own:Nat→Nat→Rw):Nat→RingM
 | 0=>R
 | t+1=>((R.run on own t).hear (on t)).say (own t)
section
variable (N:Nat) (F:FltM) (on:Nat→Nat→Bool) (own:Nat→Nat→Rw)
def rgT (t:Nat):RingM:=(RingM.new N F).run on own t
theorem rgT_succ (t:Nat):rgT N F on own (t+1)=((rgT N F on own t).hear (on t)).say (own t):=rfl
theorem rgT_N (t:Nat):(rgT N F on own t).N=N∧(rgT N F on own t).F=F:=by
 induction t with
 | zero=>exact⟨rfl,rfl⟩
 | succ t ih=>rw [rgT_succ];exact ih
theorem rgT_len (t:Nat):(rgT N F on own t).sent.length=t:=by
 induction t with
 | zero=>rfl
 | succ t ih=>
   rw [rgT_succ]
   show ((rgT N F on own t).sent++ [_]).length=_
   rw [List.length_append,ih];rfl
def sentT (t i k:Nat):List Rw:=((rgT N F on own t).hear (on t)).outM (own t) i k
theorem rgT_sent (t τ:Nat) (h:τ<t):(rgT N F on own t).sent[τ]? =some (sentT N F on own τ):=by
 induction t with
 | zero=>omega
 | succ t ih=>
   rw [rgT_succ]
   show ((rgT N F on own t).sent++ [((rgT N F on own t).hear (on t)).outM (own t)])[τ]? =_
   have hl:=rgT_len N F on own t
   by_cases e:τ=t
   ·subst e
    rw [List.getElem?_append_right (by omega),hl,Nat.sub_self]
    rfl
   ·rw [List.getElem?_append_left (by omega)]
    exact ih (by omega)
def runs:Nat→Nat→Nat
 | 0,i=>if on 0 i then 1 else 0
 | t+1,i=>if on (t+1) i then runs t i+1 else 0
theorem runs_le (t i:Nat):runs on t i≤t+1:=by
 induction t with
 | zero=>unfold runs;split <;> omega
 | succ t ih=>unfold runs;split <;> omega
theorem runs_on (t i:Nat):0<runs on t i↔on t i=true:=by
 cases t <;> (unfold runs;split <;> simp_all)
def insT (t i q:Nat):List Rw:=(rgT N F on own t).insM i q
def trk (t i q s:Nat):Rw:=if q % 2=0∧s=i then (own t i).plain N else momM N i (insT N F on own t i) q s
structure LaneT (t i:Nat) (L:LaneM):Prop where
 n:L.n=N
 me:L.me=i
 T:L.T=runs on t i
 b:L.b=false
 p:∀a,a<runs on t i→a≤N→∀q s,q<4→L.past ((runs on t i - 1 - a) % (N+1)) q s=trk N F on own (t - a) i q s
end
theorem mod_apart {x a m:Nat} (h1:1≤a) (h2:a<m) (h3:a≤x):(x - a) % m≠x % m:=by
 intro e
 have e1:=Nat.div_add_mod x m
 have e2:=Nat.div_add_mod (x - a) m
 have hle:(x - a) / m≤x / m:=Nat.div_le_div_right (by omega)
 obtain⟨k,hk⟩:∃k,x / m=(x - a) / m+k:=⟨x / m - (x - a) / m,by omega⟩
 rw [hk,Nat.mul_add] at e1
 rw [e] at e2
 have e3:a=m*k:=by omega
 rcases Nat.eq_zero_or_pos k with h | h
 ·rw [h] at e3;omega
 ·have:m*1≤m*k:=Nat.mul_le_mul_left _ h
  omega
theorem ofM_congr {n me s:Nat} {was was':Nat→Nat→Nat→Rw} (hm:me<n) (hs:s<n) (h:∀a q,1≤a→a≤n→q<4→was a q s=was' a q s):ofM n me s was=ofM n me s was':=by
 have h0:distM n me 0 s<n:=by unfold distM;split <;> exact Nat.mod_lt _ (by omega)
 have h1:distM n me 1 s<n:=by unfold distM;split <;> exact Nat.mod_lt _ (by omega)
 unfold ofM
 rw [h n 0 (by omega) (by omega) (by omega),h (n - distM n me 0 s) 0 (by omega) (by omega) (by omega),h (n - distM n me 0 s) 1 (by omega) (by omega) (by omega),h (n - distM n me 1 s) 2 (by omega) (by omega) (by omega),h (n - distM n me 1 s) 3 (by omega) (by omega) (by omega)]
section
variable (N:Nat) (F:FltM) (on:Nat→Nat→Bool) (own:Nat→Nat→Rw)
def laneH (t i:Nat):LaneM:=((rgT N F on own t).hear (on t)).lane i
structure LaneB (t i:Nat) (L:LaneM):Prop where
 n:L.n=N
 me:L.me=i
 T:L.T=runs on t i
 b:L.b=true
 p0:∀q s,L.past ((runs on t i - 1) % (N+1)) q s=momM N i (insT N F on own t i) q s
 p:∀a,1≤a→a<runs on t i→a≤N→∀q s,q<4→L.past ((runs on t i - 1 - a) % (N+1)) q s=trk N F on own (t - a) i q s
theorem laneB_said {t i:Nat} {L:LaneM} (h:LaneB N F on own t i L) (hr:0<runs on t i):LaneT N F on own t i (L.said (own t i)):=by
 have hb:=h.b
 have e:L.said (own t i)={ L with b:=false,past:=fun j q s=>if j=(L.T - 1) % (L.n+1)∧q % 2=0∧s=L.me then (own t i).plain L.n else L.past j q s }:=by unfold LaneM.said;rw [if_pos hb]
 rw [e]
 refine⟨h.n,h.me,h.T,rfl,fun a ha haN q s hq=> ?_⟩
 show (if (runs on t i - 1 - a) % (N+1)=(L.T - 1) % (L.n+1)∧q % 2=0∧s=L.me then (own t i).plain L.n else L.past ((runs on t i - 1 - a) % (N+1)) q s)=_
 rw [h.T,h.n,h.me]
 by_cases e0:a=0
 ·subst e0
  rw [Nat.sub_zero,Nat.sub_zero]
  unfold trk
  by_cases hc:q % 2=0∧s=i
  ·rw [if_pos ⟨rfl,hc⟩,if_pos hc]
  ·rw [if_neg (fun h=>hc h.2),if_neg hc,h.p0]
 ·have hne:=mod_apart (x:=runs on t i - 1) (a:=a) (m:=N+1) (by omega) (by omega) (by omega)
  rw [if_neg (fun h=>hne h.1),h.p a (by omega) ha haN q s hq]
theorem laneB_put {t i:Nat} (L:LaneM) (hn:L.n=N) (hme:L.me=i) (hT:L.T+1=runs on t i)
 (hp:∀a,1≤a→a<runs on t i→a≤N→∀q s,q<4→L.past ((runs on t i - 1 - a) % (N+1)) q s=trk N F on own (t - a) i q s):LaneB N F on own t i (L.put (insT N F on own t i)):=by
 refine⟨hn,hme,hT,rfl,fun q s=> ?_,fun a h1 h2 h3 q s hq=> ?_⟩
 ·show (if (runs on t i - 1) % (N+1)=L.T % (L.n+1) then momM L.n L.me (insT N F on own t i) else L.past ((runs on t i - 1) % (N+1))) q s=_
  rw [if_pos (by rw [hn,←hT];rfl),hn,hme]
 ·have hne:=mod_apart (x:=runs on t i - 1) (a:=a) (m:=N+1) h1 (by omega) (by omega)
  show (if (runs on t i - 1 - a) % (N+1)=L.T % (L.n+1) then momM L.n L.me (insT N F on own t i) else L.past ((runs on t i - 1 - a) % (N+1))) q s=_
  rw [if_neg (by rw [hn,show L.T=runs on t i - 1 from by omega];exact hne)]
  exact hp a h1 h2 h3 q s hq
theorem rgT_lane (t i:Nat) (h:on t i=true):(rgT N F on own (t+1)).lane i=(laneH N F on own t i).said (own t i):=by
 rw [rgT_succ]
 show (if ((rgT N F on own t).hear (on t)).on i then _ else _)=_
 rw [if_pos (show ((rgT N F on own t).hear (on t)).on i=true from h)]
 rfl
theorem laneH_eq (t i:Nat) (h:on t i=true):laneH N F on own t i=(if (rgT N F on own t).on i then (rgT N F on own t).lane i else LaneM.new (rgT N F on own t).N i).put (insT N F on own t i):=by
 show (if on t i then _ else _)=_
 rw [if_pos h];rfl
theorem laneB_all:∀(t i:Nat),on t i=true→LaneB N F on own t i (laneH N F on own t i)
 | 0,i,h=>by
   have hr:runs on 0 i=1:=by unfold runs;rw [if_pos h]
   rw [laneH_eq N F on own 0 i h,if_neg (show ¬(rgT N F on own 0).on i=true from by simp [rgT,RingM.run,RingM.new])]
   exact laneB_put N F on own _ rfl rfl (by rw [hr];rfl) (fun a h1 h2=>by omega)
 | t+1,i,h=>by
   rw [laneH_eq N F on own (t+1) i h]
   by_cases hb:on t i=true
   ·have hr:runs on (t+1) i=runs on t i+1:=by rw [runs,if_pos h]
    have ih:=laneB_said N F on own (laneB_all t i hb) ((runs_on on t i).2 hb)
    rw [if_pos (show (rgT N F on own (t+1)).on i=true from hb),rgT_lane N F on own t i hb]
    refine laneB_put N F on own _ ih.n ih.me (by rw [ih.T,hr]) (fun a h1 h2 h3 q s hq=> ?_)
    have:=ih.p (a - 1) (by omega) (by omega) q s hq
    rw [show runs on (t+1) i - 1 - a=runs on t i - 1 - (a - 1) from by omega,this,show t+1 - a=t - (a - 1) from by omega]
   ·have hr0:runs on t i=0:=Nat.eq_zero_of_not_pos fun hp=>hb ((runs_on on t i).1 hp)
    have hr:runs on (t+1) i=1:=by rw [runs,if_pos h,hr0]
    rw [if_neg (show ¬(rgT N F on own (t+1)).on i=true from hb)]
    have hN:=(rgT_N N F on own (t+1)).1
    refine laneB_put N F on own _ hN rfl (by rw [hr];rfl) (fun a h1 h2=>by omega)
theorem held_all (t i:Nat) (h:on t i=true) (hi:i<N):((rgT N F on own t).hear (on t)).held i=tab N fun s=>if N<runs on t i then ofM N i s (fun ago=>trk N F on own (t - ago) i) else rw0:=by
 have hB:=laneB_all N F on own t i h
 unfold RingM.held
 rw [if_pos (show ((rgT N F on own t).hear (on t)).on i=true from h)]
 have hN:((rgT N F on own t).hear (on t)).N=N:=(rgT_N N F on own t).1
 rw [hN]
 refine tab_congr fun s hs=> ?_
 show LaneM.held (laneH N F on own t i) s=_
 unfold LaneM.held
 have hr:0<runs on t i:=(runs_on on t i).2 h
 rw [hB.n,hB.T,hB.me]
 by_cases hc:N<runs on t i
 ·rw [if_pos (by omega),if_pos hc]
  refine ofM_congr hi hs fun a q h1 h2 hq=> ?_
  exact hB.p a h1 (by omega) h2 q s hq
 ·rw [if_neg (by omega),if_neg hc]
theorem word_all (t i q:Nat) (h:on t i=true) (hq:q=0∨q=2):((rgT N F on own t).hear (on t)).word (own t) i q=tab N (trk N F on own t i q):=by
 have hB:=laneB_all N F on own t i h
 have hr:0<runs on t i:=(runs_on on t i).2 h
 have hT:=laneB_said N F on own hB hr
 unfold RingM.word
 rw [if_pos (by
  show (on t i&&(laneH N F on own t i).b)=true
  rw [h,hB.b];rfl)]
 show ((laneH N F on own t i).said (own t i)).out q=_
 unfold LaneM.out
 rw [hT.n,hT.T]
 refine tab_congr fun s _=> ?_
 have:=hT.p 0 hr (by omega) q s (by omega)
 rw [Nat.sub_zero,Nat.sub_zero] at this
 exact this
theorem word_off (t i q:Nat) (h:on t i=false):((rgT N F on own t).hear (on t)).word (own t) i q=[]:=by
 unfold RingM.word
 rw [if_neg (by show ¬(on t i&&_)=true;rw [h];simp)]
end
theorem mod3 {y N:Nat} (h:y<3*N):y % N=if y<N then y else if y<2*N then y - N else y - 2*N:=by
 split
 ·exact Nat.mod_eq_of_lt ‹_›
 ·split
  ·rw [show y=(y - N)+N from by omega,Nat.add_mod_right,Nat.mod_eq_of_lt (by omega)];omega
  ·rw [show y=(y - 2*N)+N+N from by omega,Nat.add_mod_right,Nat.add_mod_right,Nat.mod_eq_of_lt (by omega)];omega
def nodeAt (N way s e:Nat):Nat:=if way=0 then (s+e) % N else (s+N - e) % N
theorem nodeAt_lt {N way s e:Nat} (h:0<N):nodeAt N way s e<N:=by unfold nodeAt;split <;> exact Nat.mod_lt _ h
theorem dist_node {N way s e:Nat} (hs:s<N) (he:e<N):distM N (nodeAt N way s e) way s=e:=by
 have h0:0<N:=by omega
 unfold nodeAt distM
 by_cases hw:way=0
 ·rw [if_pos hw,if_pos hw,mod3 (y:=s+e) (by omega)]
  split
  ·rw [mod3 (by omega)];(repeat' split) <;> omega
  ·split
   ·rw [mod3 (by omega)];(repeat' split) <;> omega
   ·omega
 ·rw [if_neg hw,if_neg hw,mod3 (y:=s+N - e) (by omega)]
  split
  ·rw [mod3 (by omega)];(repeat' split) <;> omega
  ·split
   ·rw [mod3 (by omega)];(repeat' split) <;> omega
   ·omega
theorem node_dist {N way s x:Nat} (hs:s<N) (hx:x<N):nodeAt N way s (distM N x way s)=x:=by
 have h0:0<N:=by omega
 unfold nodeAt distM
 by_cases hw:way=0
 ·rw [if_pos hw,if_pos hw,mod3 (y:=x+N - s) (by omega)]
  split
  ·rw [mod3 (by omega)];(repeat' split) <;> omega
  ·split
   ·rw [mod3 (by omega)];(repeat' split) <;> omega
   ·omega
 ·rw [if_neg hw,if_neg hw,mod3 (y:=s+N - x) (by omega)]
  split
  ·rw [mod3 (by omega)];(repeat' split) <;> omega
  ·split
   ·rw [mod3 (by omega)];(repeat' split) <;> omega
   ·omega
theorem dist_sum {N x s:Nat} (hs:s<N) (hx:x<N) (hne:s≠x):distM N x 0 s+distM N x 1 s=N∧1≤distM N x 0 s∧1≤distM N x 1 s:=by
 unfold distM
 rw [if_pos rfl,if_neg (by decide),mod3 (y:=x+N - s) (by omega),mod3 (y:=s+N - x) (by omega)]
 (repeat' split) <;> omega
def prevN (N way x k:Nat):Nat:=if way=0 then (x+2*N - k) % N else (x+2*N+k) % N
theorem prev_node {N way s e k:Nat} (hs:s<N) (he:e<N) (hk:k≤e) (hk2:k≤2) (h4:4≤N):prevN N way (nodeAt N way s e) k=nodeAt N way s (e - k):=by
 unfold prevN nodeAt
 by_cases hw:way=0
 ·rw [if_pos hw,if_pos hw,if_pos hw,mod3 (y:=s+e) (by omega),mod3 (y:=s+(e - k)) (by omega)]
  rw [show ∀z,z+2*N - k=z+2*N - k from fun _=>rfl]
  split
  ·rw [show s+e+2*N - k=(s+e - k)+N+N from by omega,Nat.add_mod_right,Nat.add_mod_right,mod3 (by omega)]
   (repeat' split) <;> omega
  ·split
   ·rcases Nat.lt_or_ge (s+e - N) k with h | h
    ·rw [show s+e - N+2*N - k=(s+e - k)+N from by omega,Nat.add_mod_right,mod3 (by omega)]
     (repeat' split) <;> omega
    ·rw [show s+e - N+2*N - k=(s+e - N - k)+N+N from by omega,Nat.add_mod_right,Nat.add_mod_right,mod3 (by omega)]
     (repeat' split) <;> omega
   ·omega
 ·rw [if_neg hw,if_neg hw,if_neg hw,mod3 (y:=s+N - e) (by omega),mod3 (y:=s+N - (e - k)) (by omega)]
  split
  ·rw [show s+N - e+2*N+k=(s+N - e+k)+N+N from by omega,Nat.add_mod_right,Nat.add_mod_right,mod3 (by omega)]
   (repeat' split) <;> omega
  ·split
   ·rw [show s+N - e - N+2*N+k=(s+N - e - N+k)+N+N from by omega,Nat.add_mod_right,Nat.add_mod_right,mod3 (by omega)]
    (repeat' split) <;> omega
   ·omega
section
variable (N:Nat) (F:FltM) (on:Nat→Nat→Bool) (own:Nat→Nat→Rw)
def oddL (i k:Nat):Bool:=decide (F.at_ % N=i)&&(!F.link||decide (F.which % 4=k))&& !F.acts.isEmpty
theorem sentT_good {t i k:Nat} (h:oddL N F i k=false):sentT N F on own t i k=if on t i=true then tab N (trk N F on own t i (if k<2 then 0 else 2)) else []:=by
 have ho:((rgT N F on own t).hear (on t)).odd i k=false:=by
  have hN:=rgT_N N F on own t
  unfold RingM.odd
  rw [show ((rgT N F on own t).hear (on t)).F=F from hN.2,show ((rgT N F on own t).hear (on t)).N=N from hN.1]
  exact h
 have hsd:∀a b:List Rw,((rgT N F on own t).hear (on t)).saidM i k a b=a:=fun a b=>by
  unfold RingM.saidM
  rw [if_neg (by rw [ho];simp)]
 unfold sentT RingM.outM
 rw [hsd,hsd]
 by_cases hon:on t i=true
 ·rw [if_pos hon]
  by_cases hk:k<2
  ·rw [if_pos hk,if_pos hk];exact word_all N F on own t i 0 hon (.inl rfl)
  ·rw [if_neg hk,if_neg hk];exact word_all N F on own t i 2 hon (.inr rfl)
 ·rw [if_neg hon]
  have hoff:on t i=false:=by simpa using hon
  by_cases hk:k<2
  ·rw [if_pos hk];exact word_off N F on own t i 0 hoff
  ·rw [if_neg hk];exact word_off N F on own t i 2 hoff
theorem insT_eq {t x way p:Nat} (hw:way<2) (hp:p<2) (ht:p+1≤t):insT N F on own t x (2*way+p)=sentT N F on own (t - (p+1)) (prevN N way x (p+1)) (2*way+p):=by
 have hN:=(rgT_N N F on own t).1
 have hl:=rgT_len N F on own t
 have key:∀(y k ago:Nat),1≤ago→ago≤t→(rgT N F on own t).sentM y k ago=sentT N F on own (t - ago) (y % N) k:=fun y k ago h1 h2=>by
  unfold RingM.sentM
  rw [hl,if_neg (by omega),List.getD_eq_getElem?_getD,rgT_sent N F on own t (t - ago) (by omega),hN]
  rfl
 unfold insT RingM.insM prevN
 rw [hN]
 have hc:(way=0∧p=0)∨(way=0∧p=1)∨(way=1∧p=0)∨(way=1∧p=1):=by omega
 rcases hc with ⟨rfl,rfl⟩ | ⟨rfl,rfl⟩ | ⟨rfl,rfl⟩ | ⟨rfl,rfl⟩
 ·exact key _ 0 1 (by omega) ht
 ·exact key _ 1 2 (by omega) ht
 ·exact key _ 2 1 (by omega) ht
 ·exact key _ 3 2 (by omega) ht
def OkV (x v:Rw):Prop:=x=v∨(x=rw0∧∃t i,i<N∧on t i=false)
theorem row_good {t y k s:Nat} {v:Rw} (hy:y<N) (hs:s<N) (ho:oddL N F y k=false) (hv:v.plain N=v) (h:on t y=true→OkV N on (trk N F on own t y (if k<2 then 0 else 2) s) v):OkV N on (inRow N (sentT N F on own t y k) s) v:=by
 rw [sentT_good N F on own ho]
 by_cases hon:on t y=true
 ·rw [if_pos hon]
  have e:inRow N (tab N (trk N F on own t y (if k<2 then 0 else 2))) s=(trk N F on own t y (if k<2 then 0 else 2) s).plain N:=by
   unfold inRow;rw [tab_at hs]
  rw [e]
  rcases h hon with h | ⟨h,h2⟩
  ·left;rw [h,hv]
  ·right;rw [h];exact⟨rw0_plain _,h2⟩
 ·rw [if_neg hon]
  exact .inr ⟨rfl,t,y,hy,by simpa using hon⟩
theorem path_track {way s τ:Nat} (hw:way<2) (h4:4≤N) (hs:s<N) {v:Rw} (hv:v=(own τ s).plain N) (hvp:v.plain N=v):∀e,e<N→
 (∀e',e'<e→(e - e') % 2=0→oddL N F (nodeAt N way s e') (2*way+1)=false)→(e % 2=1→oddL N F (nodeAt N way s 0) (2*way)=false)→
 OkV N on (trk N F on own (τ+e) (nodeAt N way s e) (2*way) s) v
 | 0,he,_,_=>by
   have hx:nodeAt N way s 0=s:=by unfold nodeAt;split <;> simp [Nat.mod_eq_of_lt hs]
   left
   unfold trk
   rw [hx,if_pos ⟨by omega,rfl⟩,hv];rfl
 | 1,he,_,h1=>by
   have hd:=dist_node (way:=way) hs he
   have hne:s≠nodeAt N way s 1:=fun e=>by
    rw [←e] at hd
    have:distM N s way s=0:=by unfold distM;split <;> simp
    omega
   have h0:nodeAt N way s 0=s:=by unfold nodeAt;split <;> simp [Nat.mod_eq_of_lt hs]
   unfold trk
   rw [if_neg (fun h=>hne h.2)]
   unfold momM sideM
   rw [show 2*way / 2=way from by omega,hd,if_neg (by decide),if_pos rfl,show 2*way % 2=0 from by omega,if_pos rfl]
   have hi:=insT_eq N F on own (t:=τ+1) (x:=nodeAt N way s 1) (p:=0) hw (by omega) (by omega)
   rw [show 2*way+0=2*way from rfl] at hi
   rw [hi,prev_node hs he (by omega) (by omega) h4]
   refine row_good N F on own (nodeAt_lt (by omega)) hs (h1 rfl) hvp fun _=> ?_
   rw [show 1 - (0+1)=0 from rfl,h0]
   left
   unfold trk
   have hq:(if 2*way<2 then 0 else 2) % 2=0:=by split <;> rfl
   rw [if_pos ⟨hq,rfl⟩,hv]
   rfl
 | e+2,he,hf,h1=>by
   have ih:=path_track hw h4 hs hv hvp e (by omega) (fun e' h h'=>hf e' (by omega) (by omega)) (fun h=>h1 (by omega))
   have hd:=dist_node (way:=way) hs he
   have hne:s≠nodeAt N way s (e+2):=fun e'=>by
    rw [←e'] at hd
    have:distM N s way s=0:=by unfold distM;split <;> simp
    omega
   unfold trk
   rw [if_neg (fun h=>hne h.2)]
   unfold momM sideM
   rw [show 2*way / 2=way from by omega,hd,if_neg (by omega),if_neg (by omega),show 2*way % 2=0 from by omega,if_pos rfl]
   have hi:=insT_eq N F on own (t:=τ+(e+2)) (x:=nodeAt N way s (e+2)) (p:=1) hw (by omega) (by omega)
   rw [hi,prev_node hs he (by omega) (by omega) h4,show e+2 - (1+1)=e from by omega,show τ+(e+2) - (1+1)=τ+e from by omega]
   refine row_good N F on own (nodeAt_lt (by omega)) hs (hf e (by omega) (by omega)) hvp fun _=> ?_
   have hq:(if 2*way+1<2 then 0 else 2)=2*way:=by
    have:way=0∨way=1:=by omega
    rcases this with rfl | rfl <;> rfl
   rw [hq]
   exact ih
theorem path_near {way s τ d:Nat} (hw:way<2) (h4:4≤N) (hs:s<N) {v:Rw} (hv:v=(own τ s).plain N) (hvp:v.plain N=v) (hd2:2≤d) (hd:d<N) (hn:oddL N F (nodeAt N way s (d - 1)) (2*way)=false)
 (hf:∀e',e'<d - 1→(d - 1 - e') % 2=0→oddL N F (nodeAt N way s e') (2*way+1)=false) (h1:(d - 1) % 2=1→oddL N F (nodeAt N way s 0) (2*way)=false) :
 OkV N on (trk N F on own (τ+d) (nodeAt N way s d) (2*way+1) s) v:=by
 have ih:=path_track N F on own hw h4 hs hv hvp (d - 1) (by omega) hf h1
 have hdd:=dist_node (way:=way) hs hd
 unfold trk
 rw [if_neg (fun h=>by omega)]
 unfold momM sideM
 rw [show (2*way+1) / 2=way from by omega,hdd,if_neg (by omega),if_neg (by omega),show (2*way+1) % 2=1 from by omega,if_neg (by decide)]
 have hi:=insT_eq N F on own (t:=τ+d) (x:=nodeAt N way s d) (p:=0) hw (by omega) (by omega)
 rw [show 2*way+0=2*way from rfl] at hi
 rw [hi,prev_node hs hd (by omega) (by omega) h4,show τ+d - (0+1)=τ+(d - 1) from by omega]
 refine row_good N F on own (nodeAt_lt (by omega)) hs hn hvp fun _=> ?_
 have hq:(if 2*way<2 then 0 else 2)=2*way:=by
  have:way=0∨way=1:=by omega
  rcases this with rfl | rfl <;> rfl
 rw [hq]
 exact ih
theorem near_none {way s τ d:Nat} (hw:way<2) (hs:s<N) (h4:4≤N) (hd:d<N) (hd1:d≤1):trk N F on own (τ+d) (nodeAt N way s d) (2*way+1) s=rw0:=by
 have hdd:=dist_node (way:=way) hs hd
 unfold trk
 rw [if_neg (fun h=>by omega)]
 unfold momM sideM
 rw [show (2*way+1) / 2=way from by omega,hdd,show (2*way+1) % 2=1 from by omega]
 by_cases h:d=0
 ·rw [if_pos h]
 ·rw [if_neg h,if_pos (by omega),if_neg (by decide)]
end
section
variable (N:Nat) (F:FltM) (on:Nat→Nat→Bool) (own:Nat→Nat→Rw)
def KL (k:Nat):Prop:=F.link=false∨F.which % 4=k
theorem oddL_true {i k:Nat} (h:oddL N F i k=true):F.at_ % N=i∧KL F k:=by
 unfold oddL at h
 simp only [Bool.and_eq_true,Bool.or_eq_true,decide_eq_true_eq,Bool.not_eq_true'] at h
 exact⟨h.1.1,h.1.2⟩
def PT (a d w:Nat):Prop:=(a<d∧(d - a) % 2=0∧KL F (2*w+1))∨(d % 2=1∧a=0∧KL F (2*w))
def PN (a d w:Nat):Prop:=2≤d∧((a=d - 1∧KL F (2*w))∨(a<d - 1∧(d - 1 - a) % 2=0∧KL F (2*w+1))∨((d - 1) % 2=1∧a=0∧KL F (2*w)))
theorem one_bad {s i:Nat} (h4:4≤N) (hs:s<N) (hi:i<N) (hne:s≠i) (bs:F.at_ % N=s→F.link=true) (bi:F.at_ % N=i→F.link=true) :
 ∀j k,j<k→k<4→¬((if j=0 then PT F (distM N (F.at_ % N) 0 s) (distM N i 0 s) 0 else if j=1 then PN F (distM N (F.at_ % N) 0 s) (distM N i 0 s) 0 else if j=2 then PT F (distM N (F.at_ % N) 1 s) (distM N i 1 s) 1 else PN F (distM N (F.at_ % N) 1 s) (distM N i 1 s) 1)∧
  (if k=0 then PT F (distM N (F.at_ % N) 0 s) (distM N i 0 s) 0 else if k=1 then PN F (distM N (F.at_ % N) 0 s) (distM N i 0 s) 0 else if k=2 then PT F (distM N (F.at_ % N) 1 s) (distM N i 1 s) 1 else PN F (distM N (F.at_ % N) 1 s) (distM N i 1 s) 1)):=by
 have hf:F.at_ % N<N:=Nat.mod_lt _ (by omega)
 obtain⟨e1,e2,e3⟩:=dist_sum hs hi hne
 have hA:(distM N (F.at_ % N) 0 s=0∧distM N (F.at_ % N) 1 s=0∧F.link=true)∨(distM N (F.at_ % N) 0 s+distM N (F.at_ % N) 1 s=N∧1≤distM N (F.at_ % N) 0 s∧1≤distM N (F.at_ % N) 1 s∧(distM N (F.at_ % N) 0 s=distM N i 0 s→F.link=true)):=by
  by_cases h:F.at_ % N=s
  ·left
   rw [h]
   exact⟨by unfold distM;simp,by unfold distM;simp,bs h⟩
  ·right
   obtain⟨q1,q2,q3⟩:=dist_sum hs hf (Ne.symm h)
   refine⟨q1,q2,q3,fun hd=>bi ?_⟩
   have n1:=node_dist (way:=0) hs hf
   have n2:=node_dist (way:=0) hs hi
   rw [hd,n2] at n1
   exact n1.symm
 generalize distM N (F.at_ % N) 0 s=a at *
 generalize distM N (F.at_ % N) 1 s=b at *
 generalize distM N i 0 s=d0 at *
 generalize distM N i 1 s=d1 at *
 have hK:(F.link=false)∨(F.link=true):=by cases F.link <;> simp
 rintro j k hjk hk ⟨h1,h2⟩
 have hj:j=0∨j=1∨j=2:=by omega
 have hk':k=1∨k=2∨k=3:=by omega
 rcases hK with hl | hl
 ·have hA':a+b=N∧1≤a∧1≤b∧a≠d0:=by
   rcases hA with h | h
   ·rw [hl] at h;exact absurd h.2.2 (by decide)
   ·exact⟨h.1,h.2.1,h.2.2.1,fun e=>by have:=h.2.2.2 e;rw [hl] at this;cases this⟩
  have hKL:∀k,KL F k↔True:=fun k=>⟨fun _=>trivial,fun _=> .inl hl⟩
  simp only [PT,PN,hKL,and_true] at h1 h2
  rcases hj with rfl | rfl | rfl <;> rcases hk' with rfl | rfl | rfl <;> simp at h1 h2 hjk <;> omega
 ·have hA':(a=0∧b=0)∨(a+b=N∧1≤a∧1≤b):=by
   rcases hA with h | h
   ·exact .inl ⟨h.1,h.2.1⟩
   ·exact .inr ⟨h.1,h.2.1,h.2.2.1⟩
  have hKL:∀k,KL F k↔F.which % 4=k:=fun k=>⟨fun h=>by rcases h with h | h;rw [hl] at h;cases h;exact h,fun h=> .inr h⟩
  simp only [PT,PN,hKL] at h1 h2
  rcases hj with rfl | rfl | rfl <;> rcases hk' with rfl | rfl | rfl <;> simp at h1 h2 hjk <;> omega
end
theorem cert_four {c0 c1 c2 c3 v:Rw} {B:Nat→Prop} {off:Prop} {d0 d1:Nat} (hB:∀j k,j<k→k<4→¬(B j∧B k)) (hv0:v.is=false→v=rw0)
 (h0:¬B 0→c0=v∨(c0=rw0∧off)) (h1:¬B 1→(2≤d0→c1=v∨(c1=rw0∧off))∧(d0<2→c1=rw0)) (h2:¬B 2→c2=v∨(c2=rw0∧off)) (h3:¬B 3→(2≤d1→c3=v∨(c3=rw0∧off))∧(d1<2→c3=rw0)) (hd:4≤d0+d1) :
 certM [c0,c1,c2,c3]=v∨(certM [c0,c1,c2,c3]=rw0∧off):=by
 have hr0:∀{r:Rw},r.is=true→r=rw0→False:=fun h e=>by rw [e] at h;cases h
 have key:∀q,q<4→¬B q→∀r:Rw,[c0,c1,c2,c3][q]? =some r→r.is=true→r=v:=fun q hq hb r hr his=>by
  have hq':q=0∨q=1∨q=2∨q=3:=by omega
  rcases hq' with rfl | rfl | rfl | rfl
  ·simp at hr;subst hr
   rcases h0 hb with h | h
   ·exact h
   ·exact (hr0 his h.1).elim
  ·simp at hr;subst hr
   by_cases hd0:2≤d0
   ·rcases (h1 hb).1 hd0 with h | h
    ·exact h
    ·exact (hr0 his h.1).elim
   ·exact (hr0 his ((h1 hb).2 (by omega))).elim
  ·simp at hr;subst hr
   rcases h2 hb with h | h
   ·exact h
   ·exact (hr0 his h.1).elim
  ·simp at hr;subst hr
   by_cases hd1:2≤d1
   ·rcases (h3 hb).1 hd1 with h | h
    ·exact h
    ·exact (hr0 his h.1).elim
   ·exact (hr0 his ((h3 hb).2 (by omega))).elim
 have hall:∀r,Dup [c0,c1,c2,c3] r→r=v:=fun r hr=>by
  obtain⟨his,j,k,hjk,e1,e2⟩:=hr
  have hk:k<4:=by have:=(List.getElem?_eq_some_iff.1 e2).1;simpa using this
  by_cases hb:B j
  ·exact key k hk (fun h=>hB j k hjk hk ⟨hb,h⟩) r e2 his
  ·exact key j (by omega) hb r e1 his
 by_cases hoff:off
 ·rcases certM_or [c0,c1,c2,c3] with h | h
  ·exact .inr ⟨h,hoff⟩
  ·exact .inl (hall _ h)
 ·left
  have g0:¬B 0→c0=v:=fun h=>(h0 h).resolve_right fun h=>hoff h.2
  have g1:¬B 1→2≤d0→c1=v:=fun h hd=>((h1 h).1 hd).resolve_right fun h=>hoff h.2
  have g2:¬B 2→c2=v:=fun h=>(h2 h).resolve_right fun h=>hoff h.2
  have g3:¬B 3→2≤d1→c3=v:=fun h hd=>((h3 h).1 hd).resolve_right fun h=>hoff h.2
  cases hvi:v.is with
  | false=>
    rcases certM_or [c0,c1,c2,c3] with h | h
    ·rw [h,hv0 hvi]
    ·exact hall _ h
  | true=>
    have hdup:∀{j k:Nat},j<k→[c0,c1,c2,c3][j]? =some v→[c0,c1,c2,c3][k]? =some v→certM [c0,c1,c2,c3]=v:=fun hjk e1 e2=>certM_one ⟨hvi,_,_,hjk,e1,e2⟩ hall
    by_cases b0:B 0
    ·have x2:=g2 (fun h=>hB 0 2 (by omega) (by omega) ⟨b0,h⟩)
     by_cases hd0:2≤d0
     ·have x1:=g1 (fun h=>hB 0 1 (by omega) (by omega) ⟨b0,h⟩) hd0
      exact hdup (j:=1) (k:=2) (by omega) (by rw [x1];rfl) (by rw [x2];rfl)
     ·have x3:=g3 (fun h=>hB 0 3 (by omega) (by omega) ⟨b0,h⟩) (by omega)
      exact hdup (j:=2) (k:=3) (by omega) (by rw [x2];rfl) (by rw [x3];rfl)
    ·have x0:=g0 b0
     by_cases b2:B 2
     ·by_cases hd0:2≤d0
      ·have x1:=g1 (fun h=>hB 1 2 (by omega) (by omega) ⟨h,b2⟩) hd0
       exact hdup (j:=0) (k:=1) (by omega) (by rw [x0];rfl) (by rw [x1];rfl)
      ·have x3:=g3 (fun h=>hB 2 3 (by omega) (by omega) ⟨b2,h⟩) (by omega)
       exact hdup (j:=0) (k:=3) (by omega) (by rw [x0];rfl) (by rw [x3];rfl)
     ·have x2:=g2 b2
      exact hdup (j:=0) (k:=2) (by omega) (by rw [x0];rfl) (by rw [x2];rfl)
section
variable (N:Nat) (F:FltM) (on:Nat→Nat→Bool) (own:Nat→Nat→Rw)
end
section
variable (N:Nat) (F:FltM) (on:Nat→Nat→Bool) (own:Nat→Nat→Rw)
def OkL (lo:Nat) (x v:Rw):Prop:=x=v∨(x=rw0∧∃t i,lo≤t∧i<N∧on t i=false)
theorem row_goodL {t y k s lo:Nat} {v:Rw} (hlo:lo≤t) (hy:y<N) (hs:s<N) (ho:oddL N F y k=false) (hv:v.plain N=v) (h:on t y=true→OkL N on lo (trk N F on own t y (if k<2 then 0 else 2) s) v):OkL N on lo (inRow N (sentT N F on own t y k) s) v:=by
 rw [sentT_good N F on own ho]
 by_cases hon:on t y=true
 ·rw [if_pos hon]
  have e:inRow N (tab N (trk N F on own t y (if k<2 then 0 else 2))) s=(trk N F on own t y (if k<2 then 0 else 2) s).plain N:=by
   unfold inRow;rw [tab_at hs]
  rw [e]
  rcases h hon with h | ⟨h,h2⟩
  ·left;rw [h,hv]
  ·right;rw [h];exact⟨rw0_plain _,h2⟩
 ·rw [if_neg hon]
  exact .inr ⟨rfl,t,y,hlo,hy,by simpa using hon⟩
theorem path_trackL {way s τ:Nat} (hw:way<2) (h4:4≤N) (hs:s<N) {v:Rw} (hv:v=(own τ s).plain N) (hvp:v.plain N=v):∀e,e<N→
 (∀e',e'<e→(e - e') % 2=0→oddL N F (nodeAt N way s e') (2*way+1)=false)→(e % 2=1→oddL N F (nodeAt N way s 0) (2*way)=false)→
 OkL N on τ (trk N F on own (τ+e) (nodeAt N way s e) (2*way) s) v
 | 0,he,_,_=>by
   have hx:nodeAt N way s 0=s:=by unfold nodeAt;split <;> simp [Nat.mod_eq_of_lt hs]
   left
   unfold trk
   rw [hx,if_pos ⟨by omega,rfl⟩,hv];rfl
 | 1,he,_,h1=>by
   have hd:=dist_node (way:=way) hs he
   have hne:s≠nodeAt N way s 1:=fun e=>by
    rw [←e] at hd
    have:distM N s way s=0:=by unfold distM;split <;> simp
    omega
   have h0:nodeAt N way s 0=s:=by unfold nodeAt;split <;> simp [Nat.mod_eq_of_lt hs]
   unfold trk
   rw [if_neg (fun h=>hne h.2)]
   unfold momM sideM
   rw [show 2*way / 2=way from by omega,hd,if_neg (by decide),if_pos rfl,show 2*way % 2=0 from by omega,if_pos rfl]
   have hi:=insT_eq N F on own (t:=τ+1) (x:=nodeAt N way s 1) (p:=0) hw (by omega) (by omega)
   rw [show 2*way+0=2*way from rfl] at hi
   rw [hi,prev_node hs he (by omega) (by omega) h4]
   refine row_goodL N F on own (lo:=τ) (by omega) (nodeAt_lt (by omega)) hs (h1 rfl) hvp fun _=> ?_
   rw [show 1 - (0+1)=0 from rfl,h0]
   left
   unfold trk
   have hq:(if 2*way<2 then 0 else 2) % 2=0:=by split <;> rfl
   rw [if_pos ⟨hq,rfl⟩,hv]
   rfl
 | e+2,he,hf,h1=>by
   have ih:=path_trackL hw h4 hs hv hvp e (by omega) (fun e' h h'=>hf e' (by omega) (by omega)) (fun h=>h1 (by omega))
   have hd:=dist_node (way:=way) hs he
   have hne:s≠nodeAt N way s (e+2):=fun e'=>by
    rw [←e'] at hd
    have:distM N s way s=0:=by unfold distM;split <;> simp
    omega
   unfold trk
   rw [if_neg (fun h=>hne h.2)]
   unfold momM sideM
   rw [show 2*way / 2=way from by omega,hd,if_neg (by omega),if_neg (by omega),show 2*way % 2=0 from by omega,if_pos rfl]
   have hi:=insT_eq N F on own (t:=τ+(e+2)) (x:=nodeAt N way s (e+2)) (p:=1) hw (by omega) (by omega)
   rw [hi,prev_node hs he (by omega) (by omega) h4,show e+2 - (1+1)=e from by omega,show τ+(e+2) - (1+1)=τ+e from by omega]
   refine row_goodL N F on own (lo:=τ) (by omega) (nodeAt_lt (by omega)) hs (hf e (by omega) (by omega)) hvp fun _=> ?_
   have hq:(if 2*way+1<2 then 0 else 2)=2*way:=by
    have:way=0∨way=1:=by omega
    rcases this with rfl | rfl <;> rfl
   rw [hq]
   exact ih
theorem path_nearL {way s τ d:Nat} (hw:way<2) (h4:4≤N) (hs:s<N) {v:Rw} (hv:v=(own τ s).plain N) (hvp:v.plain N=v) (hd2:2≤d) (hd:d<N) (hn:oddL N F (nodeAt N way s (d - 1)) (2*way)=false)
 (hf:∀e',e'<d - 1→(d - 1 - e') % 2=0→oddL N F (nodeAt N way s e') (2*way+1)=false) (h1:(d - 1) % 2=1→oddL N F (nodeAt N way s 0) (2*way)=false) :
 OkL N on τ (trk N F on own (τ+d) (nodeAt N way s d) (2*way+1) s) v:=by
 have ih:=path_trackL N F on own hw h4 hs hv hvp (d - 1) (by omega) hf h1
 have hdd:=dist_node (way:=way) hs hd
 unfold trk
 rw [if_neg (fun h=>by omega)]
 unfold momM sideM
 rw [show (2*way+1) / 2=way from by omega,hdd,if_neg (by omega),if_neg (by omega),show (2*way+1) % 2=1 from by omega,if_neg (by decide)]
 have hi:=insT_eq N F on own (t:=τ+d) (x:=nodeAt N way s d) (p:=0) hw (by omega) (by omega)
 rw [show 2*way+0=2*way from rfl] at hi
 rw [hi,prev_node hs hd (by omega) (by omega) h4,show τ+d - (0+1)=τ+(d - 1) from by omega]
 refine row_goodL N F on own (lo:=τ) (by omega) (nodeAt_lt (by omega)) hs hn hvp fun _=> ?_
 have hq:(if 2*way<2 then 0 else 2)=2*way:=by
  have:way=0∨way=1:=by omega
  rcases this with rfl | rfl <;> rfl
 rw [hq]
 exact ih
theorem copy_tL {way s τ i:Nat} (hw:way<2) (h4:4≤N) (hs:s<N) (hi:i<N) {v:Rw} (hv:v=(own τ s).plain N) (hvp:v.plain N=v) (hP:¬PT F (distM N (F.at_ % N) way s) (distM N i way s) way) :
 OkL N on τ (trk N F on own (τ+distM N i way s) i (2*way) s) v:=by
 have hd:distM N i way s<N:=by unfold distM;split <;> exact Nat.mod_lt _ (by omega)
 have:=path_trackL N F on own (way:=way) (τ:=τ) hw h4 hs hv hvp (distM N i way s) hd (fun e' h1 h2=>by
  rw [Bool.eq_false_iff]
  intro ho
  obtain⟨o1,o2⟩:=oddL_true N F ho
  have hde:=dist_node (N:=N) (way:=way) (s:=s) (e:=e') hs (by omega)
  rw [←o1] at hde
  exact hP (.inl ⟨by omega,by rw [hde];exact h2,o2⟩)) (fun h1=>by
  rw [Bool.eq_false_iff]
  intro ho
  obtain⟨o1,o2⟩:=oddL_true N F ho
  have hde:=dist_node (N:=N) (way:=way) (s:=s) (e:=0) hs (by omega)
  rw [←o1] at hde
  exact hP (.inr ⟨h1,hde,o2⟩))
 rwa [node_dist hs hi] at this
theorem copy_nL {way s τ i:Nat} (hw:way<2) (h4:4≤N) (hs:s<N) (hi:i<N) {v:Rw} (hv:v=(own τ s).plain N) (hvp:v.plain N=v) (hP:¬PN F (distM N (F.at_ % N) way s) (distM N i way s) way) :
 (2≤distM N i way s→OkL N on τ (trk N F on own (τ+distM N i way s) i (2*way+1) s) v)∧(distM N i way s<2→trk N F on own (τ+distM N i way s) i (2*way+1) s=rw0):=by
 have hd:distM N i way s<N:=by unfold distM;split <;> exact Nat.mod_lt _ (by omega)
 refine⟨fun h2=> ?_,fun h2=> ?_⟩
 ·have:=path_nearL N F on own (way:=way) (τ:=τ) hw h4 hs hv hvp h2 hd (by
   rw [Bool.eq_false_iff]
   intro ho
   obtain⟨o1,o2⟩:=oddL_true N F ho
   have hde:=dist_node (N:=N) (way:=way) (s:=s) (e:=distM N i way s - 1) hs (by omega)
   rw [←o1] at hde
   exact hP ⟨h2,.inl ⟨hde,o2⟩⟩) (fun e' h1 h3=>by
   rw [Bool.eq_false_iff]
   intro ho
   obtain⟨o1,o2⟩:=oddL_true N F ho
   have hde:=dist_node (N:=N) (way:=way) (s:=s) (e:=e') hs (by omega)
   rw [←o1] at hde
   exact hP ⟨h2,.inr (.inl ⟨by omega,by rw [hde];exact h3,o2⟩)⟩) (fun h1=>by
   rw [Bool.eq_false_iff]
   intro ho
   obtain⟨o1,o2⟩:=oddL_true N F ho
   have hde:=dist_node (N:=N) (way:=way) (s:=s) (e:=0) hs (by omega)
   rw [←o1] at hde
   exact hP ⟨h2,.inr (.inr ⟨h1,hde,o2⟩)⟩)
  rwa [node_dist hs hi] at this
 ·have:=near_none N F on own (way:=way) (s:=s) (τ:=τ) (d:=distM N i way s) hw hs h4 hd (by omega)
  rwa [node_dist hs hi] at this
theorem cert_truthL {s i t:Nat} (h4:4≤N) (hs:s<N) (hi:i<N) (hne:s≠i) (bs:F.at_ % N=s→F.link=true) (bi:F.at_ % N=i→F.link=true) (ht:N≤t) (ho:(own (t - N) s).ok) :
 OkL N on (t - N) (ofM N i s (fun ago=>trk N F on own (t - ago) i)) ((own (t - N) s).plain N):=by
 obtain⟨e1,e2,e3⟩:=dist_sum hs hi hne
 have hvp:((own (t - N) s).plain N).plain N=(own (t - N) s).plain N:=Rw.plain_twice ho
 unfold ofM
 rw [if_neg hne]
 dsimp only
 have q0:t - (N - distM N i 0 s)=t - N+distM N i 0 s:=by omega
 have q1:t - (N - distM N i 1 s)=t - N+distM N i 1 s:=by omega
 rw [q0,q1]
 refine cert_four (d0:=distM N i 0 s) (d1:=distM N i 1 s) (B:=fun j=>if j=0 then PT F (distM N (F.at_ % N) 0 s) (distM N i 0 s) 0 else if j=1 then PN F (distM N (F.at_ % N) 0 s) (distM N i 0 s) 0 else if j=2 then PT F (distM N (F.at_ % N) 1 s) (distM N i 1 s) 1 else PN F (distM N (F.at_ % N) 1 s) (distM N i 1 s) 1)
  (one_bad N F h4 hs hi hne bs bi) plain_no ?_ ?_ ?_ ?_ (by omega)
 ·intro h;exact copy_tL N F on own (way:=0) (by omega) h4 hs hi rfl hvp h
 ·intro h;exact copy_nL N F on own (way:=0) (by omega) h4 hs hi rfl hvp h
 ·intro h;exact copy_tL N F on own (way:=1) (by omega) h4 hs hi rfl hvp h
 ·intro h;exact copy_nL N F on own (way:=1) (by omega) h4 hs hi rfl hvp h
theorem runs_ge {lo i:Nat} (h:∀t,lo≤t→on t i=true):∀t,lo≤t→t - lo+1≤runs on t i:=fun t=>by
 induction t with
 | zero=>
   intro hl
   have:=h 0 hl
   unfold runs
   rw [if_pos this]
   omega
 | succ t ih=>
   intro hl
   rw [runs,if_pos (h _ hl)]
   by_cases hlt:lo≤t
   ·have:=ih hlt;omega
   ·omega
theorem held_truthL {s i t:Nat} (h4:4≤N) (hs:s<N) (hi:i<N) (bs:F.at_ % N=s→F.link=true) (bi:F.at_ % N=i→F.link=true) (ho:∀t s,(own t s).ok) (hon:on t i=true) :
 ∃r,(((rgT N F on own t).hear (on t)).held i)[s]? =some r∧(∀lo,lo+N≤t→(∀t i,i<N→lo≤t→on t i=true)→r=(own (t - N) s).plain N)∧(r.is=true→N≤t∧r=(own (t - N) s).plain N):=by
 refine⟨_,by rw [held_all N F on own t i hon hi];exact tab_at hs,?_⟩
 have hrl:=runs_le on t i
 by_cases hc:N<runs on t i
 ·rw [if_pos hc]
  have ht:N≤t:=by omega
  have key:OkL N on (t - N) (ofM N i s (fun ago=>trk N F on own (t - ago) i)) ((own (t - N) s).plain N):=by
   by_cases hne:s=i
   ·subst hne
    left
    unfold ofM
    rw [if_pos rfl]
    show trk N F on own (t - N) s 0 s=_
    unfold trk
    rw [if_pos ⟨rfl,rfl⟩]
   ·exact cert_truthL N F on own h4 hs hi hne bs bi ht (ho _ _)
  refine⟨fun lo hlo hall=> ?_,fun his=>⟨ht,?_⟩⟩
  ·rcases key with h | ⟨-,t',i',h0,h1,h2⟩
   ·exact h
   ·rw [hall t' i' h1 (by omega)] at h2;cases h2
  ·rcases key with h | ⟨h,-⟩
   ·exact h
   ·rw [h] at his;cases his
 ·rw [if_neg hc]
  refine⟨fun lo hlo hall=> ?_,fun his=>by cases his⟩
  have:=runs_ge on (lo:=lo) (i:=i) (fun t ht=>hall t i hi ht) t (by omega)
  omega
end
end Go.Proofs.YtdilbjikeilhbaaGreatDoor
