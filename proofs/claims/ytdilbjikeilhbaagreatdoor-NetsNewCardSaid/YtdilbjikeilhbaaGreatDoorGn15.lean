import Derived.Test.YtdilbjikeilhbaaGreatDoorGn14
import Derived.Deep.CutBlock
import Derived.Deep.CutRange
import Derived.RegionTactic
namespace Go.Proofs.YtdilbjikeilhbaaGreatDoor
open Go.RowKit
set_option linter.unusedVariables false
set_option linter.unusedSimpArgs false
theorem agown_any (c:Nat) (n:Nat) (v:Value) (common cold:Int) (w:World) (hb:Blk w c 330 #[.int .i64 n,v]) (hn:n≤1000) (h0: -9223372036854775808≤common∧common≤9223372036854775807) :
 Calls Tryz.prog 148 #[.pointer (some ⟨c,0,none⟩),.int .i64 common,.int .i64 cold] w fun e w'=>e=.returned (.int .i64 (ownF n common cold))∧w=w':=by
 have hc0:w.cell? ⟨c,0,none⟩=some (.int .i64 n):=hb.cell 0
 have HI:=Lib.hid (fun (x:Int) (w':World)=>agis_any x w')
 obtain⟨a,ha⟩:∃a,a=if okI common then common+2*(n:Int) else cold:=⟨_,rfl⟩
 have hF:ownF n common cold=if okI a then a else -1:=by unfold ownF;rw [←ha]
 rw [hF]
 have HA:=Lib.hid ha
 clear hF ha hb
 cases hcm:okI common with
 | true=>
   have hc1:0≤common∧common≤1099511627776:=by simpa [okI] using hcm
   have ha:common+2*(n:Int)=a:=by rw [HA.out,hcm];rfl
   obtain⟨hc2,hc3⟩:=hc1
   cases hok:okI a with
   | true=>
     go_enter Tryz.func148,Tryz.ntmps148
     go_wp2_with (go_at_call 149;refine (HI.out _ _).mono ?_;rintro e w' ⟨rfl,rfl⟩)
     go_ret
     exact⟨rfl,rfl⟩
   | false=>
     go_enter Tryz.func148,Tryz.ntmps148
     go_wp2_with (go_at_call 149;refine (HI.out _ _).mono ?_;rintro e w' ⟨rfl,rfl⟩)
     go_ret
     exact⟨rfl,rfl⟩
 | false=>
   have ha:cold=a:=by rw [HA.out,hcm];rfl
   subst ha
   cases hok:okI cold with
   | true=>
     go_enter Tryz.func148,Tryz.ntmps148
     go_wp2_with (go_at_call 149;refine (HI.out _ _).mono ?_;rintro e w' ⟨rfl,rfl⟩)
     go_ret
     exact⟨rfl,rfl⟩
   | false=>
     go_enter Tryz.func148,Tryz.ntmps148
     go_wp2_with (go_at_call 149;refine (HI.out _ _).mono ?_;rintro e w' ⟨rfl,rfl⟩)
     go_ret
     exact⟨rfl,rfl⟩
def lastN (m:Nat) (l:List Int):List Int:=l.drop (l.length - m)
theorem lastN_all {m:Nat} {l:List Int} (h:l.length≤m):lastN m l=l:=by unfold lastN;rw [show l.length - m=0 from by omega,List.drop_zero]
theorem lastN_one {m:Nat} {l:List Int} (h:l.length=m+1):lastN m l=l.drop 1:=by unfold lastN;rw [show l.length - m=1 from by omega]
def CkR (B c n:Nat) (v:Value) (L:List Int) (w:World):Prop:=Blk w c 330 #[.int .i64 n,v]∧RmV B w 2 v (L.map (Value.int .i64))
def CkMid (B c n:Nat) (v:Value) (Wn:List Int) (w wx:World):Prop:=
 ∃g off cap,CkR B c n (.slice (some ⟨g,off,none⟩) Wn.length cap) Wn wx∧Chg (fun b=>b=c∨some b=v.ownBlock) w wx∧(some g=v.ownBlock∨w.heap.size≤g)
theorem CkMid.drew {B c n:Nat} {v:Value} {Wn:List Int} {w wx:World} (h:CkMid B c n v Wn w wx):CkMid B c n v Wn w wx.drew:=by
 obtain⟨g,off,cap,h1,h2,h3⟩:=h
 exact⟨g,off,cap,⟨h1.1.drew,h1.2.block (fun _ _=>rfl)⟩,h2.drew,h3⟩
theorem CkMid.drewN {B c n:Nat} {v:Value} {Wn:List Int} {w wx:World} (h:CkMid B c n v Wn w wx) (k:Nat):CkMid B c n v Wn w (wx.drewN k):=by
 obtain⟨g,off,cap,h1,h2,h3⟩:=h
 exact⟨g,off,cap,⟨h1.1.drewN _,h1.2.block (fun _ _=>rfl)⟩,h2.drewN _,h3⟩
def CkPost (B c n:Nat) (v:Value) (L:List Int) (age:Int) (w:World) (e:Ending) (w':World):Prop:=
 e=.returned (.tuple #[.int .i64 age,.int .i64 (showF (lastN (2*n) (L++ [age])))])∧(∃v',CkR B c n v' (lastN (2*n) (L++ [age])) w'∧(v'.ownBlock=v.ownBlock∨∀k,v'.ownBlock=some k→w.heap.size≤k))∧Chg (fun b=>b=c∨some b=v.ownBlock) w w'
theorem app_i64':AppOk Tryz.prog 328 2 1:=appOk_of Tryz.underlying328 (by kernel_rfl)
set_option maxRecDepth 100000 in
set_option maxHeartbeats 4000000 in
theorem ckstep_any (B c n:Nat) (h4:4≤n) (h16:n≤16) (v:Value) (L:List Int) (hL:∀a ∈ L,-1≤a∧a≤1099511627776) (hlen:L.length≤2*n) (common cold:Int) (h0: -9223372036854775808≤common∧common≤9223372036854775807) (w:World) (hr:CkR B c n v L w) (hB:B≤w.heap.size) :
 Calls Tryz.prog 103 #[.pointer (some ⟨c,0,none⟩),.int .i64 common,.int .i64 cold] w (CkPost B c n v L (ownF n common cold) w):=by
 obtain⟨hb,hro⟩:=hr
 have hrange:=ownF_range n common cold
 have HC:=Lib.hid (agown_any c n v common cold w hb (by omega) h0)
 generalize ownF n common cold=age at hrange HC ⊢
 have hc0:w.cell? ⟨c,0,none⟩=some (.int .i64 n):=hb.cell 0
 have hc1:w.cell? ⟨c,1,none⟩=some v:=hb.cell 1
 have hf1:w.frozen? ⟨c,1,none⟩=false:=hb.frozen 1
 have hn0:((n:Int)==0)=false:=by simp;omega
 have hclt:=hb.lt
 have HH:=Lib.hid (And.intro hb hro)
 have HL:=Lib.hid hL
 obtain⟨ys,hys⟩:∃ys,ys=L++ [age]:=⟨_,rfl⟩
 obtain⟨m,hm⟩:∃m,m=L.length+1:=⟨_,rfl⟩
 have hym:(L.map (Value.int .i64)++ [Value.int .i64 age])=ys.map (Value.int .i64):=by rw [hys];simp
 have hyl:(ys.map (Value.int .i64)).length=m:=by rw [hys,hm];simp
 have hm2n:m≤2*n+1:=by omega
 have hm1:1≤m:=by omega
 have hvc:v.ownBlock≠some c:=hro.not_ hb (by decide)
 have HY:=Lib.hid (And.intro hys (And.intro hm (And.intro hym (And.intro hyl hvc))))
 clear hb hro hL hys hm hym hyl hvc
 go_enter Tryz.func103,Tryz.ntmps103
 go_wp2_with fail
 refine HC.out.mono ?_
 rintro e w1 ⟨rfl,rfl⟩
 go_wp2_with (at_builtin;refine wpList_appR app_i64' (by rfl) (.tmp 28) (.tmp 30) (by rfl) (B:=B) (by simp;omega) v (L.map (Value.int .i64)) (by rfl) (HH.out.2.block (fun k hk=>Below.heap_alloc _ _ _ (HH.out.2.lt k hk).2)) ⟨w.heap.size,0,none⟩ 1 (.int .i64 age) (by rfl) (by first | rfl | simp | go_simp) rfl (by simp;omega) ?_;intro v1 w2 hro2 hg2 hl2;rw [HY.out.2.2.1] at hro2;obtain⟨g,off,cp,rfl,k1,k2,k3,k4⟩:=hro2.at1 (by rw [HY.out.2.2.2.1];exact hm1);rw [HY.out.2.2.2.1] at k1 hro2 hl2 ⊢;have hb2:Blk w2 c 330 #[.int .i64 n,v]:=(hg2.block c (by simp;omega) (fun h=>HY.out.2.2.2.2 h.symm)).trans (HH.out.1.alloc _);have d0:w2.cell? ⟨c,0,none⟩=some (.int .i64 n):=hb2.cell 0;have d1:w2.cell? ⟨c,1,none⟩=some v:=hb2.cell 1;have f1:w2.frozen? ⟨c,1,none⟩=false:=hb2.frozen 1;have H2:=Lib.hid (And.intro hro2 (And.intro hg2 (And.intro hl2 (And.intro hb2 k4))));clear hro2 hg2 hl2 hb2 k4)
 have hX:CkR B c n (.slice (some ⟨g,off,none⟩) m cp) ys (w2.setCell ⟨c,1,none⟩ (.slice (some ⟨g,off,none⟩) m cp))∧Chg (fun b=>b=c∨some b=v.ownBlock) w (w2.setCell ⟨c,1,none⟩ (.slice (some ⟨g,off,none⟩) m cp))∧(some g=v.ownBlock∨w.heap.size≤g):=by
  obtain⟨a1,a2,a3,a4,a5⟩:=H2.out
  have hgc:=a1.not_ a4 (by decide)
  have hgc:g≠c:=fun e=>hgc (by rw [e];rfl)
  refine⟨⟨by simpa using a4.set_ 1 (.slice (some ⟨g,off,none⟩) m cp),a1.block (fun k hk=>Below.heap_setCell _ _ _ _ (by simp only [Value.ownBlock,Option.some.injEq] at hk;subst hk;exact hgc))⟩,?_,?_⟩
  ·have hsz:=a2.size
   simp at hsz
   have:Chg (fun b=>b=c∨some b=v.ownBlock) w w2:=⟨a2.os,a2.tape,a2.output,by omega,fun k hk hs=>(a2.block k (by simp;omega) (fun h=>hs (Or.inr h))).trans (Below.heap_alloc _ _ _ hk)⟩
   exact this.setCell (p:=⟨c,1,none⟩) (Or.inl (Or.inl rfl)) _
  ·rcases a3 with h | h | h
   ·exact .inl h
   ·simp only [Value.ownBlock,Option.some.injEq] at h
    have:w.heap.size≤g:=by rw [h];simp
    exact .inr this
   ·have:=h g rfl
    simp at this
    exact .inr (by omega)
 generalize w2.setCell ⟨c,1,none⟩ (.slice (some ⟨g,off,none⟩) m cp)=w3 at hX ⊢
 have H3:=Lib.hid hX
 clear hX H2 d0 d1 f1 hc0 hc1 hf1 HC k3
 obtain⟨⟨b3,r3⟩,ch3,-⟩:=id H3.out
 have d0:w3.cell? ⟨c,0,none⟩=some (.int .i64 n):=b3.cell 0
 have d1:w3.cell? ⟨c,1,none⟩=some (.slice (some ⟨g,off,none⟩) m cp):=b3.cell 1
 have f1:w3.frozen? ⟨c,1,none⟩=false:=b3.frozen 1
 have hWn:lastN (2*n) (L++ [age])=lastN (2*n) ys:=by rw [HY.out.1]
 have hyn:ys.length=m:=by have:=HY.out.2.2.2.1;simpa using this
 have HW:=Lib.hid (And.intro hWn hyn)
 clear b3 r3 ch3 hWn hyn
 go_quiet (fail)
 rename_i nq
 go_upto_if 46 with fail
 go_cut [8] from 45 to 65 (fun s8 wx=>CkMid B c n v (lastN (2*n) ys) w wx)
 case first=>
  by_cases hov:m≤2*n
  ·have hfin:CkMid B c n v (lastN (2*n) ys) w (w3.drewN nq):=by
    rw [lastN_all (by rw [HW.out.2];exact hov)]
    refine⟨g,off,cp,?_,H3.out.2.1.drewN _,H3.out.2.2⟩
    rw [HW.out.2]
    exact⟨H3.out.1.1.drewN _,H3.out.1.2.block (fun _ _=>rfl)⟩
   have HF:=Lib.hid hfin
   clear hfin
   go_wp2_with fail
   go_meet
   exact HF.out
  ·have hov1:(m:Int) - 2*(n:Int)=1:=by omega
   have hm1':1<m:=by omega
   have hfin:CkMid B c n v (lastN (2*n) ys) w ((w3.setCell ⟨c,1,none⟩ (.slice (some ⟨g,off+1,none⟩) (m - 1) (m - 1)))):=by
    rw [lastN_one (by rw [HW.out.2];omega)]
    have hd:(ys.drop 1).length=m - 1:=by rw [List.length_drop,HW.out.2]
    obtain⟨⟨b3,r3⟩,ch3,hl3⟩:=H3.out
    have hgc:=r3.not_ b3 (by decide)
    have hgc:g≠c:=fun e=>hgc (by rw [e];rfl)
    have hr:=r3.drop (k:=1) (by rw [HY.out.2.2.2.1];omega)
    rw [HY.out.2.2.2.1,←List.map_drop] at hr
    refine⟨g,off+1,m - 1,?_,ch3.setCell (p:=⟨c,1,none⟩) (Or.inl (Or.inl rfl)) _,hl3⟩
    rw [hd]
    exact⟨by simpa using b3.set_ 1 (.slice (some ⟨g,off+1,none⟩) (m - 1) (m - 1)),hr.block (fun k hk=>Below.heap_setCell _ _ _ _ (by simp only [Value.ownBlock,Option.some.injEq] at hk;subst hk;exact hgc))⟩
   have HF:=Lib.hid hfin
   clear hfin
   go_upto_region 7 with fail
   go_region
   all_goals go_wp2_with fail
   all_goals go_meet
   all_goals first | exact HF.out | exact HF.out.drew | exact HF.out.drewN _ | exact (HF.out.drewN _).drew
 case rest=>
  obtain⟨g',off',cap',⟨b5,r5⟩,ch5,hl5⟩:=hcut
  have d0:wc.cell? ⟨c,0,none⟩=some (.int .i64 n):=b5.cell 0
  obtain⟨Wn,hWn⟩:∃Wn,Wn=lastN (2*n) ys:=⟨_,rfl⟩
  rw [←hWn] at b5 r5
  have hyr:∀a ∈ ys,-1≤a∧a≤1099511627776:=fun a ha=>by
   rw [HY.out.1] at ha
   rcases List.mem_append.1 ha with ha | ha
   ·exact HL.out a ha
   ·simp at ha;subst ha;exact hrange
  have hWr:∀a ∈ Wn,-1≤a∧a≤1099511627776:=fun a ha=>hyr a (by rw [hWn] at ha;exact List.mem_of_mem_drop ha)
  have hWl:Wn.length≤2*n:=by rw [hWn];unfold lastN;rw [List.length_drop];omega
  have hpos:0<Wn.length:=by rw [hWn];unfold lastN;rw [List.length_drop,HW.out.2];omega
  obtain⟨g2,off2,cap2,he,-,-,-,hcs⟩:=r5.at1 (by simpa using hpos)
  simp only [Value.slice.injEq,Option.some.injEq,Addr.mk.injEq] at he
  obtain⟨⟨rfl,rfl,-⟩,-,rfl⟩:=he
  obtain⟨q,hq⟩:∃q,q=Wn.length:=⟨_,rfl⟩
  rw [←hq] at b5 hWl hpos r5
  have d1:wc.cell? ⟨c,1,none⟩=some (.slice (some ⟨g',off',none⟩) q cap'):=b5.cell 1
  have hbl:∀(k:Nat) (a:Int),Wn[k]? =some a→wc.cell? ⟨g',off'+k,none⟩=some (.int .i64 a):=fun k a h=>hcs k _ (by rw [List.getElem?_map,h];rfl)
  have hcap':q≤1000:=by omega
  have HV:=Lib.hid (And.intro b5 (And.intro r5 (And.intro ch5 (And.intro hl5 (And.intro hWn (And.intro hWr (And.intro hq hbl)))))))
  clear b5 r5 ch5 hl5 hWn hWr hq hbl hcs hyr
  go_wp2_with fail
  go_loopw [7,71] (fun sv i wr=> ∃(k:Nat) (s:Int),k≤q∧i=.int .i64 k∧sv=.int .i64 s∧MaxP Wn (fun j=>j<k) s∧s≤1099511628776∧ -1≤s∧wr=wc) (fun _ i _=>q - (intOf i).toNat)
  case atStart=>exact⟨0,-1,by omega,rfl,rfl,MaxP.start _ (fun i h=>by omega),by omega,by omega,rfl⟩
  case round=>
   obtain⟨k,s,hk,rfl,rfl,hmx,hs1,hs0,rfl⟩:=hrel
   by_cases hlt:k<q
   ·obtain⟨a,ha⟩:∃a,Wn[k]? =some a:=⟨_,List.getElem?_eq_getElem (by rw [←HV.out.2.2.2.2.2.2.1];exact hlt)⟩
    have ca:=HV.out.2.2.2.2.2.2.2 k a ha
    obtain⟨ha0,ha1⟩:=HV.out.2.2.2.2.2.1 a (List.mem_of_getElem? ha)
    have hst:=hmx.step (I':=fun j=>j<k+1) ha (fun i=>by omega)
    rw [←HV.out.2.2.2.2.2.2.1] at hst
    have HS:=Lib.hid hst
    clear ha hmx hst
    by_cases hn:a= -1
    ·subst hn
     go_wp2_with fail
     go_roundw
     case rel=>exact⟨k+1,s,by omega,by go_num,rfl,by simpa using HS.out,hs1,hs0,trivial⟩
     case measure=>simp [intOf];omega
    ·have hn':(a== -1)=false:=by simpa using hn
     have hnn:0≤a:=by omega
     go_wp2_with fail
     have hmax:max s (a+(q:Int) - 1 - k)≤1099511628776:=by omega
     refine⟨⟨k+1,max s (a+(q:Int) - 1 - k),by omega,by go_num,?_,?_,hmax,by omega,trivial⟩,by simp [intOf];omega⟩
     ·congr 1
      split <;> omega
     ·have h1:=HS.out
      rw [if_pos hnn] at h1
      exact h1
   ·have hkq:k=q:=by omega
    subst hkq
    have hbest:=hmx.best (fun i hi=>by have:=HV.out.2.2.2.2.2.2.1;omega)
    have hsh:showF (lastN (2*n) (L++ [age]))=if okI s then s else -1:=by
     rw [HW.out.1,←HV.out.2.2.2.2.1]
     unfold showF
     rw [←hbest]
     by_cases h:okI s=true
     ·rw [if_pos h]
      have:0≤s∧s≤1099511627776:=by simpa [okI] using h
      rw [if_pos this.2]
     ·rw [if_neg h]
      have:¬(0≤s∧s≤1099511627776):=by simpa [okI] using h
      split
      ·omega
      ·rfl
    have hfin:∀sh,sh=(if okI s then s else -1)→CkPost B c n v L age w (.returned (.tuple #[.int .i64 age,.int .i64 sh])) wr:=fun sh he=>by
     refine⟨by rw [he,hsh],⟨.slice (some ⟨g',off',none⟩) k cap',?_,?_⟩,HV.out.2.2.1⟩
     ·rw [HW.out.1,←HV.out.2.2.2.2.1]
      exact⟨HV.out.1,HV.out.2.1⟩
     ·rcases HV.out.2.2.2.1 with h | h
      ·exact .inl h
      ·exact .inr fun k hk=>by simp only [Value.ownBlock,Option.some.injEq] at hk;omega
    have HF:=Lib.hid hfin
    have HI:=Lib.hid (fun (w':World)=>agis_any s w')
    clear hmx hbest hsh hfin
    cases hok:okI s with
    | true=>
      go_wp2_with fail
      refine (HI.out _).mono ?_
      rintro e w' ⟨rfl,rfl⟩
      go_wp2_with fail
      go_ret2
      exact HF.out s (by rw [hok];rfl)
    | false=>
      go_wp2_with fail
      refine (HI.out _).mono ?_
      rintro e w' ⟨rfl,rfl⟩
      go_wp2_with fail
      go_ret2
      exact HF.out (-1) (by rw [hok];rfl)
theorem agnew_ok (n:Int) (w:World) (h0:4≤n) (h1:n≤16) :
 Calls Tryz.prog 86 #[.int .i64 n] w fun e w'=>e=.returned (.tuple #[.pointer (some ⟨w.heap.size,0,none⟩),.int .i64 0])∧w'=w.alloc (.cells #[.int .i64 n,.slice none 0 0] 330):=by
 have e1:(decide (4≤n)&&decide (n≤16))=true:=by simp [h0,h1]
 go_enter Tryz.func86,Tryz.ntmps86
 go_wp2_with (go_at_call 135;refine (agmay_any _ _).mono ?_;rintro e w' ⟨rfl,rfl⟩)
 go_ret2
 exact⟨rfl,rfl⟩
end Go.Proofs.YtdilbjikeilhbaaGreatDoor
