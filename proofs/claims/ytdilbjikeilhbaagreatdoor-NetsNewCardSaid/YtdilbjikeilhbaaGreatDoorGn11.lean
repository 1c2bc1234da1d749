import Derived.Test.YtdilbjikeilhbaaGreatDoorGn10
namespace Go.Proofs.YtdilbjikeilhbaaGreatDoor
open Go.RowKit
set_option linter.unusedVariables false
set_option linter.unusedSimpArgs false
def SayPost (S:Nat→Prop) (p gp:Nat) (G:Nat→Nat) (L:LaneM) (own:Rw) (w:World) (e:Ending) (w':World):Prop:=
 ∃(m g0 g1:Nat),w.heap.size≤m∧LaneAt (GrowS S w.heap.size m) w' p gp G (L.said own)∧e=.returned (.tuple #[.agg #[.slice (some ⟨g0,0,none⟩) L.n L.n],.agg #[.slice (some ⟨g1,0,none⟩) L.n L.n]])∧m≤g0∧m≤g1∧g0≠g1∧
  RowsB (fun b=>m≤b∧b≠g0∧b≠g1) w' g0 134 ((L.said own).out 0)∧RowsB (fun b=>m≤b∧b≠g0∧b≠g1) w' g1 134 ((L.said own).out 2)∧Chg S w w'
structure Say0 (w:World) (ov:List Value) (wx:World):Prop where
 b0:Blk wx w.heap.size 134 ov.toArray
 b1:Blk wx (w.heap.size+1) 61 #[.slice none 0 0]
 b2:Blk wx (w.heap.size+1+1) 61 #[.slice none 0 0]
 sz:w.heap.size+1+1+1≤wx.heap.size
theorem say0_of (w:World) (ov:List Value):Say0 w ov (((w.alloc (.cells ov.toArray 134)).alloc (.cells #[.slice none 0 0] 61)).alloc (.cells #[.slice none 0 0] 61))∧Below w.heap.size w (((w.alloc (.cells ov.toArray 134)).alloc (.cells #[.slice none 0 0] 61)).alloc (.cells #[.slice none 0 0] 61)):=by
 have k1:=(Blk.new (w.alloc (.cells ov.toArray 134)) 61 #[.slice none 0 0]).alloc (.cells #[.slice none 0 0] 61)
 have k2:=Blk.new ((w.alloc (.cells ov.toArray 134)).alloc (.cells #[.slice none 0 0] 61)) 61 #[.slice none 0 0]
 have s1:(w.alloc (.cells ov.toArray 134)).heap.size=w.heap.size+1:=by simp
 have s2:((w.alloc (.cells ov.toArray 134)).alloc (.cells #[.slice none 0 0] 61)).heap.size=w.heap.size+1+1:=by simp
 rw [s1] at k1
 rw [s2] at k2
 exact⟨⟨((Blk.new w 134 ov.toArray).alloc _).alloc _,k1,k2,by simp⟩,(((Below.refl _ _).alloc (Nat.le_refl _) _).alloc (by simp) _).alloc (by simp;omega) _⟩
theorem Say0.chg {w:World} {ov:List Value} {wx w':World} {S:Nat→Prop} (h:Say0 w ov wx) (hc:Chg S wx w') (hS:∀b,S b→b<w.heap.size):Say0 w ov w':=
 ⟨h.b0.chg hc (fun e=>by have:=hS _ e;omega),h.b1.chg hc (fun e=>by have:=hS _ e;omega),h.b2.chg hc (fun e=>by have:=hS _ e;omega),Nat.le_trans h.sz hc.size⟩
structure SayI (S:Nat→Prop) (w:World) (p gp:Nat) (G:Nat→Nat) (L:LaneM) (own:Rw) (ov:List Value) (k:Nat) (wr:World):Prop where
 l:LaneAt (GrowS S (w.heap.size+1+1+1) wr.heap.size) wr p gp G (L.saidK own k)
 z:Say0 w ov wr
 c:Chg S w wr
theorem LaneAt.drewN {S:Nat→Prop} {w:World} {p gp:Nat} {G:Nat→Nat} {L:LaneM} (h:LaneAt S w p gp G L) (q:Nat):LaneAt S (w.drewN q) p gp G L:=h.keep (Nat.le_refl _) (fun _ _ _=>rfl)
theorem SayI.drewN {S:Nat→Prop} {w:World} {p gp:Nat} {G:Nat→Nat} {L:LaneM} {own:Rw} {ov:List Value} {k:Nat} {wr:World} (h:SayI S w p gp G L own ov k wr) (q:Nat):SayI S w p gp G L own ov k (wr.drewN q):=
 ⟨h.l.drewN q,⟨h.z.b0.drewN q,h.z.b1.drewN q,h.z.b2.drewN q,h.z.sz⟩,h.c.drewN q⟩
set_option maxRecDepth 100000 in
set_option maxHeartbeats 4000000 in
theorem say_any (S R:Nat→Prop) (p gp:Nat) (G:Nat→Nat) (L:LaneM) (own:Rw) (ho:own.ok) (tv:Value) (w:World) (hL:LaneAt S w p gp G L) (hb:L.b=true) (hT:0<L.T) (hT2:L.T≤1000000000) (ht:RowR R w own tv) (hR:∀b,R b→¬S b) :
 Calls Tryz.prog 110 #[.pointer (some ⟨p,0,none⟩),.agg (own.vals tv).toArray] w (SayPost S p gp G L own w):=by
 obtain⟨ov,hov⟩:∃ov,ov=own.vals tv:=⟨_,rfl⟩
 rw [←hov]
 have hvl:ov.length=57:=by rw [hov];exact Rw.len ho _
 have hvc:ov.all cell1=true:=by rw [hov];exact ht.cell1 ho
 have HOV:=Lib.hid hov
 have HL:=Lib.hid hL
 have HT:=Lib.hid ht
 have HR:=Lib.hid hR
 have HO:=Lib.hid ho
 have HB:=Lib.hid hb
 obtain⟨h4,h16,hm⟩:=hL.bd
 have hplt:=hL.b.lt
 obtain⟨j,hj⟩:∃j,j=(L.T - 1) % (L.n+1):=⟨_,rfl⟩
 have hjn:j<L.n+1:=by rw [hj];exact Nat.mod_lt _ (by omega)
 have e1:((L.T:Int) - 1).tmod (L.n+1)=(j:Int):=by rw [hj,Int.tmod_eq_emod_of_nonneg (by omega),show (L.T:Int) - 1=((L.T - 1:Nat):Int) from by omega];norm_cast
 have e2:((L.T:Int) - 1) % (L.n+1)=(j:Int):=by rw [hj,show (L.T:Int) - 1=((L.T - 1:Nat):Int) from by omega];norm_cast
 have HJ:=Lib.hid hj
 have H0:=Lib.hid (say0_of w ov)
 clear hj hov hL ht hR ho hb
 go_enter Tryz.func110,Tryz.ntmps110
 have F3:Hid (Blk (((w.alloc (.cells ov.toArray 134)).alloc (.cells #[.slice none 0 0] 61)).alloc (.cells #[.slice none 0 0] 61)) p 327 (laneV L gp).toArray):=Lib.hid (HL.out.b.below H0.out.2 HL.out.b.lt)
 go_upto_region 1 with fail
 generalize (((w.alloc (.cells ov.toArray 134)).alloc (.cells #[.slice none 0 0] 61)).alloc (.cells #[.slice none 0 0] 61))=w3 at H0 F3 ⊢
 obtain⟨q3,-⟩:=F3.out.rules
 have d3:w3.cell? ⟨p,3,none⟩=some (.bool true):=by rw [q3,←HB.out];rfl
 have z3:=F3.out.frozen 3
 clear q3
 have HI0:Hid (SayI S w p gp G L own ov 0 (w3.setCell ⟨p,3,none⟩ (.bool false))):=Lib.hid (by
  have hc:=(Chg.refl (· =p) w3).set_at 3 (.bool false)
  have hb3:=H0.out.2
  have hs:(w3.setCell ⟨p,3,none⟩ (.bool false)).heap.size=w3.heap.size:=by simp
  have hsz:=H0.out.1.sz
  refine⟨((HL.out.below hb3).ended HO.out hc.size ?_ (fun b hb hne=>hc.block b (by have:=HL.out.lt b hb;omega) hne)).mono (fun b hb=> .inl hb) (fun b hb=> ?_),H0.out.1.chg hc (fun b hb=>by rw [hb];exact hplt),?_⟩
  ·have:=F3.out.set_ 3 (.bool false)
   have e:(laneV L gp).toArray.setIfInBounds 3 (.bool false)=(laneV (L.saidK own 0) gp).toArray:=by simp [laneV,LaneM.saidK]
   rw [e] at this
   exact this
  ·rw [hs] at hb ⊢
   rcases hb with hb | hb
   ·have:=HL.out.lt b hb;omega
   ·exact hb.2
  ·exact (Chg.of_below hb3 S).trans (hc.mono (fun k _ hk=>by rw [hk];exact HL.out.sp)))
 go_upto_region 4 with fail
 generalize (w3.setCell ⟨p,3,none⟩ (.bool false))=w4 at HI0 ⊢
 obtain⟨c0,-,c2,-,c4⟩:=HI0.out.l.cells
 have c0':w4.cell? ⟨p,0,none⟩=some (.int .i64 L.n):=c0
 have c2':w4.cell? ⟨p,2,none⟩=some (.int .i64 L.T):=c2
 have c4':w4.cell? ⟨p,4,none⟩=some (.slice (some ⟨gp,0,none⟩) (L.n+1) (L.n+1)):=c4
 clear c0 c2 c4 d3 z3
 have wT:IntKind.i64.wrap ((L.T:Int) - 1)=(L.T:Int) - 1:=IntWalk.i64_in _ (by omega)
 have wn:IntKind.i64.wrap ((L.n:Int)+1)=(L.n:Int)+1:=IntWalk.i64_in _ (by omega)
 have e3:¬((L.n:Int)+1=0):=by omega
 have e4:(j:Int)<L.n+1:=by omega
 have e5:(0:Int)≤j:=by omega
 go_quiet (fail)
 have HI1:Hid (∀q,SayI S w p gp G L own ov 0 (w4.drewN q)):=Lib.hid fun q=>HI0.out.drewN q
 clear c0' c2' c4' wT wn e1 e2 e3
 go_wp2_with fail
 go_loopw [38] (fun i wr=> ∃k:Nat,k≤2∧i=.int .i64 k∧SayI S w p gp G L own ov k wr) (fun i _=>2 - (intOf i).toNat)
 case atStart=>exact⟨0,by omega,rfl,HI1.out _⟩
 case round=>
  obtain⟨k,hk,rfl,hI⟩:=hrel
  have HK:=Lib.hid hI
  clear hI
  by_cases hlt:k<2
  ·obtain⟨gk,hgk⟩:∃gk,gk=G (4*j+2*k):=⟨_,rfl⟩
   have HGK:=Lib.hid hgk
   have hm0:Hid (Made L.n L.T (4*j+2*k)):=Lib.hid ⟨by omega,by
    have:(L.T - 1) % (L.n+1)≤L.T - 1:=Nat.mod_le _ _
    have:=HJ.out
    omega⟩
   have hgk2:Hid (gk≠p∧gk≠gp∧gk≠w.heap.size∧gk<wr.heap.size∧S gk):=Lib.hid (by
    have h1:=HK.out.l.ne.2 _ hm0.out
    have h2:=HK.out.l.lt _ (HK.out.l.sr _ hm0.out)
    have h3:=HL.out.sr _ hm0.out
    have h4:=HL.out.lt _ h3
    rw [←hgk] at h1 h2 h3 h4
    exact⟨h1.1,h1.2,by omega,h2,h3⟩)
   clear hgk
   have F:Hid (∀w':World,Chg (· =gk) wr w'→canPut w' ⟨gk,L.me*57,none⟩ 57=true→(w'.cell? ⟨p,0,none⟩=some (.int .i64 L.n)∧w'.cell? ⟨p,1,none⟩=some (.int .i64 L.me)∧w'.cell? ⟨gp,j*4+k*2,none⟩=some (.slice (some ⟨gk,0,none⟩) L.n L.n)∧hasRow w' ⟨w.heap.size,0,none⟩ 57=true∧rowOf w' ⟨w.heap.size,0,none⟩ 57=ov∧canPut w' ⟨gk,L.me*57,none⟩ 57=true∧Chg (· =gk) wr w')):=Lib.hid fun w' hc hp=>by
    obtain⟨x1,x2,x3,x4,x5⟩:=hgk2.out
    obtain⟨kl,-⟩:=(HK.out.l.b.chg hc (Ne.symm x1)).rules
    have kg:=(HK.out.l.g.chg hc (Ne.symm x2))
    obtain⟨kg1,-⟩:=kg.rules
    obtain⟨r1,r2,-⟩:=(HK.out.z.b0.chg hc (Ne.symm x3)).whole hvl
    refine⟨by rw [kl];rfl,by rw [kl];rfl,?_,r1,r2,hp,hc⟩
    have hmd:=hm0.out
    rw [kg1,momCells_at (show j*4+k*2<4*((L.saidK own k).n+1) from by show _<4*(L.n+1);omega),if_pos (show (j*4+k*2) / 4<(L.saidK own k).T from by have:=hmd.2;show _<L.T;omega),HGK.out,show j*4+k*2=4*j+2*k from by omega]
    rfl
   have F0:Hid (∀w':World,Below wr.heap.size wr w'→(w'.cell? ⟨p,0,none⟩=some (.int .i64 L.n)∧w'.cell? ⟨p,1,none⟩=some (.int .i64 L.me)∧w'.cell? ⟨gp,j*4+k*2,none⟩=some (.slice (some ⟨gk,0,none⟩) L.n L.n)∧hasRow w' ⟨w.heap.size,0,none⟩ 57=true∧rowOf w' ⟨w.heap.size,0,none⟩ 57=ov∧canPut w' ⟨gk,L.me*57,none⟩ 57=true∧Chg (· =gk) wr w')):=Lib.hid fun w' hb=>by
    refine F.out w' (Chg.of_below hb _) ?_
    have hr:=(HK.out.l.r _ hm0.out).keep hb.size (fun b _ hl=>hb.block b hl)
    rw [HGK.out]
    exact hr.canPut L.me (by rw [tab_len];exact hm)
   have F1:Hid (∀w' w'':World,Below w'.heap.size w' w''→(w'.cell? ⟨p,0,none⟩=some (.int .i64 L.n)∧w'.cell? ⟨p,1,none⟩=some (.int .i64 L.me)∧w'.cell? ⟨gp,j*4+k*2,none⟩=some (.slice (some ⟨gk,0,none⟩) L.n L.n)∧hasRow w' ⟨w.heap.size,0,none⟩ 57=true∧rowOf w' ⟨w.heap.size,0,none⟩ 57=ov∧canPut w' ⟨gk,L.me*57,none⟩ 57=true∧Chg (· =gk) wr w')→(w''.cell? ⟨p,0,none⟩=some (.int .i64 L.n)∧w''.cell? ⟨p,1,none⟩=some (.int .i64 L.me)∧w''.cell? ⟨gp,j*4+k*2,none⟩=some (.slice (some ⟨gk,0,none⟩) L.n L.n)∧hasRow w'' ⟨w.heap.size,0,none⟩ 57=true∧rowOf w'' ⟨w.heap.size,0,none⟩ 57=ov∧canPut w'' ⟨gk,L.me*57,none⟩ 57=true∧Chg (· =gk) wr w'')):=Lib.hid fun w' w'' hb h=>by
    obtain⟨-,-,-,-,-,s9,hc⟩:=h
    refine F.out w'' (hc.trans (Chg.of_below hb _)) ?_
    rw [canPut_block (w:=w') (hb.block gk (by have:=hc.size;have:=hgk2.out.2.2.2.1;omega))]
    exact s9
   have F2:Hid (∀(w':World) (l:List Value),l.length=57→(w'.cell? ⟨p,0,none⟩=some (.int .i64 L.n)∧w'.cell? ⟨p,1,none⟩=some (.int .i64 L.me)∧w'.cell? ⟨gp,j*4+k*2,none⟩=some (.slice (some ⟨gk,0,none⟩) L.n L.n)∧hasRow w' ⟨w.heap.size,0,none⟩ 57=true∧rowOf w' ⟨w.heap.size,0,none⟩ 57=ov∧canPut w' ⟨gk,L.me*57,none⟩ 57=true∧Chg (· =gk) wr w')→((putRow w' ⟨gk,L.me*57,none⟩ l).cell? ⟨p,0,none⟩=some (.int .i64 L.n)∧(putRow w' ⟨gk,L.me*57,none⟩ l).cell? ⟨p,1,none⟩=some (.int .i64 L.me)∧(putRow w' ⟨gk,L.me*57,none⟩ l).cell? ⟨gp,j*4+k*2,none⟩=some (.slice (some ⟨gk,0,none⟩) L.n L.n)∧hasRow (putRow w' ⟨gk,L.me*57,none⟩ l) ⟨w.heap.size,0,none⟩ 57=true∧rowOf (putRow w' ⟨gk,L.me*57,none⟩ l) ⟨w.heap.size,0,none⟩ 57=ov∧canPut (putRow w' ⟨gk,L.me*57,none⟩ l) ⟨gk,L.me*57,none⟩ 57=true∧Chg (· =gk) wr (putRow w' ⟨gk,L.me*57,none⟩ l))):=Lib.hid fun w' l hl h=>by
    obtain⟨-,-,-,-,-,s9,hc⟩:=h
    refine F.out _ (hc.put (p:=⟨gk,L.me*57,none⟩) (.inl rfl) l) ?_
    rw [canPut_put _ _ _ _ _ (by rw [hl];exact s9)]
    exact s9
   have FP:Hid (∀w':World,(w'.cell? ⟨p,0,none⟩=some (.int .i64 L.n)∧w'.cell? ⟨p,1,none⟩=some (.int .i64 L.me)∧w'.cell? ⟨gp,j*4+k*2,none⟩=some (.slice (some ⟨gk,0,none⟩) L.n L.n)∧hasRow w' ⟨w.heap.size,0,none⟩ 57=true∧rowOf w' ⟨w.heap.size,0,none⟩ 57=ov∧canPut w' ⟨gk,L.me*57,none⟩ 57=true∧Chg (· =gk) wr w')→Calls Tryz.prog 166 #[.int .i64 L.n,.agg ov.toArray] w' (PlainW L.n own w')):=Lib.hid fun w' h=>by
    obtain⟨-,-,-,-,-,-,hc⟩:=h
    rw [HOV.out]
    exact plain_any R L.n own HO.out tv w' ((HT.out.keep HK.out.c.size (fun b hb hl=>HK.out.c.block b hl (HR.out b hb))).keep hc.size (fun b hb hl=>hc.block b hl (fun e=>HR.out b hb (by rw [e];exact hgk2.out.2.2.2.2))))
   have hm':(L.me:Int)<L.n:=by omega
   have hm'':(0:Int)≤L.me:=by omega
   have hk2:(k:Int)<2:=by omega
   have hk3:(0:Int)≤k:=by omega
   have hpo:=Rw.plain_ok (n:=(L.n:Int)) HO.out
   go_upto_region 8 with fail
   go_region_held3 (fun w'=>(w'.cell? ⟨p,0,none⟩=some (.int .i64 L.n)∧w'.cell? ⟨p,1,none⟩=some (.int .i64 L.me)∧w'.cell? ⟨gp,j*4+k*2,none⟩=some (.slice (some ⟨gk,0,none⟩) L.n L.n)∧hasRow w' ⟨w.heap.size,0,none⟩ 57=true∧rowOf w' ⟨w.heap.size,0,none⟩ 57=ov∧canPut w' ⟨gk,L.me*57,none⟩ 57=true∧Chg (· =gk) wr w'))
    (with_reducible (first | assumption | exact F0.out _ (Below.refl _ _).drew | exact F1.out _ _ (by assumption) (by assumption) | exact F2.out _ _ hyl (by assumption)))
    ((first
      | ((with_reducible refine (FP.out _ (by assumption)).mono ?_);rintro e w5 ⟨pv,rfl,hpx,hb5⟩;obtain⟨yv,hyv⟩:∃yv,yv=(own.plain L.n).vals pv:=⟨_,rfl⟩;rw [←hyv];have hyl:yv.length=57:=(by rw [hyv];exact Rw.len hpo _);have hyc:yv.all cell1=true:=(by rw [hyv];exact hpx.1.cell1 hpo);have HYV:=Lib.hid hyv;have HPX:=Lib.hid hpx;clear hyv hpx)))
   have HB5:=Lib.hid hb5
   clear hb5
   go_wp2_with fail
   have HEND:Hid (SayI S w p gp G L own ov (k+1) (putRow w5 ⟨gk,L.me*57,none⟩ yv)):=Lib.hid (by
    obtain⟨x1,x2,x3,x4,x5⟩:=hgk2.out
    have hbw:Below wr.heap.size wr w5:=(Below.refl _ _).drew.trans HB5.out
    have hc:=(Chg.refl (· =gk) w5).put (p:=⟨gk,L.me*57,none⟩) (.inl rfl) yv
    have hs:(putRow w5 ⟨gk,L.me*57,none⟩ yv).heap.size=w5.heap.size:=by simp
    have hl:=HK.out.l.saidStep hlt (by omega) hbw HO.out HK.out.z.sz HPX.out
    rw [←HYV.out,←HJ.out,←HGK.out] at hl
    have hgl:=HL.out.lt _ x5
    refine⟨by rw [hs];exact hl,((HK.out.z.chg (Chg.of_below hbw (fun _=>False)) (fun _ h=>h.elim)).chg hc (fun b hb=>by rw [hb];exact hgl)),(HK.out.c.trans (Chg.of_below hbw S)).trans (hc.mono (fun b _ hb=>by rw [hb];exact x5))⟩)
   exact⟨⟨k+1,by omega,by go_num,HEND.out⟩,by simp [intOf];omega⟩
  ·obtain rfl:k=2:=by omega
   clear HI1 HI0 F3 H0
   have HN:Hid (LaneAt (GrowS S (w.heap.size+1+1+1) wr.heap.size) wr p gp G (L.said own)):=Lib.hid (by
    have hb:=HB.out
    refine HK.out.l.congr ?_ ?_ ?_ ?_ (fun j q s hq=>LaneM.said_of own hb (fun _ _ _ _=>rfl) j q s hq) (LaneM.said_ok HL.out.ok HO.out) (LaneM.said_okT HL.out.okt own) <;> (unfold LaneM.said;rw [if_pos hb];rfl))
   go_wp2_with fail
   obtain⟨ga,hga⟩:∃ga,ga=G (4*j):=⟨_,rfl⟩
   obtain⟨gb,hgb⟩:∃gb,gb=G (4*j+2):=⟨_,rfl⟩
   have HGA:=Lib.hid (And.intro hga hgb)
   clear hga hgb
   have hma:Hid (Made L.n L.T (4*j)∧Made L.n L.T (4*j+2)):=Lib.hid (by
    have:(L.T - 1) % (L.n+1)≤L.T - 1:=Nat.mod_le _ _
    have:=HJ.out
    exact⟨⟨by omega,by omega⟩,⟨by omega,by omega⟩⟩)
   have hsn:Hid ((L.said own).n=L.n∧(L.said own).T=L.T):=Lib.hid (by unfold LaneM.said;rw [if_pos HB.out];exact⟨rfl,rfl⟩)
   have hlo:Hid (w.heap.size+1+1+1≤wr.heap.size):=Lib.hid HK.out.z.sz
   have hno:Hid (∀b,GrowS S (w.heap.size+1+1+1) wr.heap.size b→¬(b=w.heap.size+1∨b=w.heap.size+1+1)):=Lib.hid fun b hb e=>by
    rcases hb with hb | hb
    ·have:=HL.out.lt b hb;omega
    ·omega
   have F:Hid (∀w':World,Chg (fun b=>b=w.heap.size+1∨b=w.heap.size+1+1) wr w'→(w'.cell? ⟨gp,j*4,none⟩=some (.slice (some ⟨ga,0,none⟩) L.n L.n)∧w'.cell? ⟨gp,j*4+2,none⟩=some (.slice (some ⟨gb,0,none⟩) L.n L.n)∧Chg (fun b=>b=w.heap.size+1∨b=w.heap.size+1+1) wr w')):=Lib.hid fun w' hc=>by
    obtain⟨m1,m2⟩:=hma.out
    have kg:=HN.out.g.chg hc (hno.out _ HN.out.sg)
    obtain⟨kg1,-⟩:=kg.rules
    rw [hsn.out.1,hsn.out.2] at kg1
    have hq1:=m1.1
    have hq2:=m2.1
    refine⟨?_,?_,hc⟩
    ·rw [kg1,momCells_at (show j*4<4*(L.n+1) from by omega),if_pos (show j*4 / 4<L.T from by have:=m1.2;omega),HGA.out.1,show j*4=4*j from by omega]
    ·rw [kg1,momCells_at (show j*4+2<4*(L.n+1) from by omega),if_pos (show (j*4+2) / 4<L.T from by have:=m2.2;omega),HGA.out.2,show j*4+2=4*j+2 from by omega]
   have F1:Hid (∀w' w'':World,Below w'.heap.size w' w''→(w'.cell? ⟨gp,j*4,none⟩=some (.slice (some ⟨ga,0,none⟩) L.n L.n)∧w'.cell? ⟨gp,j*4+2,none⟩=some (.slice (some ⟨gb,0,none⟩) L.n L.n)∧Chg (fun b=>b=w.heap.size+1∨b=w.heap.size+1+1) wr w')→(w''.cell? ⟨gp,j*4,none⟩=some (.slice (some ⟨ga,0,none⟩) L.n L.n)∧w''.cell? ⟨gp,j*4+2,none⟩=some (.slice (some ⟨gb,0,none⟩) L.n L.n)∧Chg (fun b=>b=w.heap.size+1∨b=w.heap.size+1+1) wr w'')):=Lib.hid fun w' w'' hb h=>F.out w'' (h.2.2.trans (Chg.of_below hb _))
   have F2:Hid (∀(w':World) (v:Value),(w'.cell? ⟨gp,j*4,none⟩=some (.slice (some ⟨ga,0,none⟩) L.n L.n)∧w'.cell? ⟨gp,j*4+2,none⟩=some (.slice (some ⟨gb,0,none⟩) L.n L.n)∧Chg (fun b=>b=w.heap.size+1∨b=w.heap.size+1+1) wr w')→((w'.setCell ⟨w.heap.size+1,0,none⟩ v).cell? ⟨gp,j*4,none⟩=some (.slice (some ⟨ga,0,none⟩) L.n L.n)∧(w'.setCell ⟨w.heap.size+1,0,none⟩ v).cell? ⟨gp,j*4+2,none⟩=some (.slice (some ⟨gb,0,none⟩) L.n L.n)∧Chg (fun b=>b=w.heap.size+1∨b=w.heap.size+1+1) wr (w'.setCell ⟨w.heap.size+1,0,none⟩ v))):=Lib.hid fun w' v h=>F.out _ (h.2.2.setCell (p:=⟨w.heap.size+1,0,none⟩) (.inl (.inl rfl)) v)
   have F3:Hid (∀(w':World) (v:Value),(w'.cell? ⟨gp,j*4,none⟩=some (.slice (some ⟨ga,0,none⟩) L.n L.n)∧w'.cell? ⟨gp,j*4+2,none⟩=some (.slice (some ⟨gb,0,none⟩) L.n L.n)∧Chg (fun b=>b=w.heap.size+1∨b=w.heap.size+1+1) wr w')→((w'.setCell ⟨w.heap.size+1+1,0,none⟩ v).cell? ⟨gp,j*4,none⟩=some (.slice (some ⟨ga,0,none⟩) L.n L.n)∧(w'.setCell ⟨w.heap.size+1+1,0,none⟩ v).cell? ⟨gp,j*4+2,none⟩=some (.slice (some ⟨gb,0,none⟩) L.n L.n)∧Chg (fun b=>b=w.heap.size+1∨b=w.heap.size+1+1) wr (w'.setCell ⟨w.heap.size+1+1,0,none⟩ v))):=Lib.hid fun w' v h=>F.out _ (h.2.2.setCell (p:=⟨w.heap.size+1+1,0,none⟩) (.inl (.inr rfl)) v)
   have FR:Hid (∀(w':World) (q:Nat),q=0∨q=2→Chg (fun b=>b=w.heap.size+1∨b=w.heap.size+1+1) wr w'→Calls Tryz.prog 167 #[.slice (some ⟨G (4*j+q),0,none⟩) L.n L.n] w' fun e w''=> ∃g,e=.returned (.slice (some ⟨g,0,none⟩) L.n L.n)∧w'.heap.size≤g∧RowsB (fun b=>w'.heap.size≤b∧b≠g) w'' g 134 ((L.said own).out q)∧Below w'.heap.size w' w''):=Lib.hid fun w' q hq hc=>by
    have hm:Made L.n L.T (4*j+q):=by rcases hq with rfl | rfl;exact hma.out.1;exact hma.out.2
    have hm':Made (L.said own).n (L.said own).T (4*j+q):=by rw [hsn.out.1,hsn.out.2];exact hm
    have hr:=(HN.out.r _ hm').chg hc (hno.out _ (HN.out.sr _ hm')) (fun b _ hb=>hno.out b hb.1)
    rw [hsn.out.1,show (4*j+q) / 4=j from by rcases hq with rfl | rfl <;> omega,show (4*j+q) % 4=q from by rcases hq with rfl | rfl <;> omega] at hr
    have e:tab L.n ((L.said own).past j q)=(L.said own).out q:=by unfold LaneM.out;rw [hsn.out.1,hsn.out.2,HJ.out]
    have hrd:=hr.rd (fun r hr=>by obtain⟨k,-,rfl⟩:=tab_mem hr;exact HN.out.ok _ _ _)
    rw [e] at hrd
    have hl:((L.said own).out q).length=L.n:=by rw [←e,tab_len]
    rw [hl] at hrd
    refine (copies_any _ _ L.n L.n _ w' hrd (Nat.le_refl _) (by unfold maxLen;omega) (by omega) (fun r hr=>by have:=LaneM.out_tlen HN.out.okt q r hr;omega)).mono ?_
    rintro e2 w2 ⟨g,rfl,h1,h2,h3⟩
    rw [hl]
    exact⟨g,rfl,h1,h2,h3⟩
   have FA:Hid (∀w':World,(w'.cell? ⟨gp,j*4,none⟩=some (.slice (some ⟨ga,0,none⟩) L.n L.n)∧w'.cell? ⟨gp,j*4+2,none⟩=some (.slice (some ⟨gb,0,none⟩) L.n L.n)∧Chg (fun b=>b=w.heap.size+1∨b=w.heap.size+1+1) wr w')→Calls Tryz.prog 167 #[.slice (some ⟨ga,0,none⟩) L.n L.n] w' fun e w''=> ∃g,e=.returned (.slice (some ⟨g,0,none⟩) L.n L.n)∧w'.heap.size≤g∧RowsB (fun b=>w'.heap.size≤b∧b≠g) w'' g 134 ((L.said own).out 0)∧Below w'.heap.size w' w''):=Lib.hid fun w' h=>by
    rw [HGA.out.1];exact FR.out w' 0 (.inl rfl) h.2.2
   have FB:Hid (∀w':World,(w'.cell? ⟨gp,j*4,none⟩=some (.slice (some ⟨ga,0,none⟩) L.n L.n)∧w'.cell? ⟨gp,j*4+2,none⟩=some (.slice (some ⟨gb,0,none⟩) L.n L.n)∧Chg (fun b=>b=w.heap.size+1∨b=w.heap.size+1+1) wr w')→Calls Tryz.prog 167 #[.slice (some ⟨gb,0,none⟩) L.n L.n] w' fun e w''=> ∃g,e=.returned (.slice (some ⟨g,0,none⟩) L.n L.n)∧w'.heap.size≤g∧RowsB (fun b=>w'.heap.size≤b∧b≠g) w'' g 134 ((L.said own).out 2)∧Below w'.heap.size w' w''):=Lib.hid fun w' h=>by
    rw [HGA.out.2];exact FR.out w' 2 (.inr rfl) h.2.2
   go_region_held3 (fun w'=>(w'.cell? ⟨gp,j*4,none⟩=some (.slice (some ⟨ga,0,none⟩) L.n L.n)∧w'.cell? ⟨gp,j*4+2,none⟩=some (.slice (some ⟨gb,0,none⟩) L.n L.n)∧Chg (fun b=>b=w.heap.size+1∨b=w.heap.size+1+1) wr w'))
    (with_reducible (first | assumption | exact F.out _ (Chg.refl _ _).drew | exact F1.out _ _ (by assumption) (by assumption) | exact F2.out _ _ (by assumption) | exact F3.out _ _ (by assumption)))
    ((first
      | ((with_reducible refine (FA.out _ (by assumption)).mono ?_);rintro e w5 ⟨g0,rfl,gA1,gA2,hb5⟩;have HA:=Lib.hid (And.intro gA1 gA2);clear gA1 gA2)
      | ((with_reducible refine (FB.out _ (by assumption)).mono ?_);rintro e w6 ⟨g1,rfl,gA1,gA2,hb6⟩;have HBB:=Lib.hid (And.intro gA1 gA2);clear gA1 gA2;have k1:=(HK.out.z.b1.below ((Below.refl wr.heap.size wr).drew.trans (hb5.trans (hb6.mono hb5.size))) HK.out.z.b1.lt);have k2:=(HK.out.z.b2.below ((Below.refl wr.heap.size wr).drew.trans (hb5.trans (hb6.mono hb5.size))) HK.out.z.b2.lt);have c1:=k1.cell 0;have c2:=k2.cell 0;have z1:=k1.frozen 0;have z2:=k2.frozen 0;simp at c1 c2;have HK12:=Lib.hid (And.intro k1 k2);clear k1 k2)))
   have HFIN:Hid (Blk ((w6.setCell ⟨w.heap.size+1,0,none⟩ (.slice (some ⟨g0,0,none⟩) L.n L.n)).setCell ⟨w.heap.size+1+1,0,none⟩ (.slice (some ⟨g1,0,none⟩) L.n L.n)) (w.heap.size+1) 61 #[.slice (some ⟨g0,0,none⟩) L.n L.n]∧Blk ((w6.setCell ⟨w.heap.size+1,0,none⟩ (.slice (some ⟨g0,0,none⟩) L.n L.n)).setCell ⟨w.heap.size+1+1,0,none⟩ (.slice (some ⟨g1,0,none⟩) L.n L.n)) (w.heap.size+1+1) 61 #[.slice (some ⟨g1,0,none⟩) L.n L.n]∧
    SayPost S p gp G L own w (.returned (.tuple #[.agg #[.slice (some ⟨g0,0,none⟩) L.n L.n],.agg #[.slice (some ⟨g1,0,none⟩) L.n L.n]])) ((w6.setCell ⟨w.heap.size+1,0,none⟩ (.slice (some ⟨g0,0,none⟩) L.n L.n)).setCell ⟨w.heap.size+1+1,0,none⟩ (.slice (some ⟨g1,0,none⟩) L.n L.n))):=Lib.hid (by
    obtain⟨ga1,ga2⟩:=HA.out
    obtain⟨gb1,gb2⟩:=HBB.out
    have ga1':wr.heap.size≤g0:=ga1
    have hz5:wr.heap.size≤w5.heap.size:=hb5.size
    have hz6:=hb6.size
    have hlow:=hlo.out
    have hg0:=ga2.lt
    have hc:=((Chg.refl (fun b=>b=w.heap.size+1∨b=w.heap.size+1+1) w6).setCell (p:=⟨w.heap.size+1,0,none⟩) (.inl (.inl rfl)) (.slice (some ⟨g0,0,none⟩) L.n L.n)).setCell (p:=⟨w.heap.size+1+1,0,none⟩) (.inl (.inr rfl)) (.slice (some ⟨g1,0,none⟩) L.n L.n)
    have hB:Below wr.heap.size wr w6:=(Below.refl _ _).drew.trans (hb5.trans (hb6.mono hz5))
    refine⟨(HK12.out.1.set_ 0 _).far (by simp) _,(HK12.out.2.far (by simp) _).set_ 0 _,wr.heap.size,g0,g1,by omega,?_,rfl,ga1',by omega,by omega,?_,?_,?_⟩
    ·refine ((HN.out.below hB).keep hc.size (fun b hb hl=>hc.block b hl (hno.out b hb))).mono (fun b hb=> ?_) (fun b hb=> ?_)
     ·rcases hb with hb | hb
      ·exact .inl hb
      ·exact .inr ⟨by omega,hb.2⟩
     ·have hs:=hc.size
      rcases hb with hb | hb
      ·have:=HL.out.lt b hb;omega
      ·omega
    ·exact (((ga2.mono (S':=fun b=>wr.heap.size≤b∧b≠g0∧b<w5.heap.size) (fun b hl hb=>⟨hb.1,hb.2,hl⟩)).keep hz6 (fun b hb hl=>hb6.block b hl)).chg hc (by omega) (fun b _ hb=>by omega)).mono (fun b _ hb=>⟨hb.1,hb.2.1,by omega⟩)
    ·exact (gb2.chg hc (by omega) (fun b _ hb=>by omega)).mono (fun b _ hb=>⟨by omega,by omega,hb.2⟩)
    ·exact ((HK.out.c.trans (Chg.of_below hB S)).setCell (p:=⟨w.heap.size+1,0,none⟩) (.inr (by show w.heap.size≤w.heap.size+1;omega)) _).setCell (p:=⟨w.heap.size+1+1,0,none⟩) (.inr (by show w.heap.size≤w.heap.size+1+1;omega)) _)
   go_wp2_with fail
   try simp only [Exit.inBlock,Exit.then]
   have r1:=HFIN.out.1.cell 0
   have r2:=HFIN.out.2.1.cell 0
   simp at r1 r2
   first | refine bodyPost_ret (ret_row2 (n:=1) (n':=1) rfl (by kernel_rfl) (by kernel_rfl) _ _ _ _ rfl rfl ?_ ?_) rfl ?_ | refine bodyPost_end (ret_row2 (n:=1) (n':=1) rfl (by kernel_rfl) (by kernel_rfl) _ _ _ _ rfl rfl ?_ ?_) rfl ?_
   ·exact (row1 r1).1
   ·exact (row1 r2).1
   ·rw [(row1 r1).2,(row1 r2).2];exact HFIN.out.2.2
end Go.Proofs.YtdilbjikeilhbaaGreatDoor
