import Derived.Test.YtdilbjikeilhbaaGreatDoorGn42
namespace Go.Proofs.YtdilbjikeilhbaaGreatDoor
open Go.RowKit Go.Shelf
set_option linter.unusedVariables false
set_option linter.unusedSimpArgs false
attribute [local go_sem] Oper.semAt_some
section
variable {n:Nat} {N:NodeSp n} {M:MouthSp n} {tag tag':Nat→Nat} {w w':World} {A:NtP} {T:NtS N.σ M.μ}
structure RunB (tag:Nat→Nat) (w:World) (D bt bn bx:Nat) (R:Nat) (A:NtP) (tg:Nat→Nat) (W:World):Prop where
 ex:Ext w tag tg
 kt:Blk W bt 3 #[.int .i64 R]
 kn:Blk W bn 34 #[.pointer (some ⟨A.b,0,none⟩)]
 kx:Blk W bx 34 #[.pointer (some ⟨A.b,0,none⟩)]
 tt:tg bt=98∧tg bn=98∧tg D=98∧tg (D+1)=98
 tx:tg bx=98
 l:D+1<W.heap.size
 c:Chg (fun b=>tag b≠0∧tag b<98) w W
def RunI (N:NodeSp n) (M:MouthSp n) (tag:Nat→Nat) (w:World) (D bt bn bx:Nat) (R:Nat) (A:NtP) (T:NtS N.σ M.μ) (W:World):Prop:=∃tg,RunB tag w D bt bn bx R A tg W∧NtAt N M tg W A T
theorem RunB.chg {D bt bn bx R:Nat} {tg tg':Nat→Nat} {W W':World} {S:Nat→Prop} (h:RunB tag w D bt bn bx R A tg W) (hc:Chg S W W') (hS:∀b,b<W.heap.size→S b→tg b≠0∧tg b<98) (he:Ext W tg tg'):RunB tag w D bt bn bx R A tg' W':=
 ⟨h.ex.trans h.c.size he,h.kt.chg hc fun e=>by have:=hS _ h.kt.lt e;have:=h.tt.1;omega,h.kn.chg hc fun e=>by have:=hS _ h.kn.lt e;have:=h.tt.2.1;omega,h.kx.chg hc fun e=>by have:=hS _ h.kx.lt e;have:=h.tx;omega,
  ⟨(he _ h.kt.lt).trans h.tt.1,(he _ h.kn.lt).trans h.tt.2.1,(he _ (Nat.lt_of_succ_lt h.l)).trans h.tt.2.2.1,(he _ h.l).trans h.tt.2.2.2⟩,(he _ h.kx.lt).trans h.tx,Nat.lt_of_lt_of_le h.l hc.size,chgW h.c hc fun b hb e=>by
   have:=hS b (Nat.lt_of_lt_of_le hb h.c.size) e
   rw [h.ex b hb] at this
   exact this⟩
theorem RunB.recd {D bt bn bx R:Nat} {tg:Nat→Nat} {W W':World} {S:Nat→Prop} {rec:Loop} (h:RunB tag w D bt bn bx R A tg W) (hc:Chg S W W') (hS:∀b,b<W.heap.size→S b→tg b≠0∧tg b<98) (hr:RecAt D rec W):RecAt D rec W':=
 ⟨(hc.block _ h.l fun e=>by have:=hS _ h.l e;have:=h.tt.2.2.2;omega).trans hr.1,(hc.block _ (Nat.lt_of_succ_lt h.l) fun e=>by have:=hS _ (Nat.lt_of_succ_lt h.l) e;have:=h.tt.2.2.1;omega).trans hr.2⟩
theorem RunI.put {D bt bn bx R:Nat} {W:World} {r:Loop} {o:Obj} (h:RunI N M tag w D bt bn bx R A T W) (hw:w.heap.size≤D) (hn:n≤16) (hr:W.heap[D+1]? =some (.loop r)):RunI N M tag w D bt bn bx R A T (W.putObj (D+1) o):=by
 obtain⟨tg,hb,hx⟩:=h
 have hc:Chg (· =D+1) W (W.putObj (D+1) o):=⟨rfl,rfl,rfl,by simp,fun b _ hb=>World.putObj_heap_other hb⟩
 refine⟨tg,⟨hb.ex,hb.kt.chg hc fun e=> ?_,hb.kn.chg hc fun e=> ?_,hb.kx.chg hc fun e=> ?_,hb.tt,hb.tx,by simpa using hb.l,chgW hb.c hc fun b hb2 e=>by omega⟩,hx.chg hc (fun b _ e=>by rw [e,hb.tt.2.2.2];exact Nat.le_refl _) hn (Ext.refl _ _)⟩
 ·have:=hb.kt
  rw [e] at this
  rw [this] at hr
  cases hr
 ·have:=hb.kn
  rw [e] at this
  rw [this] at hr
  cases hr
 ·have:=hb.kx
  rw [e] at this
  rw [this] at hr
  cases hr
set_option maxRecDepth 100000 in
set_option maxHeartbeats 2000000 in
theorem all1_in (D bt bn bx R:Nat) (hR:R≤65536) (h4:4≤n) (h16:n≤16) (hT:∀k,k<R→(NtS.run N M T k).t=T.t+k∧T.t+k≤900000) (rec:Loop) (W1:World)
 (hY:∀k W,RunI N M tag w D bt bn bx R A (NtS.run N M T k) W→RecAt D rec W→k<R→YieldAt Fence.wide (5 - 1 - 1) Tryz.prog (D+1) #[.int .i64 ((T.t:Int)+(k:Int))] W fun e W'=>e=.returned (.bool true)∧RunI N M tag w D bt bn bx R A (NtS.nodes N M (NtS.run N M T k) n) W'∧RecAt D rec W')
 (h0:RunI N M tag w D bt bn bx R A T W1) (hr0:RecAt D rec W1) :
 CallsIn Fence.wide (5 - 1) Tryz.prog 50 #[.func (.yield (D+1)) #[] #[],.pointer (some ⟨bt,0,none⟩),.pointer (some ⟨bn,0,none⟩)] W1 fun e W'=>(∃v,e=.returned v)∧RunI N M tag w D bt bn bx R A (NtS.run N M T R) W'∧RecAt D rec W':=by
 have c0:W1.cell? ⟨bt,0,none⟩=some (.int .i64 R):=by obtain⟨tg,hb,-⟩:=h0;exact hb.kt.cell 0
 have HI:=Lib.hid (And.intro h0 hr0)
 clear h0 hr0
 refine callsIn_of_wp Tryz.func50 rfl trivial ?_ rfl
 simp only [Tryz.ntmps50,List.size_toArray,List.length_cons,List.length_nil,Nat.reduceAdd,Nat.reduceSub,Array.replicate_succ,Array.replicate_zero,List.push_toArray,List.append_toArray,List.nil_append,List.cons_append]
 gi_wp2
 gi_loopw [5] (fun i wr=> ∃k:Nat,k≤R∧i=.int .i64 k∧Hid (RunI N M tag w D bt bn bx R A (NtS.run N M T k) wr∧RecAt D rec wr)) (fun i _=>R - (intOf i).toNat)
 case atStart=>exact⟨0,Nat.zero_le _,rfl,HI⟩
 case round=>
  obtain⟨k,hk,rfl,HK⟩:=hrel
  by_cases hlt:k<R
  ·have hlt':(k:Int)<R:=by omega
   obtain⟨hT1,hT2⟩:=hT k hlt
   obtain⟨tg,hb,hx⟩:=HK.out.1
   have d0:wr.cell? ⟨bn,0,none⟩=some (.pointer (some ⟨A.b,0,none⟩)):=hb.kn.cell 0
   have d1:wr.cell? ⟨A.b,7,none⟩=some (.int .i64 ((T.t:Int)+(k:Int))):=by rw [hx.bx.b.cell,show (T.t:Int)+(k:Int)=(((NtS.run N M T k).t:Nat):Int) by rw [hT1];omega];rfl
   obtain⟨fn,tmps,assign,body,hy,hRd⟩:=hY k wr HK.out.1 HK.out.2 hlt
   clear hb hx
   gi_wp2
   refine hRd.mono ?_
   rintro e W3 ⟨rfl,hi3,hr3⟩
   obtain⟨U,hU⟩:∃U:NtS N.σ M.μ,Hid (U=NtS.nodes N M (NtS.run N M T k) n):=⟨_,Lib.hid rfl⟩
   rw [←hU.out] at hi3
   have hUt:(U.t:Int)=(T.t:Int)+(k:Int):=by
    rw [hU.out,(NtS.nodes_same (N:=N) (M:=M) (NtS.run N M T k) n).1,hT1];omega
   have hUn:U.t≤900000:=by omega
   obtain⟨tg3,hb3,hx3⟩:=hi3
   have HB3:=Lib.hid (And.intro hb3 (And.intro hx3 hr3))
   have HEnd:=Lib.hid (hx3.end_ h4 h16 (by omega))
   have d3:W3.cell? ⟨bn,0,none⟩=some (.pointer (some ⟨A.b,0,none⟩)):=hb3.kn.cell 0
   have d4:W3.cell? ⟨A.b,3,none⟩=some (.pointer (some ⟨A.wr.wb,0,none⟩)):=hx3.bx.b.cell 3
   have hw7:IntKind.i64.wrap ((U.t:Int)+1)=(U.t:Int)+1:=IntWalk.i64_in _ (by omega)
   have HUt:=Lib.hid hUt
   have HK':=Lib.hid (And.intro hT1 hT2)
   clear hUt hb3 hx3 hr3 hRd d0 d1 hT1 hT2 HK hy
   gi_wp2
   refine⟨trivial,(callsIn_wide.2 HEnd.out).mono ?_⟩
   rintro e w4 ⟨rfl,hw4,hc4⟩
   obtain⟨hn5,d7,z7,hc5⟩:=HB3.out.2.1.ended h16 hw4 hc4
   have d8:w4.cell? ⟨bn,0,none⟩=some (.pointer (some ⟨A.b,0,none⟩)):=(HB3.out.1.chg hc4 (fun b _ e=>by omega) (extT_ext _ _ fun _=>98)).kn.cell 0
   have HN5:=Lib.hid (And.intro hn5 hc5)
   clear hn5 hc5 hw4 hc4 d3 d4 HEnd
   gi_wp2
   go_roundw
   case rel=>
    refine⟨k+1,by omega,by go_num,Lib.hid ⟨⟨_,HB3.out.1.chg HN5.out.2 (fun b _ e=>by omega) (extT_ext W3 tg3 fun _=>98),?_⟩,HB3.out.1.recd HN5.out.2 (fun b _ e=>by omega) HB3.out.2.2⟩⟩
    have hrun:NtS.run N M T (k+1)=U.endT:=by rw [hU.out];rfl
    rw [hrun]
    exact HN5.out.1
   case measure=>(simp [intOf];omega)
  ·obtain rfl:k=R:=by omega
   gi_wp2
   go_end0
   exact⟨⟨_,rfl⟩,HK.out⟩
end
end Go.Proofs.YtdilbjikeilhbaaGreatDoor
namespace Go.Proofs.YtdilbjikeilhbaaGreatDoor
open Go.RowKit Go.Shelf
set_option linter.unusedVariables false
set_option linter.unusedSimpArgs false
attribute [local go_sem] Oper.semAt_some
section
variable {n:Nat} {N:NodeSp n} {M:MouthSp n} {tag tag':Nat→Nat} {w w':World} {A:NtP} {T:NtS N.σ M.μ}
theorem all31_any (p:Nat) (R:Nat) (w:World):Calls Tryz.prog 29 #[.pointer (some ⟨p,0,none⟩),.int .i64 R] w fun e w'=>e=.returned (.func (.func 50) #[] #[.pointer (some ⟨w.heap.size+1,0,none⟩),.pointer (some ⟨w.heap.size,0,none⟩)])∧w'=(w.alloc (.cells #[.pointer (some ⟨p,0,none⟩)] 34)).alloc (.cells #[.int .i64 R] 3):=by
 have hmf:∀(fn:Fn) (first cap:Array Value) (w:World),(Instr.makeFunc fn first cap).run Tryz.prog w=.ok (.func fn first cap) w:=fun _ _ _ _=>rfl
 go_enter Tryz.func29,Tryz.ntmps29
 go_wp2
 go_ret
 exact⟨by simp,rfl⟩
structure NtS.okT (N:NodeSp n) (M:MouthSp n) (T:NtS N.σ M.μ):Prop where
 ok:∀i,i<n→NtS.okN N M i (NtS.nodes N M T i)
theorem NtS.run_t (T:NtS N.σ M.μ):∀k,(NtS.run N M T k).t=T.t+k
 | 0=>rfl
 | k+1=>by
   show (NtS.nodes N M (NtS.run N M T k) n).t+1=_
   rw [(NtS.nodes_same (N:=N) (M:=M) (NtS.run N M T k) n).1,NtS.run_t T k]
   omega
set_option maxRecDepth 100000 in
set_option maxHeartbeats 4000000 in
theorem run31_in (h:NtAt N M tag w A T) (h4:4≤n) (h16:n≤16) (R:Nat) (hR:R≤65536) (hok:∀k,k<R→NtS.okT N M (NtS.run N M T k)) (hg:T.t+R≤900000) (hlt:A.p<w.heap.size) :
 CallsIn Fence.wide 5 Tryz.prog 13 #[.pointer (some ⟨A.b,0,none⟩),.int .i64 R] w fun e w'=>e=.returned (.int .i64 0)∧∃tg,Ext w tag tg∧NtAt N M tg w' A (NtS.run N M T R)∧Chg (fun b=>tag b≠0∧tag b<98) w w':=by
 have hR1:¬(R:Int)<0:=by omega
 have hR2:¬(65536:Int)<R:=by omega
 have hB0:=balP (Below.refl w.heap.size w) (.cells #[.pointer (some ⟨A.b,0,none⟩)] 34)
 have k2:=Blk.new w 34 #[.pointer (some ⟨A.b,0,none⟩)]
 have c2:(w.alloc (.cells #[.pointer (some ⟨A.b,0,none⟩)] 34)).cell? ⟨w.heap.size,0,none⟩=some (.pointer (some ⟨A.b,0,none⟩)):=k2.cell 0
 have cn:(w.alloc (.cells #[.pointer (some ⟨A.b,0,none⟩)] 34)).cell? ⟨A.b,0,none⟩=some (.pointer (some ⟨A.p,0,none⟩)):=(h.below hB0 (Ext.refl _ _)).bx.b.cell 0
 have HA:=Lib.hid h
 have HB:=Lib.hid (And.intro hB0 k2)
 clear h hB0 k2
 refine callsIn_of_wp_marks Tryz.func13 rfl trivial ?_ rfl
 simp only [Tryz.ntmps13,List.size_toArray,List.length_cons,List.length_nil,Nat.reduceAdd,Nat.reduceSub,Array.replicate_succ,Array.replicate_zero,List.push_toArray,List.append_toArray,List.nil_append,List.cons_append]
 gi_wp2
 refine⟨trivial,(callsIn_wide.2 (all31_any A.b R _)).mono ?_⟩
 rintro e w3 ⟨rfl,rfl⟩
 obtain⟨hB1,k1⟩:=HB.out
 have e1:(w.alloc (.cells #[.pointer (some ⟨A.b,0,none⟩)] 34)).heap.size=w.heap.size+1:=by simp
 rw [e1]
 obtain⟨w1,hw1⟩:∃w1,w1=w.alloc (.cells #[.pointer (some ⟨A.b,0,none⟩)] 34):=⟨_,rfl⟩
 rw [←hw1] at hB1 k1 c2 cn e1 ⊢
 have hB2:=balP (Below.refl w1.heap.size w1) (.cells #[.pointer (some ⟨A.b,0,none⟩)] 34)
 have k2:=Blk.new w1 34 #[.pointer (some ⟨A.b,0,none⟩)]
 have e2:(w1.alloc (.cells #[.pointer (some ⟨A.b,0,none⟩)] 34)).heap.size=w.heap.size+1+1:=by simp [e1]
 have hB3:=balP (Below.refl _ (w1.alloc (.cells #[.pointer (some ⟨A.b,0,none⟩)] 34))) (.cells #[.int .i64 R] 3)
 have k3:=Blk.new (w1.alloc (.cells #[.pointer (some ⟨A.b,0,none⟩)] 34)) 3 #[.int .i64 R]
 have e3:((w1.alloc (.cells #[.pointer (some ⟨A.b,0,none⟩)] 34)).alloc (.cells #[.int .i64 R] 3)).heap.size=w.heap.size+1+1+1:=by simp [e1]
 rw [e1] at k2
 rw [e2] at k3
 have k2':=k2.below hB3 k2.lt
 have k1':=(k1.below hB2 k1.lt).below hB3 (Nat.lt_of_lt_of_le k1.lt hB2.size)
 have hB03:Below w.heap.size w ((w1.alloc (.cells #[.pointer (some ⟨A.b,0,none⟩)] 34)).alloc (.cells #[.int .i64 R] 3)):=(hB1.trans (hB2.mono hB1.size)).trans (hB3.mono (Nat.le_trans hB1.size hB2.size))
 obtain⟨w0,hw0⟩:∃w0,w0=(w1.alloc (.cells #[.pointer (some ⟨A.b,0,none⟩)] 34)).alloc (.cells #[.int .i64 R] 3):=⟨_,rfl⟩
 rw [←hw0] at k2' k3 k1' hB03 e3 ⊢
 have hD:w.heap.size≤w0.heap.size:=by omega
 have HI0:Hid (∀r,RunI N M tag w w0.heap.size (w.heap.size+1+1) (w.heap.size+1) w.heap.size R A T ((w0.alloc (.deferred (some []))).alloc (.loop r))):=Lib.hid fun r=>by
  have b1:=balP (Below.refl w0.heap.size w0) (.deferred (some []))
  have b2:=balP (Below.refl _ (w0.alloc (.deferred (some [])))) (.loop r)
  have b3:Below w0.heap.size w0 ((w0.alloc (.deferred (some []))).alloc (.loop r)):=b1.trans (b2.mono b1.size)
  have hE:=extT_ext w tag fun _=>98
  have ht:∀b,w.heap.size≤b→extT w.heap.size tag (fun _=>98) b=98:=fun b hb=>extT_new _ _ hb
  have hBt:=hB03.trans (b3.mono hD)
  exact⟨_,⟨hE,k3.below b3 k3.lt,k2'.below b3 k2'.lt,k1'.below b3 k1'.lt,⟨ht _ (by omega),ht _ (by omega),ht _ hD,ht _ (by omega)⟩,ht _ (Nat.le_refl _),by simp,Chg.of_below hBt _⟩,HA.out.below hBt hE⟩
 clear hB1 hB2 hB3 k1 k2 k3 k1' k2' c2 cn e1 e2 hw1 hw0
 gi_wp2
 obtain⟨D,hDD⟩:∃D,D=w0.heap.size:=⟨_,rfl⟩
 have HD:=Lib.hid (And.intro hDD hD)
 rw [←hDD] at HI0
 have HT:Hid (∀k,k<R→(NtS.run N M T k).t=T.t+k∧T.t+k≤900000):=Lib.hid fun k hk=>⟨NtS.run_t T k,by omega⟩
 refine wpIn_rangeFunc_two rfl (by omega) (gf:=50) (lb:=#[.pointer (some ⟨w.heap.size+1+1,0,none⟩),.pointer (some ⟨w.heap.size+1,0,none⟩)]) rfl trivial (enters_of Tryz.func50 (by kernel_rfl) rfl) (N:=R) (encs:=fun k=> #[.int .i64 ((T.t:Int)+(k:Int))]) (fun _=>rfl)
  (fun k W=>RunI N M tag w D (w.heap.size+1+1) (w.heap.size+1) w.heap.size R A (NtS.run N M T k) W)
  (fun k W=>RunI N M tag w D (w.heap.size+1+1) (w.heap.size+1) w.heap.size R A (NtS.nodes N M (NtS.run N M T k) n) W)
  (fun k W r o hi hr=>by rw [←hDD] at hr ⊢;exact hi.put (by omega) h16 hr)
  (fun k W r o hi hr=>by rw [←hDD] at hr ⊢;exact hi.put (by omega) h16 hr)
  HI0.out
  (fun rec W1 hy hi hr=>by rw [←hDD] at hy hr ⊢;exact all1_in D _ _ _ R hR h4 h16 HT.out rec W1 hy hi hr)
  (fun k=>{ tmps:=#[Value.pointer (some ⟨A.b,0,none⟩),Value.int IntKind.i64 R,
    Value.pointer (some ⟨w.heap.size,0,none⟩),undef,Value.int IntKind.i64 0,undef,
    Value.bool false,Value.pointer (some ⟨A.b,0,none⟩),Value.bool false,Value.bool false,
    Value.pointer (some ⟨A.b,0,none⟩),Value.pointer (some ⟨A.b,0,none⟩),
    Value.pointer (some ⟨A.b,0,none⟩),Value.pointer (some ⟨A.p,0,none⟩),
    Value.bool false,Value.bool false,Value.bool false,Value.int IntKind.i64 R,Value.bool false,
    Value.bool false,Value.int IntKind.i64 R,Value.bool false,Value.pointer (some ⟨A.b,0,none⟩),
    Value.int IntKind.i64 R,
    Value.func (Fn.func 50) #[]
     #[Value.pointer (some ⟨w.heap.size+1+1,0,none⟩),
      Value.pointer (some ⟨w.heap.size+1,0,none⟩)],
    .int .i64 ((T.t:Int)+(k:Int)),undef,undef,undef,undef,undef,undef,undef,undef,undef,undef,undef,undef],defers:=[] }) ?assign ?body ?done
 case assign=>
  intro l k W K hK
  gi_wp2
  exact hK
 case body=>
  intro k W r hi hl hd hk
  rw [←hDD] at hl hd ⊢
  obtain⟨hT1,hT2⟩:=HT.out k hk
  have HO:=Lib.hid (hok k hk)
  have HI:=Lib.hid hi
  obtain⟨tg0,hb0,hx0⟩:=hi
  have d0:W.cell? ⟨w.heap.size,0,none⟩=some (.pointer (some ⟨A.b,0,none⟩)):=hb0.kx.cell 0
  have d1:W.cell? ⟨A.b,1,none⟩=some (.slice (some ⟨A.gl,0,none⟩) n A.lc):=hx0.bx.b.cell 1
  clear hb0 hx0
  have h13:1≤5 - 1 - 1:=by omega
  have HRec:=Lib.hid (And.intro hl hd)
  clear hl hd
  gi_wp2
  gi_loopw [31] (fun i wr=> ∃j:Nat,j≤n∧i=.int .i64 j∧Hid (RunI N M tag w D (w.heap.size+1+1) (w.heap.size+1) w.heap.size R A (NtS.nodes N M (NtS.run N M T k) j) wr∧wr.heap[D+1]? =W.heap[D+1]?∧wr.heap[D]? =W.heap[D]?)) (fun i _=>n - (intOf i).toNat)
  case atStart=>exact⟨0,Nat.zero_le _,rfl,Lib.hid ⟨HI.out,rfl,rfl⟩⟩
  case round=>
   obtain⟨j,hj,rfl,HJ⟩:=hrel
   by_cases hjl:j<n
   ·have hjl':(j:Int)<n:=by omega
    obtain⟨tg,hb,hx⟩:=HJ.out.1
    have d2:wr.cell? ⟨w.heap.size,0,none⟩=some (.pointer (some ⟨A.b,0,none⟩)):=hb.kx.cell 0
    have HN:=Lib.hid (node31_any hx h4 h16 hjl (HO.out.ok j hjl))
    have HX:=Lib.hid (And.intro hb hx)
    clear hb hx d0 d1
    gi_wp2
    refine⟨trivial,(CallsIn.inRound (D+1) (callsIn_wide.2 HN.out)).mono ?_⟩
    rintro e w4 ⟨tg4,rfl,hn4,he4,hc4⟩
    have HE:Hid (RunI N M tag w D (w.heap.size+1+1) (w.heap.size+1) w.heap.size R A (NtS.nodes N M (NtS.run N M T k) (j+1)) w4∧w4.heap[D+1]? =W.heap[D+1]?∧w4.heap[D]? =W.heap[D]?):=Lib.hid (by
     have hb:=HX.out.1
     refine⟨⟨tg4,hb.chg hc4 (fun b _ e=>e) he4,hn4⟩,?_,?_⟩
     ·exact (hc4.block _ hb.l fun e=>by have:=hb.tt.2.2.2;omega).trans HJ.out.2.1
     ·exact (hc4.block _ (Nat.lt_of_succ_lt hb.l) fun e=>by have:=hb.tt.2.2.1;omega).trans HJ.out.2.2)
    clear hn4 he4 hc4 HN HX
    gi_wp2
    go_roundw
    case rel=>exact⟨j+1,by omega,by go_num,HE⟩
    case measure=>(simp [intOf];omega)
   ·obtain rfl:j=n:=by omega
    clear d0 d1
    gi_wp2
    exact HJ.out
 case done=>
  intro W hi hd
  rw [←hDD] at hd ⊢
  obtain⟨tg,hb,hx⟩:=hi
  have HX:=Lib.hid (And.intro hb hx)
  clear hb hx
  gi_wp2
  refine⟨by simp,.inl ⟨_,_,rfl,run_takeDeferred hd,?_⟩⟩
  refine⟨_,results_tmp rfl _ _ _,rfl,tg,HX.out.1.ex,?_,?_⟩
  ·have hc:Chg (· =D) W (W.putObj D (.deferred none)):=⟨rfl,rfl,rfl,by simp,fun b _ hb=>World.putObj_heap_other hb⟩
   exact HX.out.2.chg hc (fun b _ e=>by rw [e,HX.out.1.tt.2.2.1];exact Nat.le_refl _) h16 (Ext.refl _ _)
  ·have hc:Chg (· =D) W (W.putObj D (.deferred none)):=⟨rfl,rfl,rfl,by simp,fun b _ hb=>World.putObj_heap_other hb⟩
   exact chgW HX.out.1.c hc fun b hb e=>by rw [e] at hb;omega
theorem run31_any (h:NtAt N M tag w A T) (h4:4≤n) (h16:n≤16) (R:Nat) (hR:R≤65536) (hok:∀k,k<R→NtS.okT N M (NtS.run N M T k)) (hg:T.t+R≤900000) :
 Calls Tryz.prog 13 #[.pointer (some ⟨A.b,0,none⟩),.int .i64 R] w fun e w'=>e=.returned (.int .i64 0)∧∃tg,Ext w tag tg∧NtAt N M tg w' A (NtS.run N M T R)∧Chg (fun b=>tag b≠0∧tag b<98) w w':=
 (callsIn_wide (n:=5)).1 (run31_in h h4 h16 R hR hok hg h.bx.lt.2.2.2.1)
end
end Go.Proofs.YtdilbjikeilhbaaGreatDoor
