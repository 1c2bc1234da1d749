import Derived.Test.YtdilbjikeilhbaaGreatDoorGn06
namespace Go.Proofs.YtdilbjikeilhbaaGreatDoor
open Go.RowKit
set_option linter.unusedVariables false
set_option linter.unusedSimpArgs false
theorem Rw.eq_iff {r r':Rw}:r=r'↔r.is=r'.is∧r.c=r'.c∧r.t=r'.t:=by cases r;cases r';simp
structure R2 (w:World) (t t':TypeId) (r r':Rw) (tv tv':Value) (w0:World):Prop where
 b0:Blk w0 w.heap.size t (r.vals tv).toArray
 b1:Blk w0 (w.heap.size+1) t' (r'.vals tv').toArray
 bel:Below w.heap.size w w0
 sz:w0.heap.size=w.heap.size+1+1
theorem R2.start (w:World) (t t':TypeId) (r r':Rw) (tv tv':Value):R2 w t t' r r' tv tv' ((w.alloc (.cells (r.vals tv).toArray t)).alloc (.cells (r'.vals tv').toArray t')):=
 ⟨(Blk.new _ _ _).alloc _,new1 _ _ _ _,((Below.refl _ _).alloc (Nat.le_refl _) _).alloc (by simp) _,by simp⟩
theorem blk_row {w:World} {g:Nat} {t:TypeId} {r:Rw} {tv:Value} (h:Blk w g t (r.vals tv).toArray) (hr:r.ok) :
 w.cell? ⟨g,0,none⟩=some (.bool r.is)∧hasRow w ⟨g,1,none⟩ 55=true∧rowOf w ⟨g,1,none⟩ 55=r.c∧w.cell? ⟨g,56,none⟩=some tv∧hasRow w ⟨g,0,none⟩ 57=true∧rowOf w ⟨g,0,none⟩ 57=r.vals tv∧(∀i,w.frozen? ⟨g,i,none⟩=false):=by
 have hl:=Rw.len hr tv
 have hcl:r.c.length=55:=(okL_len hr.1).trans len_cellK
 obtain⟨h1,h2,h3,h4,h5⟩:=h.rules
 obtain⟨q1,q2,-⟩:=h.whole hl
 refine⟨by rw [h1];rfl,by rw [h3,hl];rfl,?_,?_,q1,q2,h2⟩
 ·rw [h4 _ _ (by omega)];simp [Rw.vals,←hcl]
 ·rw [h1];simp [Rw.vals,List.getElem?_append,hcl]
open Classical in
set_option maxRecDepth 100000 in
set_option maxHeartbeats 1000000 in
theorem same_any (S S':Nat→Prop) (r r':Rw) (hr:r.ok) (hr':r'.ok) (tv tv':Value) (w:World) (ht:RowR S w r tv) (ht':RowR S' w r' tv') :
 Calls Tryz.prog 224 #[.agg (r.vals tv).toArray,.agg (r'.vals tv').toArray] w fun e w'=>e=.returned (.bool (decide (r=r')))∧Below w.heap.size w w':=by
 obtain⟨q,hq⟩:∃q,q=decide (r=r'):=⟨_,rfl⟩
 rw [←hq]
 have HQ:=Lib.hid hq
 have hst:=R2.start w 134 134 r r' tv tv'
 obtain⟨x,m,cap,rfl,t1,t2,t3⟩:=ht
 obtain⟨x',m',cap',rfl,t1',t2',t3'⟩:=ht'
 go_enter Tryz.func224,Tryz.ntmps224
 go_upto_region 1 with fail
 generalize ((w.alloc (.cells (r.vals (.slice x m cap)).toArray 134)).alloc (.cells (r'.vals (.slice x' m' cap')).toArray 134))=w0 at hst ⊢
 obtain⟨f0,f1,f2,f3,-⟩:=blk_row hst.b0 hr
 obtain⟨k0,k1,k2,k3,-⟩:=blk_row hst.b1 hr'
 have hE:=equal_any S S' x x' m m' cap cap' r.t r'.t w0 (t1.below hst.bel (fun _ _ h=>h)) (t1'.below hst.bel (fun _ _ h=>h)) (by omega) (by omega)
 have hc:=hr.1
 have hc':=hr'.1
 have H:=Lib.hid (And.intro hE hst)
 clear hE hst t1 t1' hq hr hr'
 obtain⟨is,c,t⟩:=r
 obtain⟨is',c',t'⟩:=r'
 simp only at f0 f1 f2 f3 k0 k1 k2 k3 hc hc' H HQ
 by_cases h1:is=is'
 ·subst h1
  have hb:(is==is)=true:=by simp
  by_cases h2:c=c'
  ·subst h2
   have e:q=decide (t=t'):=by rw [HQ.out];simp
   have HE:=Lib.hid e
   clear e
   go_wp2_with fail
   refine H.out.1.mono ?_
   rintro e w1 ⟨rfl,hb1⟩
   have HB:=Lib.hid (H.out.2.bel.trans (hb1.mono H.out.2.bel.size))
   clear hb1
   rw [←HE.out]
   go_wp2_with fail
   go_ret
   exact⟨rfl,HB.out⟩
  ·have e:q=false:=by rw [HQ.out,decide_eq_false_iff_not,Rw.eq_iff];simp [h2]
   have HE:=Lib.hid e
   clear e
   go_wp2_with fail
   go_ret
   exact⟨by rw [HE.out];rfl,H.out.2.bel⟩
 ·have e:q=false:=by rw [HQ.out,decide_eq_false_iff_not,Rw.eq_iff];simp [h1]
  have HE:=Lib.hid e
  have hb:(is==is')=false:=by simpa using h1
  clear e
  go_wp2_with fail
  go_ret
  exact⟨by rw [HE.out];rfl,H.out.2.bel⟩
def SidePost (n me way:Nat) (near far:List Rw) (w:World) (e:Ending) (w':World):Prop:=
 ∃gt gn,e=.returned (.agg #[.slice (some ⟨gt,0,none⟩) n n,.slice (some ⟨gn,0,none⟩) n n])∧w.heap.size≤gt∧w.heap.size≤gn∧gt≠gn∧
  RowsB (fun b=>w.heap.size≤b∧b≠gt∧b≠gn) w' gt 134 (tab n (sideM n me way near far 0))∧
  RowsB (fun b=>w.heap.size≤b∧b≠gt∧b≠gn) w' gn 134 (tab n (sideM n me way near far 1))∧Below w.heap.size w w'
structure SideI (w:World) (gt gn gs n me way:Nat) (near far:List Rw) (k:Nat) (wr:World):Prop where
 s:Blk wr gs 360 #[.slice (some ⟨gt,0,none⟩) n n,.slice (some ⟨gn,0,none⟩) n n]
 t:RowsB (fun b=>w.heap.size≤b∧b≠gt∧b≠gn∧b≠gs) wr gt 134 (tab n fun s=>if s<k then sideM n me way near far 0 s else inRow n far s)
 r:RowsB (fun b=>w.heap.size≤b∧b≠gt∧b≠gn∧b≠gs) wr gn 134 (tab n fun s=>if s<k then sideM n me way near far 1 s else inRow n near s)
 bel:Below w.heap.size w wr
 o:w.heap.size≤gt∧w.heap.size≤gn∧gt≠gn∧gt≠gs∧gn≠gs∧w.heap.size≤gs
theorem RowsB.drewN {S:Nat→Prop} {w:World} {g:Nat} {t:TypeId} {L:List Rw} (h:RowsB S w g t L) (q:Nat):RowsB S (w.drewN q) g t L:=h.keep (Nat.le_refl _) (fun _ _ _=>rfl)
theorem Below.drewN_ {B:Nat} {a w:World} (h:Below B a w) (n:Nat):Below B a (w.drewN n):=⟨h.os,h.tape,h.output,h.size,h.block⟩
theorem SideI.drewN {w:World} {gt gn gs n me way:Nat} {near far:List Rw} {k:Nat} {wr:World} (h:SideI w gt gn gs n me way near far k wr) (q:Nat):SideI w gt gn gs n me way near far k (wr.drewN q):=
 ⟨h.s.drewN q,h.t.drewN q,h.r.drewN q,Below.drewN_ h.bel q,h.o⟩
theorem SideI.drew {w:World} {gt gn gs n me way:Nat} {near far:List Rw} {k:Nat} {wr:World} (h:SideI w gt gn gs n me way near far k wr):SideI w gt gn gs n me way near far k wr.drew:=
 ⟨h.s.drew,h.t.keep (Nat.le_refl _) (fun _ _ _=>rfl),h.r.keep (Nat.le_refl _) (fun _ _ _=>rfl),h.bel.drew,h.o⟩
theorem SideI.step {w:World} {gt gn gs n me way:Nat} {near far:List Rw} {k:Nat} {wr:World} (h:SideI w gt gn gs n me way near far k wr) (hk:k<n) {r0 r1:Rw} (e0:r0=sideM n me way near far 0 k) (e1:r1=sideM n me way near far 1 k) (o0:r0.ok) (o1:r1.ok) {tv0 tv1:Value}
 (x0:RowX (fun b=>w.heap.size≤b∧b≠gt∧b≠gn∧b≠gs) wr r0 tv0) (x1:RowX (fun b=>w.heap.size≤b∧b≠gt∧b≠gn∧b≠gs) wr r1 tv1) :
 SideI w gt gn gs n me way near far (k+1) (putRow (putRow wr ⟨gt,k*57,none⟩ (r0.vals tv0)) ⟨gn,k*57,none⟩ (r1.vals tv1)):=by
 obtain⟨q1,q2,q3,q4,q5,q6⟩:=h.o
 have c1:=(Chg.refl (· =gt) wr).put (p:=⟨gt,k*57,none⟩) (.inl rfl) (r0.vals tv0)
 have c2:=(Chg.refl (· =gn) (putRow wr ⟨gt,k*57,none⟩ (r0.vals tv0))).put (p:=⟨gn,k*57,none⟩) (.inl rfl) (r1.vals tv1)
 have t1:=h.t.set (fun b hb=>hb.2.1) (k:=k) (by rw [tab_len];exact hk) o0 x0
 have t2:=t1.chg c2 (by omega) (fun b _ hb e=>hb.2.2.1 e)
 have n1:=h.r.chg c1 (by omega) (fun b _ hb e=>hb.2.1 e)
 have n2:=n1.set (fun b hb=>hb.2.2.1) (k:=k) (by rw [tab_len];exact hk) o1 (x1.keep (by simp) (fun b hb hl=>c1.block b hl (fun e=>hb.2.1 e)))
 refine⟨?_,?_,?_,Below.put (Below.put h.bel (p:=⟨gt,k*57,none⟩) q1 _) (p:=⟨gn,k*57,none⟩) q2 _,h.o⟩
 ·exact (putRow_other _ _ _ _ (by simp;omega)).trans ((putRow_other _ _ _ _ (by simp;omega)).trans h.s)
 ·rw [tab_put (g:=fun s=>if s<k+1 then sideM n me way near far 0 s else inRow n far s) hk (by rw [if_pos (by omega),e0]) (fun j hj hne=>by
   by_cases hjk:j<k
   ·rw [if_pos hjk,if_pos (by omega)]
   ·rw [if_neg hjk,if_neg (by omega)])] at t2
  exact t2
 ·rw [tab_put (g:=fun s=>if s<k+1 then sideM n me way near far 1 s else inRow n near s) hk (by rw [if_pos (by omega),e1]) (fun j hj hne=>by
   by_cases hjk:j<k
   ·rw [if_pos hjk,if_pos (by omega)]
   ·rw [if_neg hjk,if_neg (by omega)])] at n2
  exact n2
theorem SideI.skip {w:World} {gt gn gs n me way:Nat} {near far:List Rw} {k:Nat} {wr:World} (h:SideI w gt gn gs n me way near far k wr) (e0:inRow n far k=sideM n me way near far 0 k) (e1:inRow n near k=sideM n me way near far 1 k) :
 SideI w gt gn gs n me way near far (k+1) wr:=by
 refine⟨h.s,?_,?_,h.bel,h.o⟩
 ·have:=h.t
  rw [tab_congr (g:=fun s=>if s<k+1 then sideM n me way near far 0 s else inRow n far s) (fun j _=>by
   by_cases hjk:j<k
   ·rw [if_pos hjk,if_pos (by omega)]
   ·by_cases e:j=k
    ·subst e;rw [if_neg hjk,if_pos (by omega),e0]
    ·rw [if_neg hjk,if_neg (by omega)])] at this
  exact this
 ·have:=h.r
  rw [tab_congr (g:=fun s=>if s<k+1 then sideM n me way near far 1 s else inRow n near s) (fun j _=>by
   by_cases hjk:j<k
   ·rw [if_pos hjk,if_pos (by omega)]
   ·by_cases e:j=k
    ·subst e;rw [if_neg hjk,if_pos (by omega),e1]
    ·rw [if_neg hjk,if_neg (by omega)])] at this
  exact this
theorem SideI.facts {w:World} {gt gn gs n me way:Nat} {near far:List Rw} {k:Nat} {wr:World} (h:SideI w gt gn gs n me way near far k wr) (hk:k<n) :
 wr.cell? ⟨gs,0,none⟩=some (.slice (some ⟨gt,0,none⟩) n n)∧wr.cell? ⟨gs,1,none⟩=some (.slice (some ⟨gn,0,none⟩) n n)∧canPut wr ⟨gt,k*57,none⟩ 57=true∧canPut wr ⟨gn,k*57,none⟩ 57=true:=by
 have h0:=h.s.cell 0
 have h1:=h.s.cell 1
 simp at h0 h1
 exact⟨h0,h1,h.t.canPut k (by rw [tab_len];exact hk),h.r.canPut k (by rw [tab_len];exact hk)⟩
theorem side_keep (gt gn gs n o:Nat) (l:List Value) (hl:l.length=57) (l':List Value) (hl':l'.length=57) (h1:gt≠gs) (h2:gn≠gs) :
 Hid (∀w':World,(w'.cell? ⟨gs,0,none⟩=some (.slice (some ⟨gt,0,none⟩) n n)∧w'.cell? ⟨gs,1,none⟩=some (.slice (some ⟨gn,0,none⟩) n n)∧canPut w' ⟨gt,o,none⟩ 57=true∧canPut w' ⟨gn,o,none⟩ 57=true)→
  ((putRow w' ⟨gt,o,none⟩ l).cell? ⟨gs,0,none⟩=some (.slice (some ⟨gt,0,none⟩) n n)∧(putRow w' ⟨gt,o,none⟩ l).cell? ⟨gs,1,none⟩=some (.slice (some ⟨gn,0,none⟩) n n)∧canPut (putRow w' ⟨gt,o,none⟩ l) ⟨gt,o,none⟩ 57=true∧canPut (putRow w' ⟨gt,o,none⟩ l) ⟨gn,o,none⟩ 57=true))∧
 Hid (∀w':World,(w'.cell? ⟨gs,0,none⟩=some (.slice (some ⟨gt,0,none⟩) n n)∧w'.cell? ⟨gs,1,none⟩=some (.slice (some ⟨gn,0,none⟩) n n)∧canPut w' ⟨gt,o,none⟩ 57=true∧canPut w' ⟨gn,o,none⟩ 57=true)→
  ((putRow w' ⟨gn,o,none⟩ l').cell? ⟨gs,0,none⟩=some (.slice (some ⟨gt,0,none⟩) n n)∧(putRow w' ⟨gn,o,none⟩ l').cell? ⟨gs,1,none⟩=some (.slice (some ⟨gn,0,none⟩) n n)∧canPut (putRow w' ⟨gn,o,none⟩ l') ⟨gt,o,none⟩ 57=true∧canPut (putRow w' ⟨gn,o,none⟩ l') ⟨gn,o,none⟩ 57=true)):=
 ⟨Lib.hid fun w' ⟨a,b,c,d⟩=>⟨cell_put a (Ne.symm h1),cell_put b (Ne.symm h1),by rw [canPut_putL (by rw [hl];exact c)];exact c,by rw [canPut_putL (by rw [hl];exact c)];exact d⟩,
  Lib.hid fun w' ⟨a,b,c,d⟩=>⟨cell_put a (Ne.symm h2),cell_put b (Ne.symm h2),by rw [canPut_putL (by rw [hl'];exact d)];exact c,by rw [canPut_putL (by rw [hl'];exact d)];exact d⟩⟩
theorem cell_set {w:World} {p q:Addr} {v u:Value} (h:w.cell? p=some v) (hne:p.block≠q.block):(w.setCell q u).cell? p=some v:=(World.cell?_of_block (Below.heap_setCell w q u p.block hne)).trans h
set_option maxRecDepth 100000 in
set_option maxHeartbeats 1000000 in
theorem side_any (S S':Nat→Prop) (p n me way:Nat) (an af:Option Addr) (ln cn lf cf:Nat) (near far:List Rw) (w:World) (hn:w.cell? ⟨p,0,none⟩=some (.int .i64 n)) (hme:w.cell? ⟨p,1,none⟩=some (.int .i64 me)) (hp:p<w.heap.size)
 (h4:4≤n) (h16:n≤16) (hm:me<n) (hrn:RdRs S w an ln near) (hn1:ln≤cn) (hn2:cn≤maxLen) (hrf:RdRs S' w af lf far) (hf1:lf≤cf) (hf2:cf≤maxLen) :
 Calls Tryz.prog 141 #[.pointer (some ⟨p,0,none⟩),.int .i64 way,.agg #[.slice an ln cn],.agg #[.slice af lf cf]] w (SidePost n me way near far w):=by
 have HW:=Lib.hid (And.intro hrn hrf)
 have hok1:=hrn.2.1
 have hok2:=hrf.2.1
 have HOK:=Lib.hid (And.intro hok1 hok2)
 clear hrn hrf hok1 hok2
 have HL:Hid (∀w':World,Below w.heap.size w w'→w'.cell? ⟨p,0,none⟩=some (.int .i64 n)∧w'.cell? ⟨p,1,none⟩=some (.int .i64 me)):=Lib.hid fun w' h=>⟨(h.cell (p:=⟨p,0,none⟩) hp).trans hn,(h.cell (p:=⟨p,1,none⟩) hp).trans hme⟩
 clear hn hme
 go_enter Tryz.func141,Tryz.ntmps141
 go_upto_region 1 with fail
 have hB0:Below w.heap.size w (((w.alloc (.cells #[Value.slice an ln cn] 61)).alloc (.cells #[Value.slice af lf cf] 61)).alloc (.cells #[Value.slice none 0 0,Value.slice none 0 0] 360)):=(((Below.refl _ _).alloc (Nat.le_refl _) _).alloc (by simp) _).alloc (by simp;omega) _
 have k0:Blk (((w.alloc (.cells #[Value.slice an ln cn] 61)).alloc (.cells #[Value.slice af lf cf] 61)).alloc (.cells #[Value.slice none 0 0,Value.slice none 0 0] 360)) w.heap.size 61 #[Value.slice an ln cn]:=((Blk.new w _ _).alloc _).alloc _
 have k1:Blk (((w.alloc (.cells #[Value.slice an ln cn] 61)).alloc (.cells #[Value.slice af lf cf] 61)).alloc (.cells #[Value.slice none 0 0,Value.slice none 0 0] 360)) (w.heap.size+1) 61 #[Value.slice af lf cf]:=by
  have:=(Blk.new (w.alloc (.cells #[Value.slice an ln cn] 61)) 61 #[Value.slice af lf cf]).alloc (.cells #[Value.slice none 0 0,Value.slice none 0 0] 360)
  simpa using this
 have k2:Blk (((w.alloc (.cells #[Value.slice an ln cn] 61)).alloc (.cells #[Value.slice af lf cf] 61)).alloc (.cells #[Value.slice none 0 0,Value.slice none 0 0] 360)) (w.heap.size+1+1) 360 #[Value.slice none 0 0,Value.slice none 0 0]:=by
  have:=Blk.new ((w.alloc (.cells #[Value.slice an ln cn] 61)).alloc (.cells #[Value.slice af lf cf] 61)) 360 #[Value.slice none 0 0,Value.slice none 0 0]
  simpa using this
 have hz0:w.heap.size+1+1<(((w.alloc (.cells #[Value.slice an ln cn] 61)).alloc (.cells #[Value.slice af lf cf] 61)).alloc (.cells #[Value.slice none 0 0,Value.slice none 0 0] 360)).heap.size:=by simp
 generalize (((w.alloc (.cells #[Value.slice an ln cn] 61)).alloc (.cells #[Value.slice af lf cf] 61)).alloc (.cells #[Value.slice none 0 0,Value.slice none 0 0] 360))=w0 at hB0 k0 k1 k2 hz0 ⊢
 have HB0:=Lib.hid hB0
 have F0:Hid (∀w':World,Below w0.heap.size w0 w'→Below w.heap.size w w'∧Blk w' w.heap.size 61 #[Value.slice an ln cn]∧Blk w' (w.heap.size+1) 61 #[Value.slice af lf cf]∧Blk w' (w.heap.size+1+1) 360 #[Value.slice none 0 0,Value.slice none 0 0]):=
  Lib.hid fun w' h=>⟨HB0.out.trans (h.mono HB0.out.size),k0.below h k0.lt,k1.below h k1.lt,k2.below h k2.lt⟩
 have S1:Hid (∀w':World,Below w0.heap.size w0 w'→w'.cell? ⟨p,0,none⟩=some (.int .i64 n)∧w'.cell? ⟨w.heap.size,0,none⟩=some (Value.slice an ln cn)):=Lib.hid fun w' h=>by
  obtain⟨h1,h2,-⟩:=F0.out w' h
  exact⟨(HL.out w' h1).1,by have:=h2.cell 0;simpa using this⟩
 clear k0 k1 k2 hB0
 go_region_held3 (fun w'=>w'.cell? ⟨p,0,none⟩=some (.int .i64 n)∧w'.cell? ⟨w.heap.size,0,none⟩=some (Value.slice an ln cn))
  (first | exact S1.out _ (Below.refl _ _).drew | exact S1.out _ H1.out.1 | exact⟨cell_set (S1.out _ H1.out.1).1 (by simp <;> omega),cell_set (S1.out _ H1.out.1).2 (by simp <;> omega)⟩)
  ((go_at_call 185;refine (norm_blk S n h16 an ln cn near _ (HW.out.1.below ((F0.out _ (Below.refl _ _).drew).1) (fun _ _ h=>h)) hn1 hn2).mono ?_;rintro e w1 ⟨gn,rfl,hgn,hrn,hb1⟩;have H1:=Lib.hid (And.intro ((Below.refl w0.heap.size w0).drew.trans hb1) (And.intro hgn hrn));have g2:=(F0.out w1 H1.out.1).2.2.2;have c2:=g2.cell 1;have z2:=g2.frozen 1;simp at c2;clear g2 hgn hrn hb1))
 go_upto_region 2 with fail
 have F2:Hid (∀w':World,Below (w1.setCell ⟨w.heap.size+1+1,1,none⟩ (.slice (some ⟨gn,0,none⟩) n n)).heap.size (w1.setCell ⟨w.heap.size+1+1,1,none⟩ (.slice (some ⟨gn,0,none⟩) n n)) w'→
  Below w.heap.size w w'∧Blk w' (w.heap.size+1) 61 #[Value.slice af lf cf]∧Blk w' (w.heap.size+1+1) 360 #[Value.slice none 0 0,.slice (some ⟨gn,0,none⟩) n n]∧
  RowsB (fun b=>w0.heap.size≤b∧b<w1.heap.size∧b≠gn) w' gn 134 (tab n (inRow n near))):=Lib.hid (by
  obtain⟨h1,-,h3,h4⟩:=F0.out w1 H1.out.1
  have hgn:=H1.out.2.1
  have hc:=(Chg.refl (· =w.heap.size+1+1) w1).set_at 1 (.slice (some ⟨gn,0,none⟩) n n)
  have hr:=(H1.out.2.2.mono (S':=fun b=>w0.heap.size≤b∧b<w1.heap.size∧b≠gn) (fun b hl hb=>⟨by have:=hb.1;simp at this;omega,hl,hb.2⟩)).chg hc (by simp at hgn;omega) (fun b _ h h'=>by omega)
  have hz:=h1.size
  have hs:(w1.setCell ⟨w.heap.size+1+1,1,none⟩ (.slice (some ⟨gn,0,none⟩) n n)).heap.size=w1.heap.size:=by simp
  intro w' hb
  rw [hs] at hb
  refine⟨(h1.setCell (by simp;omega) _).trans (hb.mono (by omega)),(h3.chg hc (by omega)).below hb h3.lt,(h4.set_ 1 _).below hb h4.lt,?_⟩
  exact hr.keep hb.size (fun b _ hl=>hb.block b (by rw [hs] at hl;exact hl)))
 have hzz:Hid (w.heap.size+1+1<w0.heap.size∧w0.heap.size≤gn∧gn<w1.heap.size∧w0.heap.size≤w1.heap.size):=Lib.hid ⟨hz0,by have:=H1.out.2.1;simpa using this,H1.out.2.2.lt,H1.out.1.size⟩
 have hz2:w1.heap.size=(w1.setCell ⟨w.heap.size+1+1,1,none⟩ (.slice (some ⟨gn,0,none⟩) n n)).heap.size:=by simp
 generalize (w1.setCell ⟨w.heap.size+1+1,1,none⟩ (.slice (some ⟨gn,0,none⟩) n n))=w2 at F2 hz2 ⊢
 rw [hz2] at hzz
 have S2:Hid (∀w':World,Below w2.heap.size w2 w'→w'.cell? ⟨p,0,none⟩=some (.int .i64 n)∧w'.cell? ⟨w.heap.size+1,0,none⟩=some (Value.slice af lf cf)):=Lib.hid fun w' h=>by
  obtain⟨h1,h2,-⟩:=F2.out w' h
  exact⟨(HL.out w' h1).1,by have:=h2.cell 0;simpa using this⟩
 have hz12:=Lib.hid hz2
 clear hz2
 have hzz0:w.heap.size+1+1<w2.heap.size:=by have:=hzz.out;omega
 go_region_held3 (fun w'=>w'.cell? ⟨p,0,none⟩=some (.int .i64 n)∧w'.cell? ⟨w.heap.size+1,0,none⟩=some (Value.slice af lf cf))
  (first | exact S2.out _ (Below.refl _ _).drew | exact S2.out _ H2.out.1 | exact⟨cell_set (S2.out _ H2.out.1).1 (by simp <;> omega),cell_set (S2.out _ H2.out.1).2 (by simp <;> omega)⟩)
  ((go_at_call 185;refine (norm_blk S' n h16 af lf cf far _ (HW.out.2.below ((F2.out _ (Below.refl _ _).drew).1) (fun _ _ h=>h)) hf1 hf2).mono ?_;rintro e w3 ⟨gt,rfl,hgn,hrn,hb1⟩;have H2:=Lib.hid (And.intro ((Below.refl w2.heap.size w2).drew.trans hb1) (And.intro hgn hrn));have g2:=(F2.out w3 H2.out.1).2.2.1;have c2:=g2.cell 0;have z2:=g2.frozen 0;simp at c2;clear g2 hgn hrn hb1))
 go_upto_region 3 with fail
 have HI:Hid (SideI w gt gn (w.heap.size+1+1) n me way near far 0 (w3.setCell ⟨w.heap.size+1+1,0,none⟩ (.slice (some ⟨gt,0,none⟩) n n))):=Lib.hid (by
  obtain⟨h1,-,h4,h5⟩:=F2.out w3 H2.out.1
  have hgt:=H2.out.2.1
  obtain⟨z1,z2,z3,z4⟩:=hzz.out
  have z5:=hz12.out
  have hlt:=H2.out.2.2.lt
  simp at hgt
  have hc:=(Chg.refl (· =w.heap.size+1+1) w3).set_at 0 (.slice (some ⟨gt,0,none⟩) n n)
  refine⟨h4.set_ 0 _,?_,?_,h1.setCell (by simp;omega) _,by omega⟩
  ·have:=(H2.out.2.2.mono (S':=fun b=>w.heap.size≤b∧b≠gt∧b≠gn∧b≠w.heap.size+1+1) (fun b hl hb=>by have:=hb.1;simp at this;exact⟨by omega,hb.2,by omega,by omega⟩)).chg hc (by omega) (fun b _ h h'=>h.2.2.2 h')
   rw [tab_congr (g:=fun s=>if s<0 then sideM n me way near far 0 s else inRow n far s) (fun k _=>by rw [if_neg (by omega)])] at this
   exact this
  ·have:=(h5.mono (S':=fun b=>w.heap.size≤b∧b≠gt∧b≠gn∧b≠w.heap.size+1+1) (fun b hl hb=>⟨by omega,by omega,hb.2.2,by omega⟩)).chg hc (by omega) (fun b _ h h'=>h.2.2.2 h')
   rw [tab_congr (g:=fun s=>if s<0 then sideM n me way near far 1 s else inRow n near s) (fun k _=>by rw [if_neg (by omega)])] at this
   exact this)
 have hz3:Hid (w.heap.size+1+1<(w3.setCell ⟨w.heap.size+1+1,0,none⟩ (.slice (some ⟨gt,0,none⟩) n n)).heap.size):=Lib.hid (by have:=H2.out.1.size;simp;omega)
 clear c2 z2
 generalize (w3.setCell ⟨w.heap.size+1+1,0,none⟩ (.slice (some ⟨gt,0,none⟩) n n))=w4 at HI hz3 ⊢
 clear H2 S2 F2 hzz hzz0 H1 S1 F0 HB0
 have S4:=HL.out w4 HI.out.bel
 go_wp2_with fail
 clear S4
 go_loopw [30] (fun i wr=> ∃k:Nat,k≤n∧i=.int .i64 k∧SideI w gt gn (w.heap.size+1+1) n me way near far k wr) (fun i _=>n - (intOf i).toNat)
 case atStart=>exact⟨0,by omega,rfl,HI.out⟩
 case round=>
  obtain⟨k,hk,rfl,hI⟩:=hrel
  have HJ:=Lib.hid hI
  clear hI
  by_cases hlt:k<n
  ·have q:=HL.out wr HJ.out.bel
   have HD:=Lib.hid (distance_any p n me way k wr q.1 q.2 h4 h16 hm hlt)
   clear q
   obtain⟨dd,hdd⟩:∃dd,dd=distM n me way k:=⟨_,rfl⟩
   rw [←hdd] at HD
   have HDD:=Lib.hid hdd
   clear hdd
   by_cases hd0:dd=0
   ·have b0:((dd:Int)==0)=true:=by simp;omega
    have HS0:Hid (rw0=sideM n me way near far 0 k∧rw0=sideM n me way near far 1 k):=Lib.hid (by unfold sideM;rw [if_pos (by rw [←HDD.out];exact hd0),if_pos (by rw [←HDD.out];exact hd0)];exact⟨rfl,rfl⟩)
    clear hd0
    go_wp2_with fail
    refine HD.out.mono ?_
    rintro e wd ⟨rfl,q,rfl⟩
    obtain⟨f1,f2,f3,f4⟩:=HJ.out.facts hlt
    obtain⟨K1,K2⟩:=side_keep gt gn (w.heap.size+1+1) n (k*57) rowZ len_rowZ rowZ len_rowZ HJ.out.o.2.2.2.1 HJ.out.o.2.2.2.2.1
    go_upto_region 8 with fail
    go_region_held3 (fun w'=>w'.cell? ⟨w.heap.size+1+1,0,none⟩=some (.slice (some ⟨gt,0,none⟩) n n)∧w'.cell? ⟨w.heap.size+1+1,1,none⟩=some (.slice (some ⟨gn,0,none⟩) n n)∧canPut w' ⟨gt,k*57,none⟩ 57=true∧canPut w' ⟨gn,k*57,none⟩ 57=true)
     (first | (simp [f1,f2,f3,f4,canPut_drew,canPut_drewN];done) | exact K1.out _ ⟨f1,f2,f3,f4⟩ | exact K2.out _ (K1.out _ ⟨f1,f2,f3,f4⟩))
     (fail)
    go_wp2_with fail
    have HT:=Lib.hid (HJ.out.step hlt HS0.out.1 HS0.out.2 rw0_ok rw0_ok (rowX_nil _ _ rw0 rfl) (rowX_nil _ _ rw0 rfl))
    rw [rw0_vals] at HT
    exact⟨⟨k+1,by omega,by go_num,HT.out.drewN (q+1)⟩,by simp [intOf];omega⟩
   ·have b0:((dd:Int)==0)=false:=by simp;omega
    by_cases hd1:dd=1
    ·have b1:((dd:Int)==1)=true:=by simp;omega
     have HS0:Hid (inRow n near k=sideM n me way near far 0 k∧rw0=sideM n me way near far 1 k):=Lib.hid (by have h:=HDD.out;unfold sideM;rw [←h];simp [hd0,hd1])
     have hrow:=HJ.out.r.row (k:=k) (tab_at hlt)
     rw [if_neg (Nat.lt_irrefl k)] at hrow
     obtain⟨tv,r1,r2,-,r3⟩:=hrow (inRow_ok HOK.out.1 k)
     have HR3:=Lib.hid r3
     have hin:=inRow_ok (n:=n) HOK.out.1 k
     have hvl:=Rw.len hin tv
     have hvc:=r3.1.cell1 hin
     obtain⟨xv,hxv⟩:∃xv,xv=(inRow n near k).vals tv:=⟨_,rfl⟩
     rw [←hxv] at hvl hvc r2
     have HXV:=Lib.hid hxv
     clear hd0 hd1 hxv r3 hin
     go_wp2_with fail
     refine HD.out.mono ?_
     rintro e wd ⟨rfl,q,rfl⟩
     obtain⟨f1,f2,f3,f4⟩:=HJ.out.facts hlt
     obtain⟨K1,K2⟩:=side_keep gt gn (w.heap.size+1+1) n (k*57) xv hvl rowZ len_rowZ HJ.out.o.2.2.2.1 HJ.out.o.2.2.2.2.1
     have K3:Hid (∀w':World,hasRow w' ⟨gn,k*57,none⟩ 57=true∧rowOf w' ⟨gn,k*57,none⟩ 57=xv→hasRow (putRow w' ⟨gt,k*57,none⟩ xv) ⟨gn,k*57,none⟩ 57=true∧rowOf (putRow w' ⟨gt,k*57,none⟩ xv) ⟨gn,k*57,none⟩ 57=xv):=Lib.hid fun w' h=>by
      have:=row_put (w:=w') (p:=⟨gn,k*57,none⟩) (q:=⟨gt,k*57,none⟩) (n:=57) (l:=xv) (by have:=HJ.out.o.2.2.1;simp;omega)
      rw [this.1,this.2];exact h
     go_upto_region 10 with fail
     obtain⟨m1,m2,m3,m4⟩:=K1.out _ ⟨f1,f2,f3,f4⟩
     obtain⟨m5,m6⟩:=K3.out _ ⟨r1,r2⟩
     have HT:=Lib.hid (HJ.out.step hlt HS0.out.1 HS0.out.2 (inRow_ok (n:=n) HOK.out.1 k) rw0_ok HR3.out (rowX_nil _ _ rw0 rfl))
     rw [rw0_vals,←HXV.out] at HT
     go_region_law (first | fail)
     all_goals go_wp2_with fail
     all_goals exact⟨⟨k+1,by omega,by go_num,HT.out.drewN (q+1)⟩,by simp [intOf];omega⟩
    ·have b1:((dd:Int)==1)=false:=by simp;omega
     have HS0:Hid (inRow n far k=sideM n me way near far 0 k∧inRow n near k=sideM n me way near far 1 k):=Lib.hid (by have h:=HDD.out;unfold sideM;rw [←h];simp [hd0,hd1])
     clear hd0 hd1
     go_wp2_with fail
     refine HD.out.mono ?_
     rintro e wd ⟨rfl,q,rfl⟩
     go_wp2_with fail
     exact⟨⟨k+1,by omega,by go_num,(HJ.out.drewN q).skip HS0.out.1 HS0.out.2⟩,by simp [intOf];omega⟩
  ·obtain rfl:k=n:=by omega
   have HE:=Lib.hid HJ.out
   obtain⟨-,-,g3,g4,g5⟩:=HJ.out.s.rules (l:=[.slice (some ⟨gt,0,none⟩) k k,.slice (some ⟨gn,0,none⟩) k k])
   have f1:=g3 0 2
   have f2:=g4 0 2 (by simp)
   have f3:=g5 0 2
   simp at f1 f2 f3
   clear g3 g4 g5
   have hb:Blk (putRow wr ⟨w.heap.size+1+1,0,none⟩ [.slice (some ⟨gt,0,none⟩) k k,.slice (some ⟨gn,0,none⟩) k k]) (w.heap.size+1+1) 360 [.slice (some ⟨gt,0,none⟩) k k,.slice (some ⟨gn,0,none⟩) k k].toArray:=HJ.out.s.put_all (z:=[.slice (some ⟨gt,0,none⟩) k k,.slice (some ⟨gn,0,none⟩) k k]) rfl
   have HB:=Lib.hid hb
   clear hb
   go_wp2_with fail
   try simp only [Exit.inBlock,Exit.then]
   obtain⟨q1,q2,-⟩:=HB.out.whole (n:=2) rfl
   first | refine bodyPost_ret (ret_row (n:=2) rfl (by kernel_rfl) _ _ _ rfl ?_) rfl ?_ | refine bodyPost_end (ret_row (n:=2) rfl (by kernel_rfl) _ _ _ rfl ?_) rfl ?_
   ·exact q1
   ·rw [q2]
    obtain⟨o1,o2,o3,o4,o5,o6⟩:=HE.out.o
    have hc:=(Chg.refl (· =w.heap.size+1+1) wr).put (p:=⟨w.heap.size+1+1,0,none⟩) (.inl rfl) [.slice (some ⟨gt,0,none⟩) k k,.slice (some ⟨gn,0,none⟩) k k]
    have t1:=(HE.out.t.chg hc o4 (fun b _ h e=>h.2.2.2 e)).mono (S':=fun b=>w.heap.size≤b∧b≠gt∧b≠gn) (fun b _ h=>⟨h.1,h.2.1,h.2.2.1⟩)
    have t2:=(HE.out.r.chg hc o5 (fun b _ h e=>h.2.2.2 e)).mono (S':=fun b=>w.heap.size≤b∧b≠gt∧b≠gn) (fun b _ h=>⟨h.1,h.2.1,h.2.2.1⟩)
    rw [tab_congr (g:=sideM k me way near far 0) (fun j hj=>by rw [if_pos hj])] at t1
    rw [tab_congr (g:=sideM k me way near far 1) (fun j hj=>by rw [if_pos hj])] at t2
    exact⟨gt,gn,rfl,o1,o2,o3,t1,t2,Below.put HE.out.bel (p:=⟨w.heap.size+1+1,0,none⟩) o6 _⟩
def restO (l:List Rw) (k:Nat):List (Rw×Rw):=((List.range l.length).drop k).flatMap (prsAt l)
def restN (l:List Rw) (k:Nat) (r:Rw) (m:Nat):List (Rw×Rw):=((l.take k).drop m).map (fun o=>(r,o))++restO l (k+1)
theorem restO_step {l:List Rw} {k:Nat} {r:Rw} (hr:l[k]? =some r):restO l k=restN l k r 0:=by
 have hk:=(List.getElem?_eq_some_iff.1 hr).1
 unfold restO restN
 rw [List.drop_eq_getElem_cons (by simpa using hk),List.flatMap_cons]
 have e:l.getD k rw0=r:=by rw [List.getD_eq_getElem?_getD,hr];rfl
 have e0:prsAt l k=(l.take k).map (fun o=>(r,o)):=by unfold prsAt;rw [e]
 rw [List.getElem_range,e0,List.drop_zero];rfl
theorem restN_step {l:List Rw} {k m:Nat} {r o:Rw} (hm:m<k) (hk:k≤l.length) (ho:l[m]? =some o):restN l k r m=(r,o) :: restN l k r (m+1):=by
 unfold restN
 have hl:m<(l.take k).length:=by rw [List.length_take];omega
 have e:(l.take k)[m]=o:=by
  rw [List.getElem_take]
  exact Option.some.inj ((List.getElem?_eq_getElem (by omega)).symm.trans ho)
 rw [List.drop_eq_getElem_cons hl,e];rfl
theorem restN_end (l:List Rw) (k:Nat) (r:Rw):restN l k r k=restO l (k+1):=by
 unfold restN
 rw [List.drop_eq_nil_of_le (by rw [List.length_take];omega)];rfl
theorem restO_end (l:List Rw):restO l l.length=[]:=by
 unfold restO
 rw [List.drop_eq_nil_of_le (by simp)];rfl
structure CertO (S:Nat→Prop) (w:World) (l:List Rw) (k:Nat) (out:Rw) (tv:Value) (wr:World):Prop where
 b:Blk wr w.heap.size 134 (out.vals tv).toArray
 t:RowR S wr out tv
 bel:Below w.heap.size w wr
 ok:out.ok
 c:certM l=certF (restO l k) out
structure CertN (S:Nat→Prop) (w:World) (l:List Rw) (k m rb:Nat) (r:Rw) (tvr:Value) (out:Rw) (tv:Value) (wr:World):Prop where
 b:Blk wr w.heap.size 134 (out.vals tv).toArray
 t:RowR S wr out tv
 br:Blk wr rb 134 (r.vals tvr).toArray
 tr:RowR S wr r tvr
 bel:Below w.heap.size w wr
 ok:out.ok
 c:certM l=certF (restN l k r m) out
theorem CertN.below {S:Nat→Prop} {w:World} {l:List Rw} {k m rb:Nat} {r:Rw} {tvr:Value} {out:Rw} {tv:Value} {wr w':World} (h:CertN S w l k m rb r tvr out tv wr) (hb:Below wr.heap.size wr w'):CertN S w l k m rb r tvr out tv w':=
 ⟨h.b.below hb h.b.lt,h.t.below hb,h.br.below hb h.br.lt,h.tr.below hb,h.bel.trans (hb.mono h.bel.size),h.ok,h.c⟩
theorem CertN.skip {S:Nat→Prop} {w:World} {l:List Rw} {k m rb:Nat} {r o:Rw} {tvr:Value} {out:Rw} {tv:Value} {wr:World} (h:CertN S w l k m rb r tvr out tv wr) (hm:m<k) (hk:k≤l.length) (ho:l[m]? =some o) (hne:¬(r.is=true∧r=o)) :
 CertN S w l k (m+1) rb r tvr out tv wr:=⟨h.b,h.t,h.br,h.tr,h.bel,h.ok,by rw [h.c,restN_step hm hk ho,certF,if_neg hne]⟩
theorem CertN.take {S:Nat→Prop} {w:World} {l:List Rw} {k m rb:Nat} {r o:Rw} {tvr:Value} {out:Rw} {tv:Value} {wr:World} (h:CertN S w l k m rb r tvr out tv wr) (hm:m<k) (hk:k≤l.length) (ho:l[m]? =some o) (he:r.is=true∧r=o) (hn:¬(out.is=true∧out≠r))
 (hS:∀b,S b→b<w.heap.size) (hr:r.ok) (hne:rb≠w.heap.size):CertN S w l k (m+1) rb r tvr r tvr (putRow wr ⟨w.heap.size,0,none⟩ (r.vals tvr)):=by
 have hc:=(Chg.refl (· =w.heap.size) wr).put (p:=⟨w.heap.size,0,none⟩) (.inl rfl) (r.vals tvr)
 have hbl:=h.b.put_all (l:=r.vals tvr) (by rw [Rw.len h.ok,Rw.len hr])
 have ht:=h.tr.keep hc.size (fun b hb hl=>hc.block b hl (fun e=>by have:=hS b hb;omega))
 exact⟨hbl,ht,h.br.chg hc hne,ht,Below.put h.bel (p:=⟨w.heap.size,0,none⟩) (Nat.le_refl _) _,hr,by rw [h.c,restN_step hm hk ho,certF,if_pos he,if_neg hn]⟩
theorem CertN.two {S:Nat→Prop} {w:World} {l:List Rw} {k m rb:Nat} {r o:Rw} {tvr:Value} {out:Rw} {tv:Value} {wr:World} (h:CertN S w l k m rb r tvr out tv wr) (hm:m<k) (hk:k≤l.length) (ho:l[m]? =some o) (he:r.is=true∧r=o) (hn:out.is=true∧out≠r):certM l=rw0:=by
 rw [h.c,restN_step hm hk ho,certF,if_pos he,if_pos hn]
def CertPost (S:Nat→Prop) (r:Rw) (w:World) (e:Ending) (w':World):Prop:=∃tv,e=.returned (.agg (r.vals tv).toArray)∧RowR S w' r tv∧Below w.heap.size w w'
open Classical in
set_option maxRecDepth 100000 in
set_option maxHeartbeats 2000000 in
theorem certified_any (S:Nat→Prop) (a:Option Addr) (len cap:Nat) (l:List Rw) (w:World) (hrd:RdRs S w a len l) (hm1:len≤cap) (hm2:cap≤maxLen) (hS:∀b,S b→b<w.heap.size) :
 Calls Tryz.prog 187 #[.slice a len cap] w (CertPost S (certM l) w):=by
 obtain⟨M,hM⟩:∃M,M=certM l:=⟨_,rfl⟩
 rw [←hM]
 have HM:=Lib.hid hM
 have HLL:=Lib.hid hrd.1
 have HR:=Lib.hid hrd
 have HS:=Lib.hid hS
 clear hrd hM hS
 unfold maxLen at hm2
 go_enter Tryz.func187,Tryz.ntmps187
 have HI:Hid (CertO S w l 0 rw0 (.slice none 0 0) (w.alloc (.cells rowZ.toArray 134))):=Lib.hid ⟨by rw [rw0_vals];exact Blk.new _ _ _,rowR_nil _ _ _ rfl,(Below.refl _ _).alloc (Nat.le_refl _) _,rw0_ok,rfl⟩
 go_wp2_with fail
 go_loopw [9] (fun i wr=> ∃(k:Nat) (out:Rw) (tv:Value),k≤len∧i=.int .i64 k∧CertO S w l k out tv wr) (fun i _=>len - (intOf i).toNat)
 case atStart=>exact⟨0,_,_,by omega,rfl,HI.out⟩
 case round=>
  obtain⟨k,out,tv,hk,rfl,hI⟩:=hrel
  have HJ:=Lib.hid hI
  clear hI
  by_cases hlt:k<len
  ·obtain⟨b,off,x,m,cp,r,rfl,-,hbw,hl,hok,-,-,g1,g2,-,-,g5,g6,g7⟩:=(HR.out.below HJ.out.bel (fun _ _ h=>h)).at_ k hlt
   have HX:=Lib.hid (And.intro hl (And.intro hok (And.intro g5 (And.intro g6 g7))))
   obtain⟨xv,hxv⟩:∃xv,xv=r.vals (.slice x m cp):=⟨_,rfl⟩
   have g3:rowOf wr ⟨b,off+k*57,none⟩ 57=xv:=by rw [hxv];exact g2
   have hvl:=Rw.len hok (.slice x m cp)
   have hvc:=RowR.cell1 (S:=S) (w:=wr) ⟨x,m,cp,rfl,g5,g6,g7⟩ hok
   rw [←hxv] at hvl hvc
   have HXV:=Lib.hid hxv
   clear hl hok g2 g5 g6 g7 hxv
   obtain⟨wo,rfl⟩:∃wo:World,wo=wr:=⟨_,rfl⟩
   have HN:Hid (CertN S w l k 0 wo.heap.size r (.slice x m cp) out tv (wo.alloc (.cells xv.toArray 134))):=Lib.hid (by
    obtain⟨h1,h2,h3,h4,h5⟩:=HJ.out
    obtain⟨y1,y2,y3,y4,y5⟩:=HX.out
    refine⟨h1.alloc _,h2.below ((Below.refl _ _).alloc (Nat.le_refl _) _),?_,⟨x,m,cp,rfl,y3.below ((Below.refl wo.heap.size _).alloc (Nat.le_refl _) _) (fun _ _ h=>h),y4,y5⟩,h3.alloc h3.size _,h4,by rw [h5,restO_step y1]⟩
    rw [HXV.out];exact Blk.new _ _ _)
   have hbwo:b<wo.heap.size+1:=by omega
   go_wp2_with fail
   generalize (wo.alloc (.cells xv.toArray 134))=w5 at HN ⊢
   clear g1 g3 hvl hvc
   go_loopw [18] (fun i wr=> ∃(j:Nat) (out:Rw) (tv:Value),j≤k∧i=.int .i64 j∧CertN S w l k j wo.heap.size r (.slice x m cp) out tv wr) (fun i _=>k - (intOf i).toNat)
   case atStart=>exact⟨0,_,_,by omega,rfl,HN.out⟩
   case round=>
    obtain⟨j,out,tv,hj,rfl,hI⟩:=hrel
    have HN:=Lib.hid hI
    clear hI
    by_cases hjk:j<k
    ·obtain⟨b2,off2,x2,m2,cp2,o,heq,-,hbw2,hl2,hok2,-,-,g1,g2,-,-,g5,g6,g7⟩:=(HR.out.below HN.out.bel (fun _ _ h=>h)).at_ j (by omega)
     cases heq
     have HX2:=Lib.hid (And.intro hl2 (And.intro hok2 (And.intro g5 (And.intro g6 g7))))
     obtain⟨ov,hov⟩:∃ov,ov=o.vals (.slice x2 m2 cp2):=⟨_,rfl⟩
     have g3:rowOf wr ⟨b,off+j*57,none⟩ 57=ov:=by rw [hov];exact g2
     have hvl:=Rw.len hok2 (.slice x2 m2 cp2)
     have hvc:=RowR.cell1 (S:=S) (w:=wr) ⟨x2,m2,cp2,rfl,g5,g6,g7⟩ hok2
     rw [←hov] at hvl hvc
     have HOV:=Lib.hid hov
     clear hl2 hok2 g2 g5 g6 g7 hov
     have HLE:Hid (k≤l.length):=Lib.hid (by rw [HLL.out];omega)
     have H6:Hid (CertN S w l k j wo.heap.size r (.slice x m cp) out tv (wr.alloc (.cells ov.toArray 134))∧Blk (wr.alloc (.cells ov.toArray 134)) wr.heap.size 134 ov.toArray∧RowR S (wr.alloc (.cells ov.toArray 134)) o (.slice x2 m2 cp2)):=Lib.hid (by
      obtain⟨y1,y2,y3,y4,y5⟩:=HX2.out
      have hba:=(Below.refl wr.heap.size wr).alloc (Nat.le_refl _) (.cells ov.toArray 134)
      exact⟨HN.out.below hba,Blk.new _ _ _,⟨x2,m2,cp2,rfl,y3.below hba (fun _ _ h=>h),y4,y5⟩⟩)
     have hob:wr.heap.size≠w.heap.size:=by have:=HN.out.b.lt;omega
     have hrb:Hid (wo.heap.size≠w.heap.size):=Lib.hid (by have:=HJ.out.b.lt;omega)
     go_upto_block 4 with fail
     obtain⟨ob,hobe⟩:∃ob,ob=wr.heap.size:=⟨_,rfl⟩
     rw [←hobe] at H6 hob ⊢
     clear hobe g1 g3 hvl hvc
     generalize wr.alloc (.cells ov.toArray 134)=w6 at H6 ⊢
     have hrok:=HX.out.2.1
     obtain⟨p0,-,-,-,p1,p2,-⟩:=blk_row H6.out.1.br hrok
     have q1:=H6.out.2.1.whole (n:=57) (by rw [HOV.out];exact Rw.len HX2.out.2.1 _)
     obtain⟨q1,q2,-⟩:=q1
     rw [←HXV.out] at p2
     have HRO:=Lib.hid hrok
     clear hrok hob
     cases his:r.is with
     | false=>
       rw [his] at p0
       have HEND:=Lib.hid (H6.out.1.skip hjk HLE.out HX2.out.1 (by rw [his];rintro⟨h,-⟩;cases h))
       clear his
       go_wp2_with fail
       exact⟨⟨j+1,_,_,by omega,by go_num,HEND.out⟩,by simp [intOf];omega⟩
     | true=>
       rw [his] at p0
       have HIS:=Lib.hid his
       clear his
       have HC:=Lib.hid (same_any S S r o HRO.out HX2.out.2.1 (.slice x m cp) (.slice x2 m2 cp2) w6 H6.out.1.tr H6.out.2.2)
       rw [←HXV.out,←HOV.out] at HC
       by_cases hro:r=o
       ·have HE:Hid (decide (r=o)=true):=Lib.hid (by simpa using hro)
        rw [HE.out] at HC
        have HRO2:=Lib.hid hro
        clear hro
        go_upto_block 4 with fail
        go_wp2_with fail
        refine HC.out.mono ?_
        rintro e w7 ⟨rfl,hb7⟩
        have H7:=Lib.hid (H6.out.1.below hb7)
        clear hb7
        obtain⟨b0,-,-,-,b1,b2,-⟩:=blk_row H7.out.b H7.out.ok
        have c3:canPut w7 ⟨w.heap.size,0,none⟩ 57=true:=(H7.out.b.whole (Rw.len H7.out.ok tv)).2.2
        obtain⟨-,-,-,-,p3,p4,-⟩:=blk_row H7.out.br HRO.out
        rw [←HXV.out] at p4
        have hvl:xv.length=57:=by rw [HXV.out];exact Rw.len HRO.out _
        have hvc:xv.all cell1=true:=by rw [HXV.out];exact H7.out.tr.cell1 HRO.out
        cases hos:out.is with
        | false=>
          rw [hos] at b0
          have HEND:=Lib.hid (H7.out.take hjk HLE.out HX2.out.1 ⟨HIS.out,HRO2.out⟩ (by rw [hos];rintro⟨h,-⟩;cases h) HS.out HRO.out hrb.out)
          rw [←HXV.out] at HEND
          clear hos
          go_wp2_with fail
          exact⟨⟨j+1,_,_,by omega,by go_num,HEND.out⟩,by simp [intOf];omega⟩
        | true=>
          rw [hos] at b0
          have HOS:=Lib.hid hos
          clear hos
          have HC2:=Lib.hid (same_any S S out r H7.out.ok HRO.out tv (.slice x m cp) w7 H7.out.t H7.out.tr)
          obtain⟨zv,hzv⟩:∃zv,zv=out.vals tv:=⟨_,rfl⟩
          rw [←HXV.out,←hzv] at HC2
          rw [←hzv] at b2
          have HZV:=Lib.hid hzv
          clear hzv
          by_cases hor:out=r
          ·have HE2:Hid (decide (out=r)=true):=Lib.hid (by simpa using hor)
           rw [HE2.out] at HC2
           have HOR:=Lib.hid hor
           clear hor
           go_wp2_with fail
           refine HC2.out.mono ?_
           rintro e w8 ⟨rfl,hb8⟩
           have H8:=Lib.hid (H7.out.below hb8)
           clear hb8
           have c3:canPut w8 ⟨w.heap.size,0,none⟩ 57=true:=(H8.out.b.whole (Rw.len H8.out.ok tv)).2.2
           obtain⟨-,-,-,-,p3,p4,-⟩:=blk_row H8.out.br HRO.out
           rw [←HXV.out] at p4
           have HEND:=Lib.hid (H8.out.take hjk HLE.out HX2.out.1 ⟨HIS.out,HRO2.out⟩ (by rw [HOR.out];rintro⟨-,h⟩;exact h rfl) HS.out HRO.out hrb.out)
           rw [←HXV.out] at HEND
           go_wp2_with fail
           exact⟨⟨j+1,_,_,by omega,by go_num,HEND.out⟩,by simp [intOf];omega⟩
          ·have HE2:Hid (decide (out=r)=false):=Lib.hid (by simpa using hor)
           rw [HE2.out] at HC2
           have HOR:=Lib.hid hor
           clear hor
           go_wp2_with fail
           refine HC2.out.mono ?_
           rintro e w8 ⟨rfl,hb8⟩
           have H8:=Lib.hid (H7.out.below hb8)
           clear hb8
           have c3:canPut w8 ⟨w.heap.size,0,none⟩ 57=true:=(H8.out.b.whole (Rw.len H8.out.ok tv)).2.2
           have HMZ:Hid (M=rw0):=Lib.hid (by rw [HM.out];exact H8.out.two hjk HLE.out HX2.out.1 ⟨HIS.out,HRO2.out⟩ ⟨HOS.out,HOR.out⟩)
           have HBK:Hid (Blk (putRow w8 ⟨w.heap.size,0,none⟩ rowZ) w.heap.size 134 rowZ.toArray):=Lib.hid (H8.out.b.put_all (by rw [Rw.len H8.out.ok];exact len_rowZ.symm))
           have HBB:=Lib.hid (Below.put H8.out.bel (p:=⟨w.heap.size,0,none⟩) (Nat.le_refl _) rowZ)
           go_wp2_with fail
           try simp only [Exit.inBlock,Exit.then]
           obtain⟨q1,q2,-⟩:=HBK.out.whole (n:=57) len_rowZ
           first | refine bodyPost_ret (ret_row (n:=57) rfl (by kernel_rfl) _ _ _ rfl ?_) rfl ?_ | refine bodyPost_end (ret_row (n:=57) rfl (by kernel_rfl) _ _ _ rfl ?_) rfl ?_
           ·exact q1
           ·rw [q2,HMZ.out]
            exact⟨.slice none 0 0,by rw [rw0_vals],rowR_nil _ _ _ rfl,HBB.out⟩
       ·have HE:Hid (decide (r=o)=false):=Lib.hid (by simpa using hro)
        rw [HE.out] at HC
        have HEND:=Lib.hid (H6.out.1.skip hjk HLE.out HX2.out.1 (by rintro⟨-,h⟩;exact hro h))
        clear hro
        go_wp2_with fail
        refine HC.out.mono ?_
        rintro e w7 ⟨rfl,hb7⟩
        have HEND2:=Lib.hid (HEND.out.below hb7)
        clear hb7
        go_wp2_with fail
        exact⟨⟨j+1,_,_,by omega,by go_num,HEND2.out⟩,by simp [intOf];omega⟩
    ·obtain rfl:j=k:=by omega
     have HEND:Hid (CertO S w l (j+1) out tv wr):=Lib.hid ⟨HN.out.b,HN.out.t,HN.out.bel,HN.out.ok,by rw [HN.out.c,restN_end]⟩
     go_wp2_with fail
     exact⟨⟨j+1,_,_,by omega,by go_num,HEND.out⟩,by simp [intOf];omega⟩
  ·obtain rfl:k=len:=by omega
   obtain⟨-,-,-,-,p1,p2,-⟩:=blk_row HJ.out.b HJ.out.ok
   have c3:canPut wr ⟨w.heap.size,0,none⟩ 57=true:=(HJ.out.b.whole (Rw.len HJ.out.ok tv)).2.2
   obtain⟨zv,hzv⟩:∃zv,zv=out.vals tv:=⟨_,rfl⟩
   have hvl:zv.length=57:=by rw [hzv];exact Rw.len HJ.out.ok _
   have hvc:zv.all cell1=true:=by rw [hzv];exact HJ.out.t.cell1 HJ.out.ok
   rw [←hzv] at p2
   have HZV:=Lib.hid hzv
   have HMZ:Hid (M=out):=Lib.hid (by rw [HM.out,HJ.out.c,←HLL.out,restO_end];rfl)
   have HBK:Hid (Blk (putRow wr ⟨w.heap.size,0,none⟩ zv) w.heap.size 134 zv.toArray):=Lib.hid (by rw [hzv];exact HJ.out.b.put_all rfl)
   have HBB:=Lib.hid (Below.put HJ.out.bel (p:=⟨w.heap.size,0,none⟩) (Nat.le_refl _) zv)
   have HTT:Hid (RowR S (putRow wr ⟨w.heap.size,0,none⟩ zv) out tv):=Lib.hid (by
    have hc:=(Chg.refl (· =w.heap.size) wr).put (p:=⟨w.heap.size,0,none⟩) (.inl rfl) zv
    exact HJ.out.t.keep hc.size (fun b hb hl=>hc.block b hl (fun e=>by have:=HS.out b hb;omega)))
   clear hzv
   go_wp2_with fail
   try simp only [Exit.inBlock,Exit.then]
   obtain⟨q1,q2,-⟩:=HBK.out.whole (n:=57) hvl
   first | refine bodyPost_ret (ret_row (n:=57) rfl (by kernel_rfl) _ _ _ rfl ?_) rfl ?_ | refine bodyPost_end (ret_row (n:=57) rfl (by kernel_rfl) _ _ _ rfl ?_) rfl ?_
   ·exact q1
   ·rw [q2,HMZ.out,HZV.out]
    rw [HZV.out] at HTT HBB
    exact⟨tv,rfl,HTT.out,HBB.out⟩
end Go.Proofs.YtdilbjikeilhbaaGreatDoor
