import Derived.Test.YtdilbjikeilhbaaGreatDoorGn09
namespace Go.Proofs.YtdilbjikeilhbaaGreatDoor
open Go.RowKit
set_option linter.unusedVariables false
set_option linter.unusedSimpArgs false
theorem built_mom0 (parts:List (Nat×Value)):Tryz.prog.built 363 parts=Instr.fill (fun i=>some (i*2,2)) [Value.slice none 0 0,.slice none 0 0,.slice none 0 0,.slice none 0 0].toArray parts:=by kernel_rfl
theorem built_mom (u v:Value) (hu:lenC u 2=true) (hv:lenC v 2=true):Tryz.prog.built 363 [(0,u),(1,v)]=some (cellsL u++cellsL v).toArray:=by
 have hu':(cellsL u).length=2:=by simpa [lenC] using hu
 have hv':(cellsL v).length=2:=by simpa [lenC] using hv
 rw [built_mom0,fill_one _ _ 0 0 2 u _ rfl hu' (by simp),fill_one _ _ 1 2 2 v _ rfl hv' (by rw [len_spl (by simp [hu'])];simp),fill_nil]
 have:=spl_two (z:=[Value.slice none 0 0,.slice none 0 0,.slice none 0 0,.slice none 0 0]) (a:=cellsL u) (b:=cellsL v) (by rw [hu',hv'];rfl)
 rw [hu'] at this
 rw [this]
@[go_sem ↓] theorem bd_mom (ρ:Operand→Value) (d:Option Tmp) (x y:Operand) (ty:TypeId) (s:String) (af:Array Edge) (g:Option (Nat×Bool)) (w:World) (h1:lenC (ρ x) 2=true) (h2:lenC (ρ y) 2=true) :
 (execOp ρ { dst:=d,op:=.build 363 #[(0,x),(1,y)],type:=ty,pos:=s,after:=af,guard:=g }).run Tryz.prog w=.ok (.value (.agg (cellsL (ρ x)++cellsL (ρ y)).toArray)) w:=
 exec_build ρ d #[(0,x),(1,y)] ty s af g w (by simp only [List.map_toArray,List.map_cons,List.map_nil];exact built_mom _ _ h1 h2)
theorem canPut_block {w w':World} {p:Addr} {n:Nat} (h:w'.heap[p.block]? =w.heap[p.block]?):canPut w' p n=canPut w p n:=by unfold canPut;rw [h]
structure InsR (R:Nat→Prop) (w:World) (a:Nat→Option Addr) (ln cp:Nat→Nat) (ins:Nat→List Rw):Prop where
 rd:∀i,i<4→RdRs R w (a i) (ln i) (ins i)
 le:∀i,i<4→ln i≤cp i∧cp i≤maxLen
def insV (a:Nat→Option Addr) (ln cp:Nat→Nat) (i:Nat):Value:=.slice (a i) (ln i) (cp i)
def HearPost (S:Nat→Prop) (p gp:Nat) (L:LaneM) (ins:Nat→List Rw) (w:World) (e:Ending) (w':World):Prop:=
 ∃(m:Nat) (G':Nat→Nat) (g:Nat),w.heap.size≤m∧LaneAt (GrowS S w.heap.size m) w' p gp G' (L.put ins)∧e=.returned (.slice (some ⟨g,0,none⟩) L.n L.n)∧m≤g∧
  RowsB (fun b=>m≤b∧b≠g) w' g 134 (tab L.n (L.put ins).held)∧Chg (fun b=>b=p∨b=gp) w w'
structure Hear4 (w:World) (p gp:Nat) (L:LaneM) (ins:Nat→List Rw) (iv:List Value) (wx:World):Prop where
 b0:Blk wx w.heap.size 140 #[.pointer (some ⟨p,0,none⟩)]
 b1:Blk wx (w.heap.size+1) 269 iv.toArray
 b2:Blk wx (w.heap.size+1+1) 3 #[.int .i64 L.T]
 l:Blk wx p 327 (laneV (L.put ins) gp).toArray
 c:Chg (· =p) w wx
 sz:w.heap.size+1+1<wx.heap.size
theorem Hear4.drew {w:World} {p gp:Nat} {L:LaneM} {ins:Nat→List Rw} {iv:List Value} {wx:World} (h:Hear4 w p gp L ins iv wx):Hear4 w p gp L ins iv wx.drew:=⟨h.b0.drew,h.b1.drew,h.b2.drew,h.l.drew,h.c.drew,h.sz⟩
theorem hear4_of {S:Nat→Prop} {w:World} {p gp:Nat} {G:Nat→Nat} {L:LaneM} {ins:Nat→List Rw} (hL:LaneAt S w p gp G L) (iv:List Value) :
 Hear4 w p gp L ins iv (((((w.alloc (.cells #[Value.pointer (some ⟨p,0,none⟩)] 140)).alloc (.cells iv.toArray 269)).alloc (.cells #[Value.int .i64 L.T] 3)).setCell ⟨p,2,none⟩ (.int .i64 ((L.T:Int)+1))).setCell ⟨p,3,none⟩ (.bool true)):=by
 have hplt:=hL.b.lt
 have k0:=((Blk.new w 140 #[Value.pointer (some ⟨p,0,none⟩)]).alloc (.cells iv.toArray 269)).alloc (.cells #[Value.int .i64 L.T] 3)
 have k1:=(Blk.new (w.alloc (.cells #[Value.pointer (some ⟨p,0,none⟩)] 140)) 269 iv.toArray).alloc (.cells #[Value.int .i64 L.T] 3)
 have k2:=Blk.new ((w.alloc (.cells #[Value.pointer (some ⟨p,0,none⟩)] 140)).alloc (.cells iv.toArray 269)) 3 #[Value.int .i64 L.T]
 have s1:(w.alloc (.cells #[Value.pointer (some ⟨p,0,none⟩)] 140)).heap.size=w.heap.size+1:=by simp
 have s2:((w.alloc (.cells #[Value.pointer (some ⟨p,0,none⟩)] 140)).alloc (.cells iv.toArray 269)).heap.size=w.heap.size+1+1:=by simp
 rw [s1] at k1
 rw [s2] at k2
 have k3:=((hL.b.alloc (.cells #[Value.pointer (some ⟨p,0,none⟩)] 140)).alloc (.cells iv.toArray 269)).alloc (.cells #[Value.int .i64 L.T] 3)
 refine⟨(k0.far (by simp;omega) _).far (by simp;omega) _,(k1.far (by simp;omega) _).far (by simp;omega) _,(k2.far (by simp;omega) _).far (by simp;omega) _,?_,?_,by simp⟩
 ·have:=(k3.set_ 2 (.int .i64 ((L.T:Int)+1))).set_ 3 (.bool true)
  have e:((laneV L gp).toArray.setIfInBounds 2 (.int .i64 ((L.T:Int)+1))).setIfInBounds 3 (.bool true)=(laneV (L.put ins) gp).toArray:=by
   simp [laneV,LaneM.put]
  rw [e] at this
  exact this
 ·exact (((((Chg.refl (· =p) w).alloc _).alloc _).alloc _).setCell (p:=⟨p,2,none⟩) (.inl rfl) _).setCell (p:=⟨p,3,none⟩) (.inl rfl) _
theorem hear3_of {S:Nat→Prop} {w:World} {p gp:Nat} {G:Nat→Nat} {L:LaneM} (hL:LaneAt S w p gp G L) (iv:List Value) :
 Blk (((w.alloc (.cells #[Value.pointer (some ⟨p,0,none⟩)] 140)).alloc (.cells iv.toArray 269)).alloc (.cells #[Value.int .i64 L.T] 3)) p 327 (laneV L gp).toArray∧
 Blk (((w.alloc (.cells #[Value.pointer (some ⟨p,0,none⟩)] 140)).alloc (.cells iv.toArray 269)).alloc (.cells #[Value.int .i64 L.T] 3)) w.heap.size 140 #[Value.pointer (some ⟨p,0,none⟩)]∧
 Blk (((w.alloc (.cells #[Value.pointer (some ⟨p,0,none⟩)] 140)).alloc (.cells iv.toArray 269)).alloc (.cells #[Value.int .i64 L.T] 3)) (w.heap.size+1+1) 3 #[Value.int .i64 L.T]:=by
 have s2:((w.alloc (.cells #[Value.pointer (some ⟨p,0,none⟩)] 140)).alloc (.cells iv.toArray 269)).heap.size=w.heap.size+1+1:=by simp
 have k2:=Blk.new ((w.alloc (.cells #[Value.pointer (some ⟨p,0,none⟩)] 140)).alloc (.cells iv.toArray 269)) 3 #[Value.int .i64 L.T]
 rw [s2] at k2
 exact⟨((hL.b.alloc _).alloc _).alloc _,((Blk.new w 140 #[Value.pointer (some ⟨p,0,none⟩)]).alloc _).alloc _,k2⟩
structure HeldI (w7:World) (f:Nat→Rw) (n k:Nat) (wr:World):Prop where
 r:RowsB (w7.heap.size< ·) wr w7.heap.size 134 (tab n fun s=>if s<k then f s else rw0)
 bel:Below w7.heap.size w7 wr
theorem HeldI.drewN {w7:World} {f:Nat→Rw} {n k:Nat} {wr:World} (h:HeldI w7 f n k wr) (q:Nat):HeldI w7 f n k (wr.drewN q):=⟨h.r.drewN q,Below.drewN_ h.bel q⟩
theorem HeldI.skip {w7:World} {f:Nat→Rw} {n k:Nat} {wr:World} (h:HeldI w7 f n k wr) (hz:f k=rw0):HeldI w7 f n (k+1) wr:=⟨by
 have:=h.r
 rw [tab_congr (g:=fun s=>if s<k+1 then f s else rw0) (fun j _=>by
  by_cases hjk:j<k
  ·rw [if_pos hjk,if_pos (by omega)]
  ·by_cases e:j=k
   ·subst e;rw [if_neg hjk,if_pos (by omega),hz]
   ·rw [if_neg hjk,if_neg (by omega)])] at this
 exact this,h.bel⟩
theorem HeldI.step {w7:World} {f:Nat→Rw} {n k:Nat} {wr w9 w10:World} (h:HeldI w7 f n k wr) (h9:Below wr.heap.size wr w9) (h10:Below w9.heap.size w9 w10) (hk:k<n) (ho:(f k).ok) {tv:Value} (ht:RowX (w9.heap.size≤·) w10 (f k) tv) :
 canPut w10 ⟨w7.heap.size,k*57,none⟩ 57=true∧HeldI w7 f n (k+1) (putRow w10 ⟨w7.heap.size,k*57,none⟩ ((f k).vals tv)):=by
 have hg:=h.r.lt
 have hz:=h9.size
 have hB:Below wr.heap.size wr w10:=h9.trans (h10.mono hz)
 have hr:=h.r.keep hB.size (fun b _ hl=>hB.block b hl)
 refine⟨hr.canPut k (by rw [tab_len];exact hk),?_,Below.put (h.bel.trans (hB.mono h.bel.size)) (p:=⟨w7.heap.size,k*57,none⟩) (Nat.le_refl _) _⟩
 have h1:=hr.set (fun b hb=>by omega) (k:=k) (by rw [tab_len];exact hk) ho (ht.mono (S':=(w7.heap.size< ·)) (fun b _ hb=>by omega))
 rw [tab_put (g:=fun s=>if s<k+1 then f s else rw0) hk (by rw [if_pos (by omega)]) (fun j hj hne=>by
  by_cases hjk:j<k
  ·rw [if_pos hjk,if_pos (by omega)]
  ·rw [if_neg hjk,if_neg (by omega)])] at h1
 exact h1
theorem held_zero (f:Nat→Rw) {n:Nat}:List.replicate n rw0=tab n fun s=>if s<0 then f s else rw0:=tab_ext (by simp) fun k hk=>by rw [if_neg (by omega)];simp [hk]
set_option maxRecDepth 100000 in
set_option maxHeartbeats 4000000 in
theorem hear_any (S R:Nat→Prop) (p gp:Nat) (G:Nat→Nat) (L:LaneM) (a:Nat→Option Addr) (ln cp:Nat→Nat) (ins:Nat→List Rw) (w:World) (hL:LaneAt S w p gp G L) (hI:InsR R w a ln cp ins) (hR:∀b,R b→b≠p∧b≠gp) (hT:L.T≤100000000) (hins:∀i,∀r ∈ ins i,r.ok) :
 Calls Tryz.prog 100 #[.pointer (some ⟨p,0,none⟩),.agg #[insV a ln cp 0,insV a ln cp 1,insV a ln cp 2,insV a ln cp 3]] w (HearPost S p gp L ins w):=by
 have HL:=Lib.hid hL
 have HI:=Lib.hid hI
 have HR:=Lib.hid hR
 have HO:=Lib.hid hins
 obtain⟨c0,c1,c2,c3,c4⟩:=hL.cells
 obtain⟨h4,h16,hm⟩:=hL.bd
 have hplt:=hL.b.lt
 obtain⟨i0,hi0⟩:∃i0,i0=insV a ln cp 0:=⟨_,rfl⟩
 obtain⟨i1,hi1⟩:∃i1,i1=insV a ln cp 1:=⟨_,rfl⟩
 obtain⟨i2,hi2⟩:∃i2,i2=insV a ln cp 2:=⟨_,rfl⟩
 obtain⟨i3,hi3⟩:∃i3,i3=insV a ln cp 3:=⟨_,rfl⟩
 rw [←hi0,←hi1,←hi2,←hi3]
 have HV:=Lib.hid (And.intro hi0 (And.intro hi1 (And.intro hi2 hi3)))
 have hn0:¬((L.n:Int)=0):=by omega
 have hn0b:((L.n:Int)==0)=false:=by simp;omega
 have HE4:Hid (Hear4 w p gp L ins [i0,i1,i2,i3] (((((w.alloc (.cells #[Value.pointer (some ⟨p,0,none⟩)] 140)).alloc (.cells #[i0,i1,i2,i3] 269)).alloc (.cells #[Value.int .i64 L.T] 3)).setCell ⟨p,2,none⟩ (.int .i64 ((L.T:Int)+1))).setCell ⟨p,3,none⟩ (.bool true))):=Lib.hid (hear4_of hL [i0,i1,i2,i3])
 have F3:Hid (Blk (((w.alloc (.cells #[Value.pointer (some ⟨p,0,none⟩)] 140)).alloc (.cells #[i0,i1,i2,i3] 269)).alloc (.cells #[Value.int .i64 L.T] 3)) p 327 (laneV L gp).toArray∧Blk (((w.alloc (.cells #[Value.pointer (some ⟨p,0,none⟩)] 140)).alloc (.cells #[i0,i1,i2,i3] 269)).alloc (.cells #[Value.int .i64 L.T] 3)) w.heap.size 140 #[Value.pointer (some ⟨p,0,none⟩)]∧Blk (((w.alloc (.cells #[Value.pointer (some ⟨p,0,none⟩)] 140)).alloc (.cells #[i0,i1,i2,i3] 269)).alloc (.cells #[Value.int .i64 L.T] 3)) (w.heap.size+1+1) 3 #[Value.int .i64 L.T]):=Lib.hid (hear3_of hL [i0,i1,i2,i3])
 have wT:IntKind.i64.wrap ((L.T:Int)+1)=(L.T:Int)+1:=IntWalk.i64_in _ (by omega)
 clear hL hI hR hins hi0 hi1 hi2 hi3
 go_enter Tryz.func100,Tryz.ntmps100
 go_upto_region 4 with fail
 generalize (((w.alloc (.cells #[Value.pointer (some ⟨p,0,none⟩)] 140)).alloc (.cells #[i0,i1,i2,i3] 269)).alloc (.cells #[Value.int .i64 L.T] 3))=w3 at HE4 F3 ⊢
 obtain⟨q3,-⟩:=F3.out.1.rules
 have d2:w3.cell? ⟨p,2,none⟩=some (.int .i64 L.T):=by rw [q3];rfl
 have d3:w3.cell? ⟨p,3,none⟩=some (.bool L.b):=by rw [q3];rfl
 have z2:=F3.out.1.frozen 2
 have z3:=F3.out.1.frozen 3
 have b0:=F3.out.2.1.cell 0
 have b2:=F3.out.2.2.cell 0
 simp at b0 b2
 clear q3 c0 c1 c2 c3 c4
 go_cut [] from 22 to 29 (fun wx=> ∃wc:World,wc=wx∧Hear4 w p gp L ins [i0,i1,i2,i3] wc)
 case first=>
  go_region_law (first | fail)
  all_goals go_wp2_with fail
  all_goals go_meet
  all_goals first | exact⟨_,rfl,HE4.out⟩ | exact⟨_,rfl,HE4.out.drew⟩
 case rest=>
  obtain⟨w4,rfl,h4c⟩:=hcut
  have H4:=Lib.hid h4c
  clear h4c HE4 F3 d2 d3 z2 z3 b0 b2
  obtain⟨j,hj⟩:∃j,j=slotM L:=⟨_,rfl⟩
  have hjn:j<L.n+1:=by rw [hj];exact Nat.mod_lt _ (by omega)
  have e1:(L.T:Int).tmod (L.n+1)=(j:Int):=by rw [hj,Int.tmod_eq_emod_of_nonneg (by omega)];unfold slotM;norm_cast
  have e2:(L.T:Int) % (L.n+1)=(j:Int):=by rw [hj];unfold slotM;norm_cast
  have HJ:=Lib.hid hj
  clear hj
  have hpg:Hid (p≠gp∧p<w.heap.size∧gp<w.heap.size):=Lib.hid ⟨HL.out.ne.1,HL.out.b.lt,HL.out.g.lt⟩
  have hg4:Hid (Blk w4 gp 363 (momCells L.n L.T G).toArray):=Lib.hid (HL.out.g.chg H4.out.c (fun e=>hpg.out.1 e.symm))
  have F:Hid (∀w':World,Chg (· =gp) w4 w'→canPut w' ⟨gp,j*4,none⟩ 4=true→(w'.cell? ⟨w.heap.size,0,none⟩=some (.pointer (some ⟨p,0,none⟩))∧w'.cell? ⟨p,0,none⟩=some (.int .i64 L.n)∧w'.cell? ⟨p,4,none⟩=some (.slice (some ⟨gp,0,none⟩) (L.n+1) (L.n+1))∧w'.cell? ⟨w.heap.size+1+1,0,none⟩=some (.int .i64 L.T)∧w'.cell? ⟨w.heap.size+1,0,none⟩=some i0∧w'.cell? ⟨w.heap.size+1,1,none⟩=some i1∧w'.cell? ⟨w.heap.size+1,2,none⟩=some i2∧w'.cell? ⟨w.heap.size+1,3,none⟩=some i3∧canPut w' ⟨gp,j*4,none⟩ 4=true∧Chg (· =gp) w4 w')):=Lib.hid fun w' hc hp=>by
   obtain⟨x1,x2,x3⟩:=hpg.out
   have hsz:=H4.out.sz
   have k0:=(H4.out.b0.chg hc (by omega)).cell 0
   have k2:=(H4.out.b2.chg hc (by omega)).cell 0
   obtain⟨k1,-⟩:=(H4.out.b1.chg hc (by omega)).rules
   obtain⟨kl,-⟩:=(H4.out.l.chg hc x1).rules
   simp at k0 k2
   exact⟨k0,by rw [kl];rfl,by rw [kl];rfl,k2,by rw [k1];rfl,by rw [k1];rfl,by rw [k1];rfl,by rw [k1];rfl,hp,hc⟩
  have FA:Hid (∀w':World,(w'.cell? ⟨w.heap.size,0,none⟩=some (.pointer (some ⟨p,0,none⟩))∧w'.cell? ⟨p,0,none⟩=some (.int .i64 L.n)∧w'.cell? ⟨p,4,none⟩=some (.slice (some ⟨gp,0,none⟩) (L.n+1) (L.n+1))∧w'.cell? ⟨w.heap.size+1+1,0,none⟩=some (.int .i64 L.T)∧w'.cell? ⟨w.heap.size+1,0,none⟩=some i0∧w'.cell? ⟨w.heap.size+1,1,none⟩=some i1∧w'.cell? ⟨w.heap.size+1,2,none⟩=some i2∧w'.cell? ⟨w.heap.size+1,3,none⟩=some i3∧canPut w' ⟨gp,j*4,none⟩ 4=true∧Chg (· =gp) w4 w')→Calls Tryz.prog 141 #[.pointer (some ⟨p,0,none⟩),.int .i64 0,.agg #[i0],.agg #[i1]] w' (SidePost L.n L.me 0 (ins 0) (ins 1) w')):=Lib.hid fun w' ⟨s1,s2,s3,s4,s5,s6,s7,s8,s9,hc⟩=>by
   obtain⟨x1,x2,x3⟩:=hpg.out
   obtain⟨kl,-⟩:=(H4.out.l.chg hc x1).rules
   obtain⟨y0,y1,y2,y3⟩:=HV.out
   have hRd:∀i,i<4→RdRs R w' (a i) (ln i) (ins i):=fun i hi=>((HI.out.rd i hi).chg H4.out.c (fun b _ hb=>(HR.out b hb).1)).chg hc (fun b _ hb=>(HR.out b hb).2)
   rw [y0,y1]
   exact side_any R R p L.n L.me 0 (a 0) (a 1) (ln 0) (cp 0) (ln 1) (cp 1) (ins 0) (ins 1) w' s2 (by rw [kl];rfl) (by have:=hc.size;have:=H4.out.sz;omega) h4 h16 hm (hRd 0 (by omega)) (HI.out.le 0 (by omega)).1 (HI.out.le 0 (by omega)).2 (hRd 1 (by omega)) (HI.out.le 1 (by omega)).1 (HI.out.le 1 (by omega)).2
  have FB:Hid (∀w':World,(w'.cell? ⟨w.heap.size,0,none⟩=some (.pointer (some ⟨p,0,none⟩))∧w'.cell? ⟨p,0,none⟩=some (.int .i64 L.n)∧w'.cell? ⟨p,4,none⟩=some (.slice (some ⟨gp,0,none⟩) (L.n+1) (L.n+1))∧w'.cell? ⟨w.heap.size+1+1,0,none⟩=some (.int .i64 L.T)∧w'.cell? ⟨w.heap.size+1,0,none⟩=some i0∧w'.cell? ⟨w.heap.size+1,1,none⟩=some i1∧w'.cell? ⟨w.heap.size+1,2,none⟩=some i2∧w'.cell? ⟨w.heap.size+1,3,none⟩=some i3∧canPut w' ⟨gp,j*4,none⟩ 4=true∧Chg (· =gp) w4 w')→Calls Tryz.prog 141 #[.pointer (some ⟨p,0,none⟩),.int .i64 1,.agg #[i2],.agg #[i3]] w' (SidePost L.n L.me 1 (ins 2) (ins 3) w')):=Lib.hid fun w' ⟨s1,s2,s3,s4,s5,s6,s7,s8,s9,hc⟩=>by
   obtain⟨x1,x2,x3⟩:=hpg.out
   obtain⟨kl,-⟩:=(H4.out.l.chg hc x1).rules
   obtain⟨y0,y1,y2,y3⟩:=HV.out
   have hRd:∀i,i<4→RdRs R w' (a i) (ln i) (ins i):=fun i hi=>((HI.out.rd i hi).chg H4.out.c (fun b _ hb=>(HR.out b hb).1)).chg hc (fun b _ hb=>(HR.out b hb).2)
   rw [y2,y3]
   exact side_any R R p L.n L.me 1 (a 2) (a 3) (ln 2) (cp 2) (ln 3) (cp 3) (ins 2) (ins 3) w' s2 (by rw [kl];rfl) (by have:=hc.size;have:=H4.out.sz;omega) h4 h16 hm (hRd 2 (by omega)) (HI.out.le 2 (by omega)).1 (HI.out.le 2 (by omega)).2 (hRd 3 (by omega)) (HI.out.le 3 (by omega)).1 (HI.out.le 3 (by omega)).2
  have F0:Hid (∀w':World,Below w4.heap.size w4 w'→(w'.cell? ⟨w.heap.size,0,none⟩=some (.pointer (some ⟨p,0,none⟩))∧w'.cell? ⟨p,0,none⟩=some (.int .i64 L.n)∧w'.cell? ⟨p,4,none⟩=some (.slice (some ⟨gp,0,none⟩) (L.n+1) (L.n+1))∧w'.cell? ⟨w.heap.size+1+1,0,none⟩=some (.int .i64 L.T)∧w'.cell? ⟨w.heap.size+1,0,none⟩=some i0∧w'.cell? ⟨w.heap.size+1,1,none⟩=some i1∧w'.cell? ⟨w.heap.size+1,2,none⟩=some i2∧w'.cell? ⟨w.heap.size+1,3,none⟩=some i3∧canPut w' ⟨gp,j*4,none⟩ 4=true∧Chg (· =gp) w4 w')):=Lib.hid fun w' hb=>by
   refine F.out w' (Chg.of_below hb _) ?_
   rw [canPut_block (w:=w4) (hb.block gp hg4.out.lt)]
   obtain⟨-,-,-,-,q5⟩:=hg4.out.rules
   rw [q5,momCells_len];simp;omega
  have F1:Hid (∀w' w'':World,Below w'.heap.size w' w''→(w'.cell? ⟨w.heap.size,0,none⟩=some (.pointer (some ⟨p,0,none⟩))∧w'.cell? ⟨p,0,none⟩=some (.int .i64 L.n)∧w'.cell? ⟨p,4,none⟩=some (.slice (some ⟨gp,0,none⟩) (L.n+1) (L.n+1))∧w'.cell? ⟨w.heap.size+1+1,0,none⟩=some (.int .i64 L.T)∧w'.cell? ⟨w.heap.size+1,0,none⟩=some i0∧w'.cell? ⟨w.heap.size+1,1,none⟩=some i1∧w'.cell? ⟨w.heap.size+1,2,none⟩=some i2∧w'.cell? ⟨w.heap.size+1,3,none⟩=some i3∧canPut w' ⟨gp,j*4,none⟩ 4=true∧Chg (· =gp) w4 w')→(w''.cell? ⟨w.heap.size,0,none⟩=some (.pointer (some ⟨p,0,none⟩))∧w''.cell? ⟨p,0,none⟩=some (.int .i64 L.n)∧w''.cell? ⟨p,4,none⟩=some (.slice (some ⟨gp,0,none⟩) (L.n+1) (L.n+1))∧w''.cell? ⟨w.heap.size+1+1,0,none⟩=some (.int .i64 L.T)∧w''.cell? ⟨w.heap.size+1,0,none⟩=some i0∧w''.cell? ⟨w.heap.size+1,1,none⟩=some i1∧w''.cell? ⟨w.heap.size+1,2,none⟩=some i2∧w''.cell? ⟨w.heap.size+1,3,none⟩=some i3∧canPut w'' ⟨gp,j*4,none⟩ 4=true∧Chg (· =gp) w4 w'')):=Lib.hid fun w' w'' hb h=>by
   obtain⟨s1,s2,s3,s4,s5,s6,s7,s8,s9,hc⟩:=h
   refine F.out w'' (hc.trans (Chg.of_below hb _)) ?_
   rw [canPut_block (w:=w') (hb.block gp (by have:=hc.size;have:=hg4.out.lt;omega))]
   exact s9
  have F2:Hid (∀(w':World) (x1 x2 x3 x4:Value),(w'.cell? ⟨w.heap.size,0,none⟩=some (.pointer (some ⟨p,0,none⟩))∧w'.cell? ⟨p,0,none⟩=some (.int .i64 L.n)∧w'.cell? ⟨p,4,none⟩=some (.slice (some ⟨gp,0,none⟩) (L.n+1) (L.n+1))∧w'.cell? ⟨w.heap.size+1+1,0,none⟩=some (.int .i64 L.T)∧w'.cell? ⟨w.heap.size+1,0,none⟩=some i0∧w'.cell? ⟨w.heap.size+1,1,none⟩=some i1∧w'.cell? ⟨w.heap.size+1,2,none⟩=some i2∧w'.cell? ⟨w.heap.size+1,3,none⟩=some i3∧canPut w' ⟨gp,j*4,none⟩ 4=true∧Chg (· =gp) w4 w')→((putRow w' ⟨gp,j*4,none⟩ [x1,x2,x3,x4]).cell? ⟨w.heap.size,0,none⟩=some (.pointer (some ⟨p,0,none⟩))∧(putRow w' ⟨gp,j*4,none⟩ [x1,x2,x3,x4]).cell? ⟨p,0,none⟩=some (.int .i64 L.n)∧(putRow w' ⟨gp,j*4,none⟩ [x1,x2,x3,x4]).cell? ⟨p,4,none⟩=some (.slice (some ⟨gp,0,none⟩) (L.n+1) (L.n+1))∧(putRow w' ⟨gp,j*4,none⟩ [x1,x2,x3,x4]).cell? ⟨w.heap.size+1+1,0,none⟩=some (.int .i64 L.T)∧(putRow w' ⟨gp,j*4,none⟩ [x1,x2,x3,x4]).cell? ⟨w.heap.size+1,0,none⟩=some i0∧(putRow w' ⟨gp,j*4,none⟩ [x1,x2,x3,x4]).cell? ⟨w.heap.size+1,1,none⟩=some i1∧(putRow w' ⟨gp,j*4,none⟩ [x1,x2,x3,x4]).cell? ⟨w.heap.size+1,2,none⟩=some i2∧(putRow w' ⟨gp,j*4,none⟩ [x1,x2,x3,x4]).cell? ⟨w.heap.size+1,3,none⟩=some i3∧canPut (putRow w' ⟨gp,j*4,none⟩ [x1,x2,x3,x4]) ⟨gp,j*4,none⟩ 4=true∧Chg (· =gp) w4 (putRow w' ⟨gp,j*4,none⟩ [x1,x2,x3,x4]))):=Lib.hid fun w' x1 x2 x3 x4 h=>by
   obtain⟨-,-,-,-,-,-,-,-,s9,hc⟩:=h
   refine F.out _ (hc.put (p:=⟨gp,j*4,none⟩) (.inl rfl) [x1,x2,x3,x4]) ?_
   rw [canPut_put _ _ _ _ _ s9]
   exact s9
  have wn:IntKind.i64.wrap ((L.n:Int)+1)=(L.n:Int)+1:=IntWalk.i64_in _ (by omega)
  have e3:¬((L.n:Int)+1=0):=by omega
  have e4:(j:Int)<L.n+1:=by omega
  have e5:(0:Int)≤j:=by omega
  go_upto_region 5 with fail
  go_region_held3 (fun w'=>(w'.cell? ⟨w.heap.size,0,none⟩=some (.pointer (some ⟨p,0,none⟩))∧w'.cell? ⟨p,0,none⟩=some (.int .i64 L.n)∧w'.cell? ⟨p,4,none⟩=some (.slice (some ⟨gp,0,none⟩) (L.n+1) (L.n+1))∧w'.cell? ⟨w.heap.size+1+1,0,none⟩=some (.int .i64 L.T)∧w'.cell? ⟨w.heap.size+1,0,none⟩=some i0∧w'.cell? ⟨w.heap.size+1,1,none⟩=some i1∧w'.cell? ⟨w.heap.size+1,2,none⟩=some i2∧w'.cell? ⟨w.heap.size+1,3,none⟩=some i3∧canPut w' ⟨gp,j*4,none⟩ 4=true∧Chg (· =gp) w4 w'))
   (with_reducible (first | assumption | exact F0.out _ (Below.refl _ _).drew | exact F1.out _ _ (by assumption) (by assumption) | exact F2.out _ _ _ _ _ (by assumption)))
   ((first
     | ((with_reducible refine (FA.out _ (by assumption)).mono ?_);rintro e w5 ⟨gt0,gn0,rfl,ga1,ga2,ga3,ga4,ga5,hb5⟩;have HA:=Lib.hid (And.intro ga1 (And.intro ga2 (And.intro ga3 (And.intro ga4 ga5))));clear ga1 ga2 ga3 ga4 ga5)
     | ((with_reducible refine (FB.out _ (by assumption)).mono ?_);rintro e w6 ⟨gt1,gn1,rfl,ga1,ga2,ga3,ga4,ga5,hb6⟩;have HB:=Lib.hid (And.intro ga1 (And.intro ga2 (And.intro ga3 (And.intro ga4 ga5))));clear ga1 ga2 ga3 ga4 ga5)))
  have HB5:=Lib.hid hb5
  have HB6:=Lib.hid hb6
  have H7:Hid (LaneAt (GrowS S w.heap.size w6.heap.size) (putRow w6 ⟨gp,j*4,none⟩ [.slice (some ⟨gt0,0,none⟩) L.n L.n,.slice (some ⟨gn0,0,none⟩) L.n L.n,.slice (some ⟨gt1,0,none⟩) L.n L.n,.slice (some ⟨gn1,0,none⟩) L.n L.n]) p gp (putG G j gt0 gn0 gt1 gn1) (L.put ins)∧Blk (putRow w6 ⟨gp,j*4,none⟩ [.slice (some ⟨gt0,0,none⟩) L.n L.n,.slice (some ⟨gn0,0,none⟩) L.n L.n,.slice (some ⟨gt1,0,none⟩) L.n L.n,.slice (some ⟨gn1,0,none⟩) L.n L.n]) w.heap.size 140 #[.pointer (some ⟨p,0,none⟩)]∧Blk (putRow w6 ⟨gp,j*4,none⟩ [.slice (some ⟨gt0,0,none⟩) L.n L.n,.slice (some ⟨gn0,0,none⟩) L.n L.n,.slice (some ⟨gt1,0,none⟩) L.n L.n,.slice (some ⟨gn1,0,none⟩) L.n L.n]) (w.heap.size+1+1) 3 #[.int .i64 L.T]∧Chg (fun b=>b=p∨b=gp) w (putRow w6 ⟨gp,j*4,none⟩ [.slice (some ⟨gt0,0,none⟩) L.n L.n,.slice (some ⟨gn0,0,none⟩) L.n L.n,.slice (some ⟨gt1,0,none⟩) L.n L.n,.slice (some ⟨gn1,0,none⟩) L.n L.n])∧(putRow w6 ⟨gp,j*4,none⟩ [.slice (some ⟨gt0,0,none⟩) L.n L.n,.slice (some ⟨gn0,0,none⟩) L.n L.n,.slice (some ⟨gt1,0,none⟩) L.n L.n,.slice (some ⟨gn1,0,none⟩) L.n L.n]).heap.size=w6.heap.size∧w.heap.size+1+1<w6.heap.size):=Lib.hid (by
   obtain⟨x1,x2,x3⟩:=hpg.out
   have hsz:=H4.out.sz
   have z5:w4.heap.size≤w5.heap.size:=HB5.out.size
   have z6:w5.heap.size≤w6.heap.size:=HB6.out.size
   obtain⟨a1,a2,a3,a4,a5⟩:=HA.out
   obtain⟨b1,b2,b3,b4,b5⟩:=HB.out
   have a1':w4.heap.size≤gt0:=a1
   have a2':w4.heap.size≤gn0:=a2
   have hc7:=(Chg.refl (· =gp) w6).put (p:=⟨gp,j*4,none⟩) (.inl rfl) [.slice (some ⟨gt0,0,none⟩) L.n L.n,.slice (some ⟨gn0,0,none⟩) L.n L.n,.slice (some ⟨gt1,0,none⟩) L.n L.n,.slice (some ⟨gn1,0,none⟩) L.n L.n]
   have hB46:Below w4.heap.size w4 w6:=((Below.refl _ _).drew.trans HB5.out).trans (HB6.out.mono z5)
   have hs7:(putRow w6 ⟨gp,j*4,none⟩ [.slice (some ⟨gt0,0,none⟩) L.n L.n,.slice (some ⟨gn0,0,none⟩) L.n L.n,.slice (some ⟨gt1,0,none⟩) L.n L.n,.slice (some ⟨gn1,0,none⟩) L.n L.n]).heap.size=w6.heap.size:=by simp
   have A5:SideAt w4.heap.size w5.heap.size w5 gt0 gn0 L.n (momM L.n L.me ins 0) (momM L.n L.me ins 1):=⟨a4.mono (fun b hl hb=>⟨hb.1,hl,hb.2.1,hb.2.2⟩),a5.mono (fun b hl hb=>⟨hb.1,hl,hb.2.1,hb.2.2⟩),a1',a2',a3,a4.lt,a5.lt⟩
   have B6:SideAt w5.heap.size w6.heap.size w6 gt1 gn1 L.n (momM L.n L.me ins 2) (momM L.n L.me ins 3):=⟨b4.mono (fun b hl hb=>⟨hb.1,hl,hb.2.1,hb.2.2⟩),b5.mono (fun b hl hb=>⟨hb.1,hl,hb.2.1,hb.2.2⟩),b1,b2,b3,b4.lt,b5.lt⟩
   have A6:=(A5.keep z6 (fun b _ hl=>HB6.out.block b hl)).keep hc7.size (fun b hl1 hl2=>hc7.block b (by omega) (by omega))
   have B7:=B6.keep hc7.size (fun b hl1 hl2=>hc7.block b (by omega) (by omega))
   have hgp6:=hg4.out.below hB46 (by omega)
   refine⟨HL.out.put_ HO.out (lo:=w4.heap.size) (m0:=w5.heap.size) (m:=w6.heap.size) (by omega) z5 z6 (by omega) HJ.out ?_ ?_ (fun b hb hne1 hne2=> ?_) A6 B7,?_,?_,?_,hs7,by omega⟩
   ·exact (H4.out.l.below hB46 (by omega)).chg hc7 x1
   ·exact hgp6.put (j*4) _
   ·have hlt:=HL.out.lt b hb
    exact (hc7.block b (by omega) hne2).trans ((hB46.block b (by omega)).trans (H4.out.c.block b hlt hne1))
   ·exact (H4.out.b0.below hB46 (by omega)).chg hc7 (by omega)
   ·exact (H4.out.b2.below hB46 (by omega)).chg hc7 (by omega)
   ·exact ((H4.out.c.mono (fun k _ h=> .inl h)).trans (Chg.of_below hB46 _)).trans (hc7.mono (fun k _ h=> .inr h)))
  clear hb5 hb6 HA HB HB5
  have hmf:∀(fn:Fn) (first cap:Array Value) (w:World),(Instr.makeFunc fn first cap).run Tryz.prog w=.ok (.func fn first cap) w:=fun _ _ _ _=>rfl
  have hmk:L.n≤1048576:=by omega
  generalize (putRow w6 ⟨gp,j*4,none⟩ [.slice (some ⟨gt0,0,none⟩) L.n L.n,.slice (some ⟨gn0,0,none⟩) L.n L.n,.slice (some ⟨gt1,0,none⟩) L.n L.n,.slice (some ⟨gn1,0,none⟩) L.n L.n])=w7 at H7 ⊢
  clear F F0 F1 F2 FA FB hg4 HB6
  have F7:Hid (∀w':World,Below w7.heap.size w7 w'→w'.cell? ⟨w.heap.size,0,none⟩=some (.pointer (some ⟨p,0,none⟩))∧w'.cell? ⟨p,0,none⟩=some (.int .i64 L.n)∧w'.cell? ⟨w.heap.size+1+1,0,none⟩=some (.int .i64 L.T)∧w'.cell? ⟨p,1,none⟩=some (.int .i64 L.me)):=Lib.hid fun w' hb=>by
   obtain⟨h1,h2,h3,-⟩:=H7.out
   have k0:=(h2.below hb h2.lt).cell 0
   have k2:=(h3.below hb h3.lt).cell 0
   obtain⟨c0,c1,-⟩:=(h1.below hb).cells
   simp at k0 k2
   exact⟨k0,c0,k2,c1⟩
  obtain⟨f,hf⟩:∃f,f=(L.put ins).held:=⟨_,rfl⟩
  have HF:=Lib.hid hf
  have hfo:Hid (∀s,(f s).ok∧(f s).t.length≤100000):=Lib.hid fun s=>by
   rw [hf]
   have:=LaneM.held_tlen H7.out.1.okt s
   exact⟨LaneM.held_ok H7.out.1.ok s,by omega⟩
  have FO:Hid (∀(w':World) (s:Nat),Below w7.heap.size w7 w'→s<L.n→L.n≤L.T→Calls Tryz.prog 143 #[.pointer (some ⟨p,0,none⟩),.int .i64 s,.func (.func 142) #[] #[.pointer (some ⟨w.heap.size,0,none⟩),.pointer (some ⟨w.heap.size+1+1,0,none⟩)]] w' (OfPost (f s) w')):=Lib.hid fun w' s hb hs hnT=>by
   obtain⟨h1,h2,h3,-⟩:=H7.out
   have h1':=h1.below hb
   obtain⟨c0,c1,-⟩:=h1'.cells
   have hw:=h1'.was (h2.below hb h2.lt) (h3.below hb h3.lt) rfl hnT (by omega)
   have:=of_any p w.heap.size (w.heap.size+1+1) L.n L.me s _ w' c0 c1 h1'.b.lt h4 h16 hm hs hw (fun a q s=>h1'.ok _ q s)
   rw [hf]
   unfold LaneM.held
   rw [if_pos (by show L.n≤L.T+1 - 1;omega)]
   exact this
  have FZ:Hid (¬L.n≤L.T→∀s,f s=rw0):=Lib.hid fun h s=>by
   rw [hf];unfold LaneM.held
   rw [if_neg (by show ¬L.n≤L.T+1 - 1;omega)]
  clear hf
  have HI7:Hid (HeldI w7 f L.n 0 (w7.alloc (.cells (zrep rowZ L.n).toArray 134))):=Lib.hid ⟨by
   have:=RowsB.start (w7.heap.size< ·) w7 134 L.n
   rw [held_zero f] at this
   exact this,(Below.refl _ _).alloc (Nat.le_refl _) _⟩
  obtain⟨b0,b1,b2,b3⟩:=F7.out w7 (Below.refl _ _)
  go_wp2_with fail
  clear b0 b1 b2 b3
  generalize (w7.alloc (.cells (zrep rowZ L.n).toArray 134))=w8 at HI7 ⊢
  go_loopw [63] (fun i wr=> ∃k:Nat,k≤L.n∧i=.int .i64 k∧HeldI w7 f L.n k wr) (fun i _=>L.n - (intOf i).toNat)
  case atStart=>exact⟨0,by omega,rfl,HI7.out⟩
  case round=>
   obtain⟨k,hk,rfl,hI⟩:=hrel
   have HJ:=Lib.hid hI
   clear hI
   by_cases hlt:k<L.n
   ·obtain⟨b0,b1,b2,-⟩:=F7.out wr HJ.out.bel
    have HLT:=Lib.hid hlt
    by_cases hge:L.n≤L.T
    ·have HGE:=Lib.hid hge
     go_upto_region 11 with fail
     go_quiet (fail)
     go_wp2_with fail
     (with_reducible refine (FO.out _ k (Below.drewN_ HJ.out.bel _) HLT.out HGE.out).mono ?_)
     rintro e w9 ⟨tv,rfl,htr,hb9⟩
     have H9:Hid (Below wr.heap.size wr w9):=Lib.hid ((Below.drewN_ (Below.refl _ _) _).trans hb9)
     have HC:=Lib.hid (copy_any (fun _=>True) (f k) (hfo.out k).1 tv w9 htr (hfo.out k).2)
     obtain⟨xv,hxv⟩:∃xv,xv=(f k).vals tv:=⟨_,rfl⟩
     rw [←hxv] at HC ⊢
     clear htr hb9 hxv
     go_wp2_with fail
     (with_reducible refine HC.out.mono ?_)
     rintro e w10 ⟨x',rfl,hx',hb10⟩
     obtain⟨yv,hyv⟩:∃yv,yv=(f k).vals (.slice x' (f k).t.length (f k).t.length):=⟨_,rfl⟩
     rw [←hyv]
     have hyl:yv.length=57:=by rw [hyv];exact Rw.len (hfo.out k).1 _
     have hyc:yv.all cell1=true:=by rw [hyv];exact hx'.1.cell1 (hfo.out k).1
     have HS:Hid (canPut w10 ⟨w7.heap.size,k*57,none⟩ 57=true∧HeldI w7 f L.n (k+1) (putRow w10 ⟨w7.heap.size,k*57,none⟩ yv)):=Lib.hid (by
      rw [hyv]
      exact HJ.out.step H9.out hb10 HLT.out (hfo.out k).1 hx')
     have c3:=HS.out.1
     clear hx' hb10 hyv
     go_wp2_with fail
     exact⟨⟨k+1,by omega,by go_num,HS.out.2⟩,by simp [intOf];omega⟩
    ·have HZ:=FZ.out hge k
     have HSK:=Lib.hid (HJ.out.skip HZ)
     clear HZ
     go_upto_region 11 with fail
     go_quiet (fail)
     go_wp2_with fail
     exact⟨⟨k+1,by omega,by go_num,HSK.out.drewN _⟩,by simp [intOf];omega⟩
   ·obtain rfl:k=L.n:=by omega
    go_wp2_with fail
    go_ret
    obtain⟨h1,h2,h3,h4',h5,h6⟩:=H7.out
    have hr:=HJ.out.r
    rw [tab_congr (g:=f) (fun s hs=>by rw [if_pos hs]),HF.out] at hr
    refine⟨w6.heap.size,_,w7.heap.size,by omega,h1.below HJ.out.bel,rfl,by omega,hr.mono (fun b _ hb=>⟨by omega,by omega⟩),h4'.trans (Chg.of_below HJ.out.bel _)⟩
theorem ret_row2 {P:Program} {fn:Func} {p q:Tmp} {ty ty':TypeId} {n n':Nat} (h:fn.results=#[.cell p ty,.cell q ty']) (hT:aggOf P ty n=true) (hT':aggOf P ty' n'=true) (tmps:Array Value) (w:World) (a b:Addr)
 (hp:tmps.getD p undef=.pointer (some a)) (hq:tmps.getD q undef=.pointer (some b)) (hr:hasRow w a n=true) (hr':hasRow w b n'=true):(results fn tmps).run P w=.ok (.tuple #[.agg (rowOf w a n).toArray,.agg (rowOf w b n').toArray]) w:=by
 have hp':tmps[p]?.getD undef=.pointer (some a):=by simpa using hp
 have hq':tmps[q]?.getD undef=.pointer (some b):=by simpa using hq
 simp [results,h,hp',hq',asAddr,run_load_row hT hr,run_load_row hT' hr']
def LaneM.saidK (L:LaneM) (own:Rw) (k:Nat):LaneM:=
 { L with b:=false,past:=fun j q s=>if j=(L.T - 1) % (L.n+1)∧q % 2=0∧q / 2<k∧s=L.me then own.plain L.n else L.past j q s }
theorem LaneM.said_of {L:LaneM} (own:Rw) (hb:L.b=true) (h4:∀j q s,4≤q→L.past j q s=L.past j q s) (j q s:Nat) (hq:q<4):(L.said own).past j q s=(L.saidK own 2).past j q s:=by
 unfold LaneM.said LaneM.saidK
 rw [if_pos hb]
 simp only
 have:q / 2<2:=by omega
 simp [this]
theorem LaneM.saidK_ok {L:LaneM} (h:L.okP) {own:Rw} (ho:own.ok) (k:Nat):(L.saidK own k).okP:=fun j q s=>by
 unfold LaneM.saidK
 simp only
 split
 ·exact Rw.plain_ok ho
 ·exact h j q s
theorem LaneM.saidK_okT {L:LaneM} (h:L.okT) (own:Rw) (k:Nat):(L.saidK own k).okT:=fun j q s=>by
 unfold LaneM.saidK
 simp only
 split
 ·exact plain_tlen
 ·exact h j q s
theorem TabS.mono {S S':Nat→Prop} {p gp:Nat} {G:Nat→Nat} {n T:Nat} (hs:∀b,S b→S' b) {b:Nat} (h:TabS S p gp G n T b):TabS S' p gp G n T b:=⟨hs b h.1,h.2⟩
theorem LaneAt.mono {S S':Nat→Prop} {w:World} {p gp:Nat} {G:Nat→Nat} {L:LaneM} (h:LaneAt S w p gp G L) (hs:∀b,S b→S' b) (hl:∀b,S' b→b<w.heap.size):LaneAt S' w p gp G L:=
 ⟨h.b,h.g,fun k hk=>(h.r k hk).mono fun b _ hb=>hb.mono hs,hs _ h.sp,hs _ h.sg,fun k hk=>hs _ (h.sr k hk),h.inj,hl,h.bd,h.ok,h.okt⟩
theorem LaneAt.congr {S:Nat→Prop} {w:World} {p gp:Nat} {G:Nat→Nat} {L L':LaneM} (h:LaneAt S w p gp G L) (hn:L'.n=L.n) (hme:L'.me=L.me) (hT:L'.T=L.T) (hb:L'.b=L.b) (hp:∀j q s,q<4→L'.past j q s=L.past j q s) (ho:L'.okP) (hot:L'.okT):LaneAt S w p gp G L':=by
 have e:laneV L' gp=laneV L gp:=by unfold laneV;rw [hn,hme,hT,hb]
 refine⟨by rw [e];exact h.b,by rw [hn,hT];exact h.g,fun k hk=> ?_,h.sp,h.sg,fun k hk=>h.sr k (by rw [←hn,←hT];exact hk),fun k k' hk hk'=>h.inj k k' (by rw [←hn,←hT];exact hk) (by rw [←hn,←hT];exact hk'),h.lt,by rw [hn,hme];exact h.bd,ho,hot⟩
 have:=h.r k (by rw [←hn,←hT];exact hk)
 rw [hn,hT,show L'.past (k / 4) (k % 4)=L.past (k / 4) (k % 4) from funext fun s=>hp _ _ _ (by omega)]
 exact this
theorem LaneAt.ended {S:Nat→Prop} {w w':World} {p gp:Nat} {G:Nat→Nat} {L:LaneM} (h:LaneAt S w p gp G L) {own:Rw} (ho:own.ok) (hs:w.heap.size≤w'.heap.size) (hb:Blk w' p 327 (laneV (L.saidK own 0) gp).toArray) (hk:∀b,S b→b≠p→w'.heap[b]? =w.heap[b]?):LaneAt S w' p gp G (L.saidK own 0):=by
 obtain⟨hpg,hG⟩:=h.ne
 refine⟨hb,(hk gp h.sg (Ne.symm hpg)).trans h.g,fun k hm=> ?_,h.sp,h.sg,h.sr,h.inj,fun b hb=>Nat.lt_of_lt_of_le (h.lt b hb) hs,h.bd,LaneM.saidK_ok h.ok ho 0,LaneM.saidK_okT h.okt own 0⟩
 have:=(h.r k hm).keep hs fun b hb hl=>by
  rcases hb with rfl | hb
  ·exact hk _ (h.sr k hm) (hG k hm).1
  ·exact hk b hb.1 hb.2.1
 have e:(L.saidK own 0).past (k / 4) (k % 4)=L.past (k / 4) (k % 4):=by
  funext s;unfold LaneM.saidK;simp
 rw [e];exact this
theorem LaneAt.saidStep {S:Nat→Prop} {wr w':World} {p gp lo:Nat} {G:Nat→Nat} {L:LaneM} {own:Rw} {k:Nat} (h:LaneAt (GrowS S lo wr.heap.size) wr p gp G (L.saidK own k)) (hk:k<2) (hT:0<L.T) (hb:Below wr.heap.size wr w') (ho:own.ok) {tv:Value}
 (hlo:lo≤wr.heap.size) (ht:RowX (wr.heap.size≤·) w' (own.plain L.n) tv) :
 LaneAt (GrowS S lo w'.heap.size) (putRow w' ⟨G (4*((L.T - 1) % (L.n+1))+2*k),L.me*57,none⟩ ((own.plain L.n).vals tv)) p gp G (L.saidK own (k+1)):=by
 obtain⟨j,hj⟩:∃j,j=(L.T - 1) % (L.n+1):=⟨_,rfl⟩
 rw [←hj]
 have hjn:j<L.n+1:=by rw [hj];exact Nat.mod_lt _ (by omega)
 have hjT:j<L.T:=by
  have:(L.T - 1) % (L.n+1)≤L.T - 1:=Nat.mod_le _ _
  omega
 have hz:=hb.size
 obtain⟨hpg,hG⟩:=h.ne
 have hbl:=h.below hb
 have hm0:Made L.n L.T (4*j+2*k):=⟨by omega,by omega⟩
 have hm1:Made (L.saidK own k).n (L.saidK own k).T (4*j+2*k):=hm0
 have hglt:=h.lt _ (h.sr _ hm1)
 have hc:=(Chg.refl (· =G (4*j+2*k)) w').put (p:=⟨G (4*j+2*k),L.me*57,none⟩) (.inl rfl) ((own.plain L.n).vals tv)
 have hgr:∀b,GrowS S lo wr.heap.size b→GrowS S lo w'.heap.size b:=fun b hb=>by
  rcases hb with hb | hb
  ·exact .inl hb
  ·exact .inr ⟨hb.1,by omega⟩
 have hnewT:∀b,b<w'.heap.size→wr.heap.size≤b→TabS (GrowS S lo w'.heap.size) p gp G L.n L.T b:=fun b hl hb=>by
  refine⟨.inr ⟨by omega,hl⟩,by have:=h.b.lt;omega,by have:=h.g.lt;omega,fun k' hk'=> ?_⟩
  have:=h.lt _ (h.sr k' hk')
  omega
 have hme:=h.bd.2.2
 have hme':L.me<L.n:=hme
 refine⟨hbl.b.chg hc (Ne.symm (hG _ hm1).1),hbl.g.chg hc (Ne.symm (hG _ hm1).2),fun k' hk'=> ?_,hgr _ h.sp,hgr _ h.sg,fun k' hk'=>hgr _ (h.sr k' hk'),h.inj,fun b hb=> ?_,h.bd,?_,?_⟩
 ·have hold:=(hbl.r k' hk').mono (S':=TabS (GrowS S lo w'.heap.size) p gp G L.n L.T) fun b _ hb=>hb.mono hgr
  by_cases he:k'=4*j+2*k
  ·subst he
   have h1:=hold.set (fun b hb=>hb.2.2.2 _ hm0) (k:=L.me) (by rw [tab_len];exact hme') (Rw.plain_ok ho) (ht.mono (S':=TabS (GrowS S lo w'.heap.size) p gp G L.n L.T) (fun b hl hb=>hnewT b hl hb))
   rw [show (4*j+2*k) / 4=j from by omega,show (4*j+2*k) % 4=2*k from by omega] at h1 ⊢
   have e:(tab L.n ((L.saidK own k).past j (2*k))).set L.me (own.plain L.n)=tab L.n ((L.saidK own (k+1)).past j (2*k)):=by
    refine tab_put hme' ?_ fun s _ hne=> ?_
    ·show (if j=(L.T - 1) % (L.n+1)∧2*k % 2=0∧2*k / 2<k+1∧L.me=L.me then own.plain L.n else L.past j (2*k) L.me)=_
     rw [if_pos ⟨hj,by omega,by omega,rfl⟩]
    ·show (if j=(L.T - 1) % (L.n+1)∧2*k % 2=0∧2*k / 2<k+1∧s=L.me then own.plain L.n else L.past j (2*k) s)=(if j=(L.T - 1) % (L.n+1)∧2*k % 2=0∧2*k / 2<k∧s=L.me then own.plain L.n else L.past j (2*k) s)
     rw [if_neg (fun h=>hne h.2.2.2),if_neg (fun h=>hne h.2.2.2)]
   show RowsB _ _ _ _ (tab L.n ((L.saidK own (k+1)).past j (2*k)))
   rw [←e]
   exact h1
  ·have hne:G k'≠G (4*j+2*k):=fun e=>he (h.inj _ _ hk' hm1 e)
   have h1:=hold.chg hc hne (fun b _ hb e=>hb.2.2.2 _ hm0 e)
   have e:(L.saidK own (k+1)).past (k' / 4) (k' % 4)=(L.saidK own k).past (k' / 4) (k' % 4):=by
    funext s
    show (if k' / 4=(L.T - 1) % (L.n+1)∧k' % 4 % 2=0∧k' % 4 / 2<k+1∧s=L.me then _ else _)=(if k' / 4=(L.T - 1) % (L.n+1)∧k' % 4 % 2=0∧k' % 4 / 2<k∧s=L.me then _ else _)
    by_cases hc:k' / 4=(L.T - 1) % (L.n+1)∧k' % 4 % 2=0∧k' % 4 / 2<k+1∧s=L.me
    ·rw [if_pos hc,if_pos ⟨hc.1,hc.2.1,by omega,hc.2.2.2⟩]
    ·rw [if_neg hc,if_neg (fun h=>hc ⟨h.1,h.2.1,by omega,h.2.2.2⟩)]
   rw [e];exact h1
 ·have hs:(putRow w' ⟨G (4*j+2*k),L.me*57,none⟩ ((own.plain L.n).vals tv)).heap.size=w'.heap.size:=by simp
  rw [hs]
  rcases hb with hb | hb
  ·have:=h.lt b (.inl hb);omega
  ·exact hb.2
 ·exact fun j q s=>by
   have:=h.ok
   unfold LaneM.saidK at this ⊢
   have h0:=this j q s
   simp only at h0 ⊢
   split
   ·exact Rw.plain_ok ho
   ·rename_i hn
    rw [if_neg (fun h=>hn ⟨h.1,h.2.1,by omega,h.2.2.2⟩)] at h0
    exact h0
 ·exact fun j q s=>by
   have:=h.okt
   unfold LaneM.saidK at this ⊢
   have h0:=this j q s
   simp only at h0 ⊢
   split
   ·exact plain_tlen
   ·rename_i hn
    rw [if_neg (fun h=>hn ⟨h.1,h.2.1,by omega,h.2.2.2⟩)] at h0
    exact h0
end Go.Proofs.YtdilbjikeilhbaaGreatDoor
