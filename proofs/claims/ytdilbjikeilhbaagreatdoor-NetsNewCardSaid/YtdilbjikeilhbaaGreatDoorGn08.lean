import Derived.Test.YtdilbjikeilhbaaGreatDoorGn07
import Derived.Test.YtdilbjikeilhbaaGreatDoorGn05
import Derived.Test.YtdilbjikeilhbaaGreatDoorGn06
import Derived.Deep.RegionHeldLaw
namespace Go.Proofs.YtdilbjikeilhbaaGreatDoor
open Go.RowKit
set_option linter.unusedVariables false
set_option linter.unusedSimpArgs false
def momCells (n T:Nat) (G:Nat→Nat):List Value:=(List.range (4*(n+1))).map fun k=>if k / 4<T then .slice (some ⟨G k,0,none⟩) n n else .slice none 0 0
theorem momCells_len (n T:Nat) (G:Nat→Nat):(momCells n T G).length=4*(n+1):=by simp [momCells]
theorem momCells_at {n T:Nat} {G:Nat→Nat} {k:Nat} (h:k<4*(n+1)):(momCells n T G)[k]? =some (if k / 4<T then .slice (some ⟨G k,0,none⟩) n n else .slice none 0 0):=by simp [momCells,h]
def Made (n T k:Nat):Prop:=k<4*(n+1)∧k / 4<T
def TabS (S:Nat→Prop) (p gp:Nat) (G:Nat→Nat) (n T:Nat) (b:Nat):Prop:=S b∧b≠p∧b≠gp∧∀k,Made n T k→b≠G k
def laneV (L:LaneM) (gp:Nat):List Value:=[.int .i64 L.n,.int .i64 L.me,.int .i64 L.T,.bool L.b,.slice (some ⟨gp,0,none⟩) (L.n+1) (L.n+1)]
structure LaneAt (S:Nat→Prop) (w:World) (p gp:Nat) (G:Nat→Nat) (L:LaneM):Prop where
 b:Blk w p 327 (laneV L gp).toArray
 g:Blk w gp 363 (momCells L.n L.T G).toArray
 r:∀k,Made L.n L.T k→RowsB (TabS S p gp G L.n L.T) w (G k) 134 (tab L.n (L.past (k / 4) (k % 4)))
 sp:S p
 sg:S gp
 sr:∀k,Made L.n L.T k→S (G k)
 inj:∀k k',Made L.n L.T k→Made L.n L.T k'→G k=G k'→k=k'
 lt:∀b,S b→b<w.heap.size
 bd:4≤L.n∧L.n≤16∧L.me<L.n
 ok:L.okP
 okt:L.okT
theorem LaneAt.keep {S:Nat→Prop} {w w':World} {p gp:Nat} {G:Nat→Nat} {L:LaneM} (h:LaneAt S w p gp G L) (hs:w.heap.size≤w'.heap.size) (hk:∀b,S b→b<w.heap.size→w'.heap[b]? =w.heap[b]?):LaneAt S w' p gp G L:=
 ⟨(hk p h.sp h.b.lt).trans h.b,(hk gp h.sg h.g.lt).trans h.g,fun k hm=>(h.r k hm).keep hs fun b hb hl=>hk b (by rcases hb with rfl | hb;exact h.sr k hm;exact hb.1) hl,h.sp,h.sg,h.sr,h.inj,fun b hb=>Nat.lt_of_lt_of_le (h.lt b hb) hs,h.bd,h.ok,h.okt⟩
theorem LaneAt.below {S:Nat→Prop} {w w':World} {p gp:Nat} {G:Nat→Nat} {L:LaneM} (h:LaneAt S w p gp G L) (hb:Below w.heap.size w w'):LaneAt S w' p gp G L:=h.keep hb.size fun b _ hl=>hb.block b hl
theorem LaneAt.cells {S:Nat→Prop} {w:World} {p gp:Nat} {G:Nat→Nat} {L:LaneM} (h:LaneAt S w p gp G L) :
 w.cell? ⟨p,0,none⟩=some (.int .i64 L.n)∧w.cell? ⟨p,1,none⟩=some (.int .i64 L.me)∧w.cell? ⟨p,2,none⟩=some (.int .i64 L.T)∧w.cell? ⟨p,3,none⟩=some (.bool L.b)∧w.cell? ⟨p,4,none⟩=some (.slice (some ⟨gp,0,none⟩) (L.n+1) (L.n+1)):=by
 obtain⟨q,-⟩:=h.b.rules
 exact⟨by rw [q];rfl,by rw [q];rfl,by rw [q];rfl,by rw [q];rfl,by rw [q];rfl⟩
def slV (g n:Nat):Value:=.slice (some ⟨g,0,none⟩) n n
def momV (G:Nat→Nat) (n j:Nat):List Value:=[slV (G (4*j)) n,slV (G (4*j+1)) n,slV (G (4*j+2)) n,slV (G (4*j+3)) n]
theorem LaneAt.mom {S:Nat→Prop} {w:World} {p gp:Nat} {G:Nat→Nat} {L:LaneM} (h:LaneAt S w p gp G L) {j:Nat} (hj:j<L.n+1) (hT:j<L.T) :
 hasRow w ⟨gp,j*4,none⟩ 4=true∧rowOf w ⟨gp,j*4,none⟩ 4=momV G L.n j:=by
 obtain⟨-,-,q3,q4,-⟩:=h.g.rules
 have hl:=momCells_len L.n L.T G
 refine⟨by rw [q3];simp;omega,?_⟩
 rw [q4 _ _ (by omega)]
 have e:∀i,i<4→(momCells L.n L.T G)[j*4+i]? =some (slV (G (4*j+i)) L.n):=fun i hi=>by
  rw [momCells_at (by omega),if_pos (by omega),show j*4+i=4*j+i from by omega];rfl
 apply List.ext_getElem?
 intro i
 rw [List.getElem?_take,List.getElem?_drop]
 by_cases hi:i<4
 ·rw [if_pos hi,e i hi]
  have:i=0∨i=1∨i=2∨i=3:=by omega
  rcases this with rfl | rfl | rfl | rfl <;> rfl
 ·rw [if_neg hi,List.getElem?_eq_none (by simp [momV];omega)]
def WasPost (mv:List Value) (w:World) (e:Ending) (w':World):Prop:=e=.returned (.agg mv.toArray)∧Below w.heap.size w w'
set_option maxRecDepth 100000 in
set_option maxHeartbeats 1000000 in
theorem was_any (p gp cl cn n now ago j:Nat) (mv:List Value) (w:World) (hn:w.cell? ⟨p,0,none⟩=some (.int .i64 n)) (hpast:w.cell? ⟨p,4,none⟩=some (.slice (some ⟨gp,0,none⟩) (n+1) (n+1)))
 (hcl:w.cell? ⟨cl,0,none⟩=some (.pointer (some ⟨p,0,none⟩))) (hcn:w.cell? ⟨cn,0,none⟩=some (.int .i64 now)) (hm1:hasRow w ⟨gp,j*4,none⟩ 4=true) (hm2:rowOf w ⟨gp,j*4,none⟩ 4=mv) (hl:mv.length=4) (hc1:mv.all cell1=true)
 (h4:4≤n) (h16:n≤16) (hago:ago≤now) (hnow:now≤1000000000) (hj:j=(now - ago) % (n+1)) (hp:p<w.heap.size∧gp<w.heap.size∧cl<w.heap.size∧cn<w.heap.size) :
 Calls Tryz.prog 142 #[.int .i64 ago,.pointer (some ⟨cl,0,none⟩),.pointer (some ⟨cn,0,none⟩)] w (WasPost mv w):=by
 have F0:Hid (∀w':World,Below w.heap.size w w'→w'.cell? ⟨p,0,none⟩=some (.int .i64 n)∧w'.cell? ⟨p,4,none⟩=some (.slice (some ⟨gp,0,none⟩) (n+1) (n+1))∧w'.cell? ⟨cl,0,none⟩=some (.pointer (some ⟨p,0,none⟩))∧w'.cell? ⟨cn,0,none⟩=some (.int .i64 now)∧hasRow w' ⟨gp,j*4,none⟩ 4=true∧rowOf w' ⟨gp,j*4,none⟩ 4=mv):=Lib.hid fun w' h=>by
  have hr:=row_below h (p:=⟨gp,j*4,none⟩) hp.2.1 4
  exact⟨(h.cell (p:=⟨p,0,none⟩) hp.1).trans hn,(h.cell (p:=⟨p,4,none⟩) hp.1).trans hpast,(h.cell (p:=⟨cl,0,none⟩) hp.2.2.1).trans hcl,(h.cell (p:=⟨cn,0,none⟩) hp.2.2.2).trans hcn,hr.1.trans hm1,hr.2.trans hm2⟩
 have hjn:j<n+1:=by rw [hj];exact Nat.mod_lt _ (by omega)
 have he:Hid (((now:Int) - ago).tmod (n+1)=(j:Int)):=Lib.hid (by rw [hj,Int.tmod_eq_emod_of_nonneg (by omega)];rw [show (now:Int) - ago=((now - ago:Nat):Int) from by omega];norm_cast)
 have he2:Hid (((now:Int) - ago) % (n+1)=(j:Int)):=Lib.hid (by rw [hj];rw [show (now:Int) - ago=((now - ago:Nat):Int) from by omega];norm_cast)
 clear hn hpast hcl hcn hm1 hm2 hj
 go_enter Tryz.func142,Tryz.ntmps142
 go_upto_region 1 with fail
 have w1:IntKind.i64.wrap ((now:Int) - ago)=(now:Int) - ago:=IntWalk.i64_in _ (by omega)
 have w2:IntKind.i64.wrap ((n:Int)+1)=(n:Int)+1:=IntWalk.i64_in _ (by omega)
 have e1:((now:Int) - ago).tmod (n+1)=(j:Int):=he.out
 have e2:((now:Int) - ago) % (n+1)=(j:Int):=he2.out
 have e3:¬((n:Int)+1=0):=by omega
 have e4:(j:Int)<n+1:=by omega
 have e5:(0:Int)≤j:=by omega
 have hsz:Hid (w.heap.size≤w.heap.size):=Lib.hid (Nat.le_refl _)
 have HB:Hid (Below w.heap.size w (w.alloc (.cells #[Value.slice none 0 0,Value.slice none 0 0,Value.slice none 0 0,Value.slice none 0 0] 363))):=Lib.hid ((Below.refl _ _).alloc (Nat.le_refl _) _)
 have HB2:Hid (Below w.heap.size w (w.alloc (.cells mv.toArray 363))):=Lib.hid ((Below.refl _ _).alloc (Nat.le_refl _) _)
 go_region_held3 (fun w'=>w'.cell? ⟨p,0,none⟩=some (.int .i64 n)∧w'.cell? ⟨p,4,none⟩=some (.slice (some ⟨gp,0,none⟩) (n+1) (n+1))∧w'.cell? ⟨cl,0,none⟩=some (.pointer (some ⟨p,0,none⟩))∧w'.cell? ⟨cn,0,none⟩=some (.int .i64 now)∧hasRow w' ⟨gp,j*4,none⟩ 4=true∧rowOf w' ⟨gp,j*4,none⟩ 4=mv)
  (first | exact F0.out _ HB.out.drew | exact F0.out _ HB2.out.drew | exact F0.out _ HB2.out)
  (fail)
 go_wp2_with fail
 try simp only [Exit.inBlock,Exit.then]
 obtain⟨q1,q2,-⟩:=((Blk.new w 363 mv.toArray).drew).whole (n:=4) hl
 first | refine bodyPost_ret (ret_row (n:=4) rfl (by kernel_rfl) _ _ _ rfl ?_) rfl ?_ | refine bodyPost_end (ret_row (n:=4) rfl (by kernel_rfl) _ _ _ rfl ?_) rfl ?_
 ·exact q1
 ·rw [q2];exact⟨rfl,HB2.out.drew⟩
theorem len_flatP {ps:List (Rw×Value)} (h:∀p ∈ ps,p.1.ok):(flatP ps).length=ps.length*57:=by
 unfold flatP
 induction ps with
 | nil=>rfl
 | cons x l ih=>rw [List.flatMap_cons,List.length_append,Rw.len (h x (by simp)),ih (fun y hy=>h y (by simp [hy])),List.length_cons,Nat.succ_mul,Nat.add_comm]
theorem flatP_set {ps:List (Rw×Value)} (h:∀p ∈ ps,p.1.ok) {k:Nat} (hk:k<ps.length) (x:Rw×Value) (hx:x.1.ok):(flatP ps).take (k*57)++x.1.vals x.2++(flatP ps).drop (k*57+57)=flatP (ps.set k x):=by
 induction ps generalizing k with
 | nil=>simp at hk
 | cons y l ih=>
   have hy:=Rw.len (h y (by simp)) y.2
   cases k with
   | zero=>
     simp only [Nat.zero_mul,List.set_cons_zero,flatP,List.flatMap_cons,List.take_zero,List.nil_append,Nat.zero_add]
     rw [←hy,List.drop_left]
   | succ k=>
     have:=ih (fun z hz=>h z (by simp [hz])) (k:=k) (by simpa using hk)
     simp only [List.set_cons_succ,flatP,List.flatMap_cons] at this ⊢
     rw [←this]
     rw [show (k+1)*57=(y.1.vals y.2).length+k*57 from by omega,List.take_append,List.drop_append]
     simp [Nat.add_sub_cancel_left,List.take_of_length_le (show (y.1.vals y.2).length≤(y.1.vals y.2).length+k*57 by omega),Nat.add_assoc]
structure HB (W:World) (g:Nat) (S:Nat→Prop) (ps:List (Rw×Value)) (w:World):Prop where
 b:∃rest:List Value,Blk w g 134 (flatP ps++rest).toArray
 ps:∀p ∈ ps,p.1.ok∧RowR S w p.1 p.2
 lt:W.heap.size≤g
 no:¬S g
 bel:Below W.heap.size W w
theorem HB.drew {W:World} {g:Nat} {S:Nat→Prop} {ps:List (Rw×Value)} {w:World} (h:HB W g S ps w):HB W g S ps w.drew:=⟨h.b,h.ps,h.lt,h.no,h.bel.drew⟩
theorem HB.rd {W:World} {g:Nat} {S:Nat→Prop} {ps:List (Rw×Value)} {w:World} (h:HB W g S ps w):RdRs (fun b=>b=g∨S b) w (some ⟨g,0,none⟩) ps.length (ps.map Prod.fst):=by
 obtain⟨rest,hb⟩:=h.b
 refine⟨by simp,fun r hr=> ?_,fun k r hk=> ?_⟩
 ·obtain⟨p,hp,rfl⟩:=List.mem_map.1 hr
  exact (h.ps p hp).1
 ·rw [List.getElem?_map,Option.map_eq_some_iff] at hk
  obtain⟨p,hk,rfl⟩:=hk
  have hkl:k<ps.length:=(List.getElem?_eq_some_iff.1 hk).1
  obtain⟨hpo,x,m,c2,hpv,h5,h6,h7⟩:=h.ps p (List.mem_of_getElem? hk)
  have hlen:=Rw.len hpo p.2
  have hfl:=len_flatP (fun p hp=>(h.ps p hp).1)
  have hrow:=row_of_cells (w:=w) (p:=⟨g,0+k*57,none⟩) (l:=p.1.vals p.2) (fun j u hu=>by
   have hj:j<57:=by rw [←hlen];exact (List.getElem?_eq_some_iff.1 hu).1
   have hin:k*57+57≤ps.length*57:=by
    have:(k+1)*57≤ps.length*57:=Nat.mul_le_mul_right _ (by omega)
    omega
   rw [add_at,hb.cell,show 0+k*57+j=k*57+j from by omega]
   have:=flatP_at (fun p hp=>(h.ps p hp).1) hk hj
   simp only [List.getElem?_toArray]
   rw [List.getElem?_append_left (by omega),this,hu])
  rw [hlen,hpv] at hrow
  exact⟨g,0,x,m,c2,rfl,.inl rfl,hb.lt,hrow.1,hrow.2,h5.mono (fun b _ h=> .inr h),h6,h7⟩
theorem HB.set_ {W:World} {g:Nat} {S:Nat→Prop} {ps:List (Rw×Value)} {w:World} (h:HB W g S ps w) {i:Nat} (hi:i<ps.length) {r:Rw} {tv:Value} (hr:r.ok) (ht:RowR S w r tv) :
 canPut w ⟨g,i*57,none⟩ 57=true∧HB W g S (ps.set i (r,tv)) (putRow w ⟨g,i*57,none⟩ (r.vals tv)):=by
 obtain⟨rest,hb⟩:=h.b
 have hok:∀p ∈ ps,p.1.ok:=fun p hp=>(h.ps p hp).1
 have hl:=len_flatP hok
 have hx1:=Rw.len hr tv
 have hin:i*57+57≤ps.length*57:=by
  have:(i+1)*57≤ps.length*57:=Nat.mul_le_mul_right _ (by omega)
  omega
 have hk:∀{r':Rw} {tv':Value},RowR S w r' tv'→RowR S (putRow w ⟨g,i*57,none⟩ (r.vals tv)) r' tv':=fun {r' tv'} h'=>h'.keep (by simp) (fun b hSb _=>putRow_other _ _ _ _ (by rintro rfl;exact h.no hSb))
 refine⟨?_,⟨⟨rest,?_⟩,fun p hp=> ?_,h.lt,h.no,Below.put h.bel (p:=⟨g,i*57,none⟩) h.lt _⟩⟩
 ·rw [hb.rules.2.2.2.2,List.length_append,hl];simp;omega
 ·have h2:=hb.put (i*57) (r.vals tv)
  have hs:=flatP_set hok hi (r,tv) hr
  rw [hx1,List.take_append_of_le_length (by omega),List.drop_append_of_le_length (by omega),←List.append_assoc,hs] at h2
  exact h2
 ·rcases List.mem_or_eq_of_mem_set hp with hp | rfl
  ·exact⟨hok p hp,hk (h.ps p hp).2⟩
  ·exact⟨hr,hk ht⟩
theorem HB.of_own {W w:World} {g cap n:Nat} {S:Nat→Prop} {ps:List (Rw×Value)} {base:Nat} (ho:w.ownsRow base 134 57 (.slice (some ⟨g,0,none⟩) n cap) n (flatP ps)) (hp:∀p ∈ ps,p.1.ok∧RowR S w p.1 p.2) (hg:W.heap.size≤g) (hS:¬S g) (hb:Below W.heap.size W w):HB W g S ps w:=by
 rcases ho.2 with ⟨h,-⟩ | ⟨g',cap',cur,he,h1,h2,h3,h4,h5,h6⟩
 ·cases h
 ·cases he
  refine⟨⟨cur.toList.drop (n*57),?_⟩,hp,hg,hS,hb⟩
  have e:(flatP ps++cur.toList.drop (n*57)).toArray=cur:=by
   rw [←h6,List.take_append_drop]
  rw [e]
  exact h2
@[go_sem ↓] theorem bs_row2 (ρ:Operand→Value) (d:Option Tmp) (x y:Operand) (ty:TypeId) (s:String) (af:Array Edge) (g:Option (Nat×Bool)) (w:World) (h:lenC (ρ x) 57=true) (h':lenC (ρ y) 57=true) :
 (execOp ρ { dst:=d,op:=.buildSlice 59 2 #[(0,x),(1,y)],type:=ty,pos:=s,after:=af,guard:=g }).run Tryz.prog w=.ok (.value (.slice (some ⟨w.heap.size,0,none⟩) 2 2)) (w.alloc (.cells (cellsL (ρ x)++cellsL (ρ y)).toArray 134)):=by
 have:=exec_bslice (n:=57) Tryz.underlying59 (by kernel_rfl) ρ d 2 [x,y] #[(0,x),(1,y)] ty s af g w (by simp [iparts]) rfl (by omega) (by omega) (by simp [h,h'])
 simpa using this
def WasOk (w:World) (cl cn n:Nat) (was:Nat→Nat→Nat→Rw):Prop:=
 ∀(w':World) (ago:Nat),Below w.heap.size w w'→1≤ago→ago≤n→∃g0 g1 g2 g3:Nat,
  Calls Tryz.prog 142 #[.int .i64 ago,.pointer (some ⟨cl,0,none⟩),.pointer (some ⟨cn,0,none⟩)] w' (WasPost [slV g0 n,slV g1 n,slV g2 n,slV g3 n] w')∧
  ∀w'':World,Below w.heap.size w w''→RdRs (· <w.heap.size) w'' (some ⟨g0,0,none⟩) n (tab n (was ago 0))∧RdRs (· <w.heap.size) w'' (some ⟨g1,0,none⟩) n (tab n (was ago 1))∧RdRs (· <w.heap.size) w'' (some ⟨g2,0,none⟩) n (tab n (was ago 2))∧RdRs (· <w.heap.size) w'' (some ⟨g3,0,none⟩) n (tab n (was ago 3))
theorem WasOk.way {w:World} {cl cn n:Nat} {was:Nat→Nat→Nat→Rw} (h:WasOk w cl cn n was) {w':World} {ago:Nat} (hb:Below w.heap.size w w') (h1:1≤ago) (h2:ago≤n) {k:Nat} (hk:k<2) :
 ∃(mv:List Value) (gt gn:Nat),Calls Tryz.prog 142 #[.int .i64 ago,.pointer (some ⟨cl,0,none⟩),.pointer (some ⟨cn,0,none⟩)] w' (WasPost mv w')∧
  (∀w2:World,(Instr.index 363 (.agg mv.toArray) (.int .i64 (k:Int))).run Tryz.prog w2=.ok (.agg #[.slice (some ⟨gt,0,none⟩) n n,.slice (some ⟨gn,0,none⟩) n n]) w2)∧
  ∀w'':World,Below w.heap.size w w''→RdRs (· <w.heap.size) w'' (some ⟨gt,0,none⟩) n (tab n (was ago (2*k)))∧RdRs (· <w.heap.size) w'' (some ⟨gn,0,none⟩) n (tab n (was ago (2*k+1))):=by
 obtain⟨g0,g1,g2,g3,hc,hr⟩:=h w' ago hb h1 h2
 have hk':k=0∨k=1:=by omega
 rcases hk' with rfl | rfl
 ·exact⟨_,g0,g1,hc,fun w2=>idx_mom0 _ _ _ _ w2,fun w'' h=>⟨(hr w'' h).1,(hr w'' h).2.1⟩⟩
 ·exact⟨_,g2,g3,hc,fun w2=>idx_mom1 _ _ _ _ w2,fun w'' h=>⟨(hr w'' h).2.2.1,(hr w'' h).2.2.2⟩⟩
structure OfI (w:World) (all:List Rw) (k:Nat) (v:Value) (wr:World):Prop where
 b:Blk wr w.heap.size 134 rowZ.toArray
 own:∃ps:List (Rw×Value),ps.length=2*k∧ps.map Prod.fst=all.take (2*k)∧wr.ownsRow (w.heap.size+1) 134 57 v (2*k) (flatP ps)∧∀p ∈ ps,p.1.ok∧RowR (· <w.heap.size) wr p.1 p.2
 bel:Below w.heap.size w wr
theorem distM_lt {n me way s:Nat} (h:0<n):distM n me way s<n:=by unfold distM;split <;> exact Nat.mod_lt _ h
theorem distM_pos {n me way s:Nat} (hm:me<n) (hs:s<n) (hne:s≠me):1≤distM n me way s:=by
 unfold distM
 split
 ·rcases Nat.lt_or_ge me s with h | h
  ·rw [Nat.mod_eq_of_lt (by omega)];omega
  ·rw [show me+n - s=(me - s)+n from by omega,Nat.add_mod_right,Nat.mod_eq_of_lt (by omega)];omega
 ·rcases Nat.lt_or_ge s me with h | h
  ·rw [Nat.mod_eq_of_lt (by omega)];omega
  ·rw [show s+n - me=(s - me)+n from by omega,Nat.add_mod_right,Nat.mod_eq_of_lt (by omega)];omega
def OfPost (r:Rw) (w:World) (e:Ending) (w':World):Prop:=∃tv,e=.returned (.agg (r.vals tv).toArray)∧RowR (fun _=>True) w' r tv∧Below w.heap.size w w'
set_option maxRecDepth 100000 in
set_option maxHeartbeats 1000000 in
theorem of_self (p cl cn n me:Nat) (was:Nat→Nat→Nat→Rw) (w:World) (hn:w.cell? ⟨p,0,none⟩=some (.int .i64 n)) (hme:w.cell? ⟨p,1,none⟩=some (.int .i64 me)) (hp:p<w.heap.size)
 (h4:4≤n) (h16:n≤16) (hm:me<n) (hw:WasOk w cl cn n was) (hok:∀a q s,(was a q s).ok) :
 Calls Tryz.prog 143 #[.pointer (some ⟨p,0,none⟩),.int .i64 me,.func (.func 142) #[] #[.pointer (some ⟨cl,0,none⟩),.pointer (some ⟨cn,0,none⟩)]] w (OfPost (ofM n me me was) w):=by
 have HB:Hid (Below w.heap.size w (w.alloc (.cells rowZ.toArray 134))):=Lib.hid ((Below.refl _ _).alloc (Nat.le_refl _) _)
 obtain⟨g0,g1,g2,g3,hc,hr⟩:=hw _ n HB.out (by omega) (Nat.le_refl _)
 have HC:=Lib.hid hc
 have HRD:=Lib.hid hr
 have HL:Hid (∀w':World,Below w.heap.size w w'→w'.cell? ⟨p,0,none⟩=some (.int .i64 n)∧w'.cell? ⟨p,1,none⟩=some (.int .i64 me)):=Lib.hid fun w' h=>⟨(h.cell (p:=⟨p,0,none⟩) hp).trans hn,(h.cell (p:=⟨p,1,none⟩) hp).trans hme⟩
 have hbm:((me:Int)==(me:Int))=true:=by simp
 have HOK:=Lib.hid hok
 obtain⟨f1,f2⟩:=HL.out _ HB.out
 clear hc hr hn hme hok hw
 go_enter Tryz.func143,Tryz.ntmps143
 have k0:=Blk.new w 134 rowZ.toArray
 have K0:=Lib.hid k0
 clear k0
 go_wp2_with fail
 generalize w.alloc (.cells rowZ.toArray 134)=w0 at HB HC K0 f1 f2 ⊢
 refine HC.out.mono ?_
 rintro e w1 ⟨rfl,hb1⟩
 have H1:=Lib.hid (And.intro (HB.out.trans (hb1.mono HB.out.size)) (K0.out.below hb1 K0.out.lt))
 clear hb1
 obtain⟨b,off,x,m,cp,r,heq,hS,hbw,hl,hrok,-,-,r1,r2,-,-,r5,r6,r7⟩:=(HRD.out w1 H1.out.1).1.at_ me hm
 cases heq
 rw [tab_at hm] at hl
 cases hl
 obtain⟨xv,hxv⟩:∃xv,xv=(was n 0 me).vals (.slice x m cp):=⟨_,rfl⟩
 have r3:rowOf w1 ⟨g0,me*57,none⟩ 57=xv:=by rw [hxv,←Nat.zero_add (me*57)];exact r2
 have hvl:xv.length=57:=by rw [hxv];exact Rw.len hrok _
 have HRR:Hid (RowR (· <w.heap.size) w1 (was n 0 me) (.slice x m cp)):=Lib.hid ⟨x,m,cp,rfl,r5,r6,r7⟩
 have hvc:xv.all cell1=true:=by rw [hxv];exact HRR.out.cell1 hrok
 have HXV:=Lib.hid hxv
 rw [Nat.zero_add] at r1
 clear r2 r5 r6 r7 hxv
 have c3:canPut w1 ⟨w.heap.size,0,none⟩ 57=true:=(H1.out.2.whole (n:=57) len_rowZ).2.2
 unfold slV
 go_wp2_with fail
 try simp only [Exit.inBlock,Exit.then]
 have HBK:Hid (Blk (putRow w1 ⟨w.heap.size,0,none⟩ xv) w.heap.size 134 xv.toArray):=Lib.hid (H1.out.2.put_all (by rw [hvl];exact len_rowZ))
 obtain⟨q1,q2,-⟩:=HBK.out.whole (n:=57) hvl
 first | refine bodyPost_ret (ret_row (n:=57) rfl (by kernel_rfl) _ _ _ rfl ?_) rfl ?_ | refine bodyPost_end (ret_row (n:=57) rfl (by kernel_rfl) _ _ _ rfl ?_) rfl ?_
 ·exact q1
 ·have hc:=(Chg.refl (· =w.heap.size) w1).put (p:=⟨w.heap.size,0,none⟩) (.inl rfl) xv
  rw [q2,show ofM n me me was=was n 0 me from by unfold ofM;rw [if_pos rfl]]
  refine⟨.slice x m cp,by rw [HXV.out],(HRR.out.keep hc.size (fun b hb hl=>hc.block b hl (by omega))).mono (fun _ _ _=>trivial),Below.put H1.out.1 (p:=⟨w.heap.size,0,none⟩) (Nat.le_refl _) _⟩
theorem OfI.step {w:World} {all:List Rw} {k:Nat} {v:Value} {wr wm w1:World} (h:OfI w all k v wr) (hm:Below wr.heap.size wr wm) {ps:List (Rw×Value)} (p1:ps.length=2*k) (p2:ps.map Prod.fst=all.take (2*k)) (p4:∀p ∈ ps,p.1.ok∧RowR (· <w.heap.size) wr p.1 p.2) (p3:wr.ownsRow (w.heap.size+1) 134 57 v (2*k) (flatP ps))
 {r0 r1:Rw} {t0 t1:Value} (e0:all[2*k]? =some r0) (e1:all[2*k+1]? =some r1) (o0:r0.ok) (o1:r1.ok) (x0:RowR (· <w.heap.size) wm r0 t0) (x1:RowR (· <w.heap.size) wm r1 t1) {g cap:Nat}
 (ho:w1.ownsRow (w.heap.size+1) 134 57 (.slice (some ⟨g,0,none⟩) (2*k+2) cap) (2*k+2) (flatP ps++(r0.vals t0++r1.vals t1))) (hg:wm.grownBy w1 v.ownBlock):OfI w all (k+1) (.slice (some ⟨g,0,none⟩) (2*k+2) cap) w1:=by
 have hB:w.heap.size+1≤wm.heap.size:=by have:=h.b.lt;have:=hm.size;omega
 have hno:∀b,b≤w.heap.size→some b≠v.ownBlock:=fun b hb e=>by have:=(p3.lt b e.symm).1;omega
 have hkeep:∀{r:Rw} {tv:Value},RowR (· <w.heap.size) wm r tv→RowR (· <w.heap.size) w1 r tv:=fun {r tv} hr=>hr.keep hg.size (fun b hb hl=>hg.block b hl (hno b (by omega)))
 refine⟨?_,⟨ps++ [(r0,t0),(r1,t1)],by simp;omega,?_,?_,fun p hp=> ?_⟩,?_⟩
 ·exact (hg.block _ (by omega) (hno _ (Nat.le_refl _))).trans (h.b.below hm h.b.lt)
 ·rw [List.map_append,p2,show 2*(k+1)=2*k+1+1 from by omega,List.take_add_one,List.take_add_one,e0,e1]
  simp
 ·simp only [flatP,List.flatMap_append,List.flatMap_cons,List.flatMap_nil,List.append_nil] at ho ⊢
  rw [show 2*(k+1)=2*k+2 from by omega]
  exact ho
 ·rcases List.mem_append.1 hp with hp | hp
  ·exact⟨(p4 p hp).1,hkeep ((p4 p hp).2.below hm)⟩
  ·simp only [List.mem_cons,List.not_mem_nil,or_false] at hp
   rcases hp with rfl | rfl
   ·exact⟨o0,hkeep x0⟩
   ·exact⟨o1,hkeep x1⟩
 ·exact (h.bel.trans (hm.mono h.bel.size)).grown hg (by omega) (fun q hq=>by have:=(p3.lt q hq).1;omega)
theorem OfI.rd {w:World} {all:List Rw} {k:Nat} {v:Value} {wr:World} (h:OfI w all k v wr):∃a cap,v=.slice a (2*k) cap∧RdRs (fun b=>b<wr.heap.size∧b≠w.heap.size) wr a (2*k) (all.take (2*k))∧2*k≤cap∧cap≤maxLen:=by
 obtain⟨ps,p1,p2,p3,p4⟩:=h.own
 rcases p3.2 with ⟨rfl,h0⟩ | ⟨g,cap,cur,rfl,hb,hg,hnc,hcm,hcs,htake⟩
 ·have e:ps=[]:=List.eq_nil_of_length_eq_zero (by omega)
  subst e
  rw [←p2]
  exact⟨none,0,by rw [←p1];rfl,by rw [←p1];exact⟨rfl,by simp,by simp⟩,by omega,by simp⟩
 ·have hS:¬(g<w.heap.size):=by omega
  have hb2:=HB.of_own (W:=w) (S:=(· <w.heap.size)) p3 p4 (by omega) hS h.bel
  have:=hb2.rd
  rw [p1,p2] at this
  exact⟨_,cap,rfl,this.mono (fun b hb hs=>⟨hb,by omega⟩),hnc,hcm⟩
theorem OfI.drew {w:World} {all:List Rw} {k:Nat} {v:Value} {wr:World} (h:OfI w all k v wr):OfI w all k v wr.drew:=by
 obtain⟨ps,p1,p2,p3,p4⟩:=h.own
 exact⟨h.b.drew,⟨ps,p1,p2,p3,fun p hp=>⟨(p4 p hp).1,(p4 p hp).2.keep (Nat.le_refl _) (fun _ _ _=>rfl)⟩⟩,h.bel.drew⟩
theorem put_early {wr w5:World} {k:Nat} {a b:Value} (h:Below ((wr.alloc (.cells #[a,b] 360)).drewN k).heap.size ((wr.alloc (.cells #[a,b] 360)).drewN k) w5):canPut w5 ⟨wr.heap.size,0,none⟩ 2=true∧Hid (Blk w5 wr.heap.size 360 [a,b].toArray∧Below wr.heap.size wr w5):=by
 have hb:Blk ((wr.alloc (.cells #[a,b] 360)).drewN k) wr.heap.size 360 [a,b].toArray:=(Blk.new wr 360 [a,b].toArray).drewN k
 have:=hb.below h hb.lt
 exact⟨(this.whole (n:=2) rfl).2.2,Lib.hid ⟨this,(Below.drewN_ ((Below.refl _ _).alloc (Nat.le_refl _) _) k).trans (h.mono (by simp [World.drewN]))⟩⟩
theorem put_mid {wr w5:World} {k:Nat} {a b:Value} (h:Below ((wr.drewN k).alloc (.cells #[a,b] 360)).heap.size ((wr.drewN k).alloc (.cells #[a,b] 360)) w5):canPut w5 ⟨wr.heap.size,0,none⟩ 2=true∧Hid (Blk w5 wr.heap.size 360 [a,b].toArray∧Below wr.heap.size wr w5):=by
 have hb:Blk ((wr.drewN k).alloc (.cells #[a,b] 360)) wr.heap.size 360 [a,b].toArray:=Blk.new (wr.drewN k) 360 [a,b].toArray
 have:=hb.below h hb.lt
 exact⟨(this.whole (n:=2) rfl).2.2,Lib.hid ⟨this,((Below.drewN_ (Below.refl _ _) k).alloc (Nat.le_refl _) _).trans (h.mono (by have:(wr.drewN k).heap.size=wr.heap.size:=rfl;simp <;> omega))⟩⟩
def CutW (w:World) (all:List Rw) (n k s:Nat) (f0 f1:Nat→Rw) (v s9:Value) (wx:World):Prop:=
 ∃(wc:World),wc=wx∧∃gs gt gn:Nat,s9=.pointer (some ⟨gs,0,none⟩)∧Blk wx gs 360 [.slice (some ⟨gt,0,none⟩) n n,.slice (some ⟨gn,0,none⟩) n n].toArray∧OfI w all k v wx∧gs≠w.heap.size∧w.heap.size≤gs∧
  (∀w'':World,Below w.heap.size w w''→RdRs (· <w.heap.size) w'' (some ⟨gt,0,none⟩) n (tab n f0)∧RdRs (· <w.heap.size) w'' (some ⟨gn,0,none⟩) n (tab n f1))
theorem OfI.below {w:World} {all:List Rw} {k:Nat} {v:Value} {wr w':World} (h:OfI w all k v wr) (hb:Below wr.heap.size wr w'):OfI w all k v w':=by
 obtain⟨ps,p1,p2,p3,p4⟩:=h.own
 exact⟨h.b.below hb h.b.lt,⟨ps,p1,p2,own_block p3 (fun q hq=>hb.block q (p3.lt q hq).2),fun p hp=>⟨(p4 p hp).1,(p4 p hp).2.below hb⟩⟩,h.bel.trans (hb.mono h.bel.size)⟩
set_option maxRecDepth 100000 in
set_option maxHeartbeats 4000000 in
theorem of_other (p cl cn n me s:Nat) (was:Nat→Nat→Nat→Rw) (w:World) (hn:w.cell? ⟨p,0,none⟩=some (.int .i64 n)) (hme:w.cell? ⟨p,1,none⟩=some (.int .i64 me)) (hp:p<w.heap.size)
 (h4:4≤n) (h16:n≤16) (hm:me<n) (hs:s<n) (hne:s≠me) (hw:WasOk w cl cn n was) (hok:∀a q s,(was a q s).ok) :
 Calls Tryz.prog 143 #[.pointer (some ⟨p,0,none⟩),.int .i64 s,.func (.func 142) #[] #[.pointer (some ⟨cl,0,none⟩),.pointer (some ⟨cn,0,none⟩)]] w (OfPost (ofM n me s was) w):=by
 obtain⟨all,hall⟩:∃all,all=[was (n - distM n me 0 s) 0 s,was (n - distM n me 0 s) 1 s,was (n - distM n me 1 s) 2 s,was (n - distM n me 1 s) 3 s]:=⟨_,rfl⟩
 have HM:Hid (ofM n me s was=certM all):=Lib.hid (by unfold ofM;rw [if_neg hne,hall])
 have HALL:Hid (all.length=4∧∀k,k<2→all[2*k]? =some (was (n - distM n me k s) (2*k) s)∧all[2*k+1]? =some (was (n - distM n me k s) (2*k+1) s)):=Lib.hid (by
  rw [hall]
  refine⟨rfl,fun k hk=> ?_⟩
  have hk':k=0∨k=1:=by omega
  rcases hk' with rfl | rfl <;> exact⟨rfl,rfl⟩)
 clear hall
 have HB:Hid (Below w.heap.size w (w.alloc (.cells rowZ.toArray 134))):=Lib.hid ((Below.refl _ _).alloc (Nat.le_refl _) _)
 have HW:=Lib.hid hw
 have HL:Hid (∀w':World,Below w.heap.size w w'→w'.cell? ⟨p,0,none⟩=some (.int .i64 n)∧w'.cell? ⟨p,1,none⟩=some (.int .i64 me)):=Lib.hid fun w' h=>⟨(h.cell (p:=⟨p,0,none⟩) hp).trans hn,(h.cell (p:=⟨p,1,none⟩) hp).trans hme⟩
 have HD0:Hid (∀k,1≤distM n me k s∧distM n me k s<n):=Lib.hid fun k=>⟨distM_pos hm hs hne,distM_lt (by omega)⟩
 have hbm:((s:Int)==(me:Int))=false:=by simp;omega
 have HOK:=Lib.hid hok
 have HNE:=Lib.hid hne
 obtain⟨f1,f2⟩:=HL.out _ HB.out
 clear hn hme hok hw hne
 have HI:Hid (OfI w all 0 (.slice none 0 0) (w.alloc (.cells rowZ.toArray 134))):=Lib.hid ⟨Blk.new _ _ _,⟨[],rfl,rfl,World.ownsRow_nil _ _ _ _,by simp⟩,HB.out⟩
 go_enter Tryz.func143,Tryz.ntmps143
 go_wp2_with fail
 generalize w.alloc (.cells rowZ.toArray 134)=w0 at HB HI f1 f2 ⊢
 go_loopw [7,27] (fun v i wr=> ∃k:Nat,k≤2∧i=.int .i64 k∧OfI w all k v wr) (fun _ i _=>2 - (intOf i).toNat)
 case atStart=>exact⟨0,by omega,rfl,HI.out⟩
 case round=>
  obtain⟨k,hk,rfl,hI⟩:=hrel
  have HJ:=Lib.hid hI
  clear hI
  by_cases hlt:k<2
  ·obtain⟨dd,hdd⟩:∃dd,dd=distM n me k s:=⟨_,rfl⟩
   have hd1:1≤dd∧dd<n:=by rw [hdd];exact HD0.out k
   obtain⟨hd1,hd2⟩:=hd1
   have HAT:=HALL.out.2 k hlt
   rw [←hdd] at HAT
   have HAT:=Lib.hid HAT
   have HDD:=Lib.hid hdd
   obtain⟨q1,q2⟩:=HL.out wr HJ.out.bel
   have HCD:Hid (∀w':World,(Below wr.heap.size wr w'∧w'.cell? ⟨p,0,none⟩=some (.int .i64 n))→Calls Tryz.prog 186 #[.pointer (some ⟨p,0,none⟩),.int .i64 k,.int .i64 s] w' fun e w''=>e=.returned (.int .i64 dd)∧∃q,w''=w'.drewN q):=Lib.hid fun w' h=>by
    obtain⟨q1,q2⟩:=HL.out w' (HJ.out.bel.trans (h.1.mono HJ.out.bel.size))
    rw [HDD.out];exact distance_any p n me k s w' q1 q2 h4 h16 hm hs
   have HCW:Hid (∀w':World,(Below wr.heap.size wr w'∧w'.cell? ⟨p,0,none⟩=some (.int .i64 n))→∃(mv:List Value) (gt gn:Nat),Calls Tryz.prog 142 #[.int .i64 ((n:Int) - (dd:Int)),.pointer (some ⟨cl,0,none⟩),.pointer (some ⟨cn,0,none⟩)] w' (WasPost mv w')∧
    (∀w2:World,(Instr.index 363 (.agg mv.toArray) (.int .i64 (k:Int))).run Tryz.prog w2=.ok (.agg #[.slice (some ⟨gt,0,none⟩) n n,.slice (some ⟨gn,0,none⟩) n n]) w2)∧
    Hid (∀w'':World,Below w.heap.size w w''→RdRs (· <w.heap.size) w'' (some ⟨gt,0,none⟩) n (tab n (was (n - dd) (2*k)))∧RdRs (· <w.heap.size) w'' (some ⟨gn,0,none⟩) n (tab n (was (n - dd) (2*k+1))))):=Lib.hid fun w' h=>by
    have:=HW.out.way (HJ.out.bel.trans (h.1.mono HJ.out.bel.size)) (ago:=n - dd) (by omega) (by omega) hlt
    rw [show ((n - dd:Nat):Int)=(n:Int) - dd from by omega] at this
    exact this
   have HT:Hid (∀w':World,Below wr.heap.size wr w'→(Below wr.heap.size wr w'∧w'.cell? ⟨p,0,none⟩=some (.int .i64 n))):=Lib.hid fun w' h=>⟨h,(HL.out w' (HJ.out.bel.trans (h.mono HJ.out.bel.size))).1⟩
   have HT1:Hid (∀(w':World) (q:Nat),(Below wr.heap.size wr w'∧w'.cell? ⟨p,0,none⟩=some (.int .i64 n))→(Below wr.heap.size wr (w'.drewN q)∧(w'.drewN q).cell? ⟨p,0,none⟩=some (.int .i64 n))):=Lib.hid fun w' q h=>HT.out _ (Below.drewN_ h.1 q)
   have HT2:Hid (∀(w':World) (o:Obj),(Below wr.heap.size wr w'∧w'.cell? ⟨p,0,none⟩=some (.int .i64 n))→(Below wr.heap.size wr (w'.alloc o)∧(w'.alloc o).cell? ⟨p,0,none⟩=some (.int .i64 n))):=Lib.hid fun w' o h=>HT.out _ (h.1.alloc h.1.size _)
   have HT3:Hid (∀(w' w'':World),Below w'.heap.size w' w''→(Below wr.heap.size wr w'∧w'.cell? ⟨p,0,none⟩=some (.int .i64 n))→(Below wr.heap.size wr w''∧w''.cell? ⟨p,0,none⟩=some (.int .i64 n))):=Lib.hid fun w' w'' hb h=>HT.out _ (h.1.trans (hb.mono h.1.size))
   have HT6:Hid (∀(w5:World) (q:Nat) (o:Obj),Below (wr.drewN q).heap.size (wr.drewN q) w5→(Below wr.heap.size wr (w5.alloc o)∧(w5.alloc o).cell? ⟨p,0,none⟩=some (.int .i64 n))):=Lib.hid fun w5 q o h=>HT.out _ (((Below.drewN_ (Below.refl _ _) q).trans h).alloc h.size _)
   have HT4:Hid (∀(w':World) (l:List Value),(Below wr.heap.size wr w'∧w'.cell? ⟨p,0,none⟩=some (.int .i64 n))→(Below wr.heap.size wr (putRow w' ⟨wr.heap.size,0,none⟩ l)∧(putRow w' ⟨wr.heap.size,0,none⟩ l).cell? ⟨p,0,none⟩=some (.int .i64 n))):=Lib.hid fun w' l h=>HT.out _ (Below.put h.1 (p:=⟨wr.heap.size,0,none⟩) (Nat.le_refl _) l)
   have hb2:decide ((k:Int)<2)=true:=by simp;omega
   have wd:IntKind.i64.wrap ((n:Int) - (dd:Int))=(n:Int) - dd:=IntWalk.i64_in _ (by omega)
   clear hdd q2 q1
   obtain⟨f0,hf0⟩:∃f0,f0=was (n - dd) (2*k):=⟨_,rfl⟩
   obtain⟨f1,hf1⟩:∃f1,f1=was (n - dd) (2*k+1):=⟨_,rfl⟩
   have HF:=Lib.hid (And.intro hf0 hf1)
   rw [←hf0,←hf1] at HCW
   clear hf0 hf1
   have EL:Hid (∀(w5:World) (gt gn q:Nat),Below (wr.drewN q).heap.size (wr.drewN q) w5→(∀w'':World,Below w.heap.size w w''→RdRs (· <w.heap.size) w'' (some ⟨gt,0,none⟩) n (tab n f0)∧RdRs (· <w.heap.size) w'' (some ⟨gn,0,none⟩) n (tab n f1))→
    CutW w all n k s f0 f1 u7 (.pointer (some ⟨w5.heap.size,0,none⟩)) (w5.alloc (.cells #[.slice (some ⟨gt,0,none⟩) n n,.slice (some ⟨gn,0,none⟩) n n] 360))):=Lib.hid fun w5 gt gn q hb hr=>by
    have h1:=HJ.out.b.lt
    have h2:=hb.size
    have h3:(wr.drewN q).heap.size=wr.heap.size:=rfl
    exact⟨_,rfl,w5.heap.size,gt,gn,rfl,Blk.new _ _ _,HJ.out.below ((HT6.out w5 q _ hb).1),by omega,by omega,hr⟩
   have EE:Hid (∀(w5:World) (gt gn:Nat) (a b:Value),(Blk w5 wr.heap.size 360 [a,b].toArray∧Below wr.heap.size wr w5)→(∀w'':World,Below w.heap.size w w''→RdRs (· <w.heap.size) w'' (some ⟨gt,0,none⟩) n (tab n f0)∧RdRs (· <w.heap.size) w'' (some ⟨gn,0,none⟩) n (tab n f1))→
    CutW w all n k s f0 f1 u7 (.pointer (some ⟨wr.heap.size,0,none⟩)) (putRow w5 ⟨wr.heap.size,0,none⟩ [.slice (some ⟨gt,0,none⟩) n n,.slice (some ⟨gn,0,none⟩) n n])):=Lib.hid fun w5 gt gn a b hb hr=>by
    have h1:=HJ.out.b.lt
    exact⟨_,rfl,wr.heap.size,gt,gn,rfl,hb.1.put_all rfl,HJ.out.below (Below.put hb.2 (p:=⟨wr.heap.size,0,none⟩) (Nat.le_refl _) _),by omega,by omega,hr⟩
   go_upto_region 7 with fail
   go_cut [9] from 30 to 42 (fun s9 wx=>CutW w all n k s f0 f1 u7 s9 wx)
   case first=>
    go_region_held3 (fun w'=>Below wr.heap.size wr w'∧w'.cell? ⟨p,0,none⟩=some (.int .i64 n))
     (with_reducible (first | assumption | exact HT.out _ (Below.refl _ _).drew | exact HT.out _ (Below.drewN_ (Below.refl _ _) _) | exact HT.out _ (Below.drewN_ ((Below.refl _ _).alloc (Nat.le_refl _) _) _) | exact HT1.out _ _ (by assumption) | exact HT2.out _ _ (by assumption) | exact HT3.out _ _ (by assumption) (by assumption) | exact HT4.out _ _ (by assumption) | exact HT6.out _ _ _ (by assumption)))
     ((first
       | (go_at_call 186;refine (HCD.out _ (by assumption)).mono ?_;rintro e w4 ⟨rfl,q,rfl⟩)
       | (obtain⟨mv,gt,gn,hcc,hidx,hrr⟩:=HCW.out _ (HT.out _ (Below.drewN_ (Below.refl wr.heap.size wr) (1+q)));(with_reducible refine hcc.mono ?_);rintro e w5 ⟨rfl,hb5⟩)
       | (obtain⟨mv,gt,gn,hcc,hidx,hrr⟩:=HCW.out _ (HT.out _ (Below.drewN_ ((Below.refl wr.heap.size wr).alloc (Nat.le_refl _) (.cells #[Value.slice none 0 0,Value.slice none 0 0] 360)) (1+q)));(with_reducible refine hcc.mono ?_);rintro e w5 ⟨rfl,hb5⟩;have hc5:=(put_early hb5).1;have HK5:=(put_early hb5).2)
       | (obtain⟨mv,gt,gn,hcc,hidx,hrr⟩:=HCW.out _ (HT.out _ ((Below.drewN_ (Below.refl wr.heap.size wr) (1+q)).alloc (Nat.le_refl wr.heap.size) (.cells #[Value.slice none 0 0,Value.slice none 0 0] 360)));(with_reducible refine hcc.mono ?_);rintro e w5 ⟨rfl,hb5⟩;have hc5:=(put_mid hb5).1;have HK5:=(put_mid hb5).2)))
    all_goals go_wp2_with fail
    all_goals go_meet
    all_goals first
     | exact EL.out _ _ _ _ hb5 hrr.out
     | exact EE.out _ _ _ _ _ HK5.out hrr.out
   case rest=>
    obtain⟨wc,rfl,gs,gt,gn,rfl,hbs,hI,hg1,hg2,hrr⟩:=hcut
    obtain⟨b1,o1,x1,m1,cp1,r0,heq1,hS1,hbw1,hl1,hrok1,-,-,a1,a2,-,-,a5,a6,a7⟩:=(hrr wc hI.bel).1.at_ s hs
    cases heq1
    obtain⟨b2,o2,x2,m2,cp2,r1,heq2,hS2,hbw2,hl2,hrok2,-,-,c1,c2,-,-,c5,c6,c7⟩:=(hrr wc hI.bel).2.at_ s hs
    cases heq2
    rw [tab_at hs] at hl1 hl2
    cases hl1
    cases hl2
    have HI2:=Lib.hid hI
    obtain⟨ps,p1,p2,p3,p4⟩:=hI.own
    have HPS:=Lib.hid (And.intro p1 (And.intro p2 (And.intro p3 p4)))
    have g0:=hbs.cell 0
    have g1:=hbs.cell 1
    simp at g0 g1
    obtain⟨xv,hxv⟩:∃xv,xv=(f0 s).vals (.slice x1 m1 cp1):=⟨_,rfl⟩
    obtain⟨yv,hyv⟩:∃yv,yv=(f1 s).vals (.slice x2 m2 cp2):=⟨_,rfl⟩
    have a3:rowOf wc ⟨gt,s*57,none⟩ 57=xv:=by rw [hxv,←Nat.zero_add (s*57)];exact a2
    have c3:rowOf wc ⟨gn,s*57,none⟩ 57=yv:=by rw [hyv,←Nat.zero_add (s*57)];exact c2
    rw [Nat.zero_add] at a1 c1
    have HX1:Hid (RowR (· <w.heap.size) wc (f0 s) (.slice x1 m1 cp1)):=Lib.hid ⟨x1,m1,cp1,rfl,a5,a6,a7⟩
    have HX2:Hid (RowR (· <w.heap.size) wc (f1 s) (.slice x2 m2 cp2)):=Lib.hid ⟨x2,m2,cp2,rfl,c5,c6,c7⟩
    have hxl:xv.length=57:=by rw [hxv];exact Rw.len hrok1 _
    have hyl:yv.length=57:=by rw [hyv];exact Rw.len hrok2 _
    have hxc:xv.all cell1=true:=by rw [hxv];exact HX1.out.cell1 hrok1
    have hyc:yv.all cell1=true:=by rw [hyv];exact HX2.out.cell1 hrok2
    have HXV:=Lib.hid (And.intro hxv (And.intro hyv (And.intro hrok1 hrok2)))
    have HBS:=Lib.hid hbs
    have HGS:=Lib.hid (And.intro hbs.lt (And.intro hg1 hg2))
    clear a2 c2 a5 a6 a7 c5 c6 c7 hxv hyv hrok1 hrok2 p1 p2 p3 p4 hI hbs hrr
    have hxyc:(xv++yv).all cell1=true:=by rw [List.all_append,hxc,hyc];rfl
    have hxyl:(xv++yv).length=114:=by rw [List.length_append,hxl,hyl]
    have hgts:gt<wc.heap.size∧gn<wc.heap.size∧gt<w.heap.size∧gn<w.heap.size:=⟨hbw1,hbw2,hS1,hS2⟩
    have hgsz:=HGS.out
    obtain⟨hgs1,hgs2,hgs3⟩:=hgsz
    have hwc:w.heap.size<wc.heap.size:=HI2.out.b.lt
    have FF:Hid (∀w':World,Below wc.heap.size wc w'→(w'.cell? ⟨gs,0,none⟩=some (.slice (some ⟨gt,0,none⟩) n n)∧w'.cell? ⟨gs,1,none⟩=some (.slice (some ⟨gn,0,none⟩) n n)∧hasRow w' ⟨gt,s*57,none⟩ 57=true∧rowOf w' ⟨gt,s*57,none⟩ 57=xv∧hasRow w' ⟨gn,s*57,none⟩ 57=true∧rowOf w' ⟨gn,s*57,none⟩ 57=yv)):=Lib.hid fun w' h=>by
     have d1:=row_below h (p:=⟨gt,s*57,none⟩) hgts.1 57
     have d2:=row_below h (p:=⟨gn,s*57,none⟩) hgts.2.1 57
     exact⟨(h.cell (p:=⟨gs,0,none⟩) hgs1).trans g0,(h.cell (p:=⟨gs,1,none⟩) hgs1).trans g1,d1.1.trans a1,d1.2.trans a3,d2.1.trans c1,d2.2.trans c3⟩
    have hgno:Hid (some gs≠u7.ownBlock):=Lib.hid (fun e=>own_not HPS.out.2.2.1 (HBS.out) (by decide) e.symm)
    have GG:Hid (∀wm w':World,Below wc.heap.size wc wm→wm.grownBy w' u7.ownBlock→(w'.cell? ⟨gs,0,none⟩=some (.slice (some ⟨gt,0,none⟩) n n)∧w'.cell? ⟨gs,1,none⟩=some (.slice (some ⟨gn,0,none⟩) n n)∧hasRow w' ⟨gt,s*57,none⟩ 57=true∧rowOf w' ⟨gt,s*57,none⟩ 57=xv∧hasRow w' ⟨gn,s*57,none⟩ 57=true∧rowOf w' ⟨gn,s*57,none⟩ 57=yv)):=Lib.hid fun wm w' h hg=>by
     obtain⟨y1,y2,y3,y4,y5,y6⟩:=FF.out wm h
     have hz:=h.size
     have e1:w'.heap[gs]? =wm.heap[gs]?:=hg.block gs (by omega) hgno.out
     have d1:=row_grown hg (p:=⟨gt,s*57,none⟩) (by show gt<_;omega) (own_ne HPS.out.2.2.1 (b:=gt) (by omega)) 57
     have d2:=row_grown hg (p:=⟨gn,s*57,none⟩) (by show gn<_;omega) (own_ne HPS.out.2.2.1 (b:=gn) (by omega)) 57
     exact⟨(World.cell?_of_block e1).trans y1,(World.cell?_of_block e1).trans y2,d1.1.trans y3,d1.2.trans y4,d2.1.trans y5,d2.2.trans y6⟩
    clear hgts hgs2 hgs3 hbw1 hbw2
    go_upto_region 8 with fail
    go_region_held3 (fun w'=>(w'.cell? ⟨gs,0,none⟩=some (.slice (some ⟨gt,0,none⟩) n n)∧w'.cell? ⟨gs,1,none⟩=some (.slice (some ⟨gn,0,none⟩) n n)∧hasRow w' ⟨gt,s*57,none⟩ 57=true∧rowOf w' ⟨gt,s*57,none⟩ 57=xv∧hasRow w' ⟨gn,s*57,none⟩ 57=true∧rowOf w' ⟨gn,s*57,none⟩ 57=yv))
     (first | exact FF.out _ (Below.refl _ _).drew | exact FF.out _ ((Below.refl _ _).alloc (Nat.le_refl _) _).drew | exact FF.out _ ((Below.refl _ _).drew.alloc (Nat.le_refl _) _) | exact GG.out _ _ ((Below.refl _ _).alloc (Nat.le_refl _) _).drew hgrow | exact GG.out _ _ ((Below.refl _ _).drew.alloc (Nat.le_refl _) _) hgrow)
     ((refine step_lies app_row (by rfl) (.tmp 43) (.tmp 54) (by rfl) (w.heap.size+1) _ _ _ (by rfl) (HPS.out.2.2.1.alloc _) ⟨wc.heap.size,0,none⟩ 2 2 (xv++yv) (by rfl) (by rw [hxyl]) (hasRow_new wc _ _ 0 114 (by rw [hxyl];exact Nat.le_refl _)) ((rowOf_new wc _ _ 0 114 (by rw [hxyl];exact Nat.le_refl _)).trans (List.take_of_length_le (by rw [List.drop_zero,hxyl];exact Nat.le_refl _))) hxyc (by decide) (by omega) (by simp;omega) ?_;intro gg cp w7 hown1 hgrow hlie))
    have HAT2:=HAT.out
    have HFO:=HF.out
    rw [←HFO.1,←HFO.2] at HAT2
    have HEND:Hid (OfI w all (k+1) (.slice (some ⟨gg,0,none⟩) (2*k+2) cp) w7):=Lib.hid (by
     have hm:Below wc.heap.size wc ((wc.alloc (.cells (xv++yv).toArray 134)).drew):=((Below.refl _ _).alloc (Nat.le_refl _) _).drew
     refine HI2.out.step hm HPS.out.1 HPS.out.2.1 HPS.out.2.2.2 HPS.out.2.2.1 HAT2.1 HAT2.2 HXV.out.2.2.1 HXV.out.2.2.2 (HX1.out.below hm) (HX2.out.below hm) (g:=gg) (cap:=cp) ?_ hgrow
     rw [←HXV.out.1,←HXV.out.2.1]
     exact hown1)
    clear hown1 hgrow hlie HAT2 HFO
    go_wp2_with fail
    exact⟨⟨k+1,by omega,by go_num,HEND.out⟩,by simp [intOf];omega⟩
  ·obtain rfl:k=2:=by omega
   obtain⟨a,cap,rfl,hra,hc1,hc2⟩:=HJ.out.rd
   rw [List.take_of_length_le (by rw [HALL.out.1];omega)] at hra
   have HC:=Lib.hid (certified_any (fun b=>b<wr.heap.size∧b≠w.heap.size) a _ cap all wr hra hc1 hc2 (fun _ h=>h.1))
   rw [←HM.out] at HC
   obtain⟨R,hR⟩:∃R,R=ofM n me s was:=⟨_,rfl⟩
   rw [←hR] at HC ⊢
   have HRO:Hid R.ok:=Lib.hid (by rw [hR];exact ofM_ok HOK.out)
   have HRM:=Lib.hid hR
   clear hra hR
   go_wp2_with fail
   refine HC.out.mono ?_
   rintro e w8 ⟨tv,rfl,htr,hb8⟩
   have HK:Hid (Blk w8 w.heap.size 134 rowZ.toArray):=Lib.hid (HJ.out.b.below hb8 HJ.out.b.lt)
   have c3:canPut w8 ⟨w.heap.size,0,none⟩ 57=true:=(HK.out.whole (n:=57) len_rowZ).2.2
   obtain⟨zv,hzv⟩:∃zv,zv=R.vals tv:=⟨_,rfl⟩
   rw [←hzv]
   have hvl:zv.length=57:=by rw [hzv];exact Rw.len HRO.out _
   have hvc:zv.all cell1=true:=by rw [hzv];exact htr.cell1 HRO.out
   have HZV:=Lib.hid hzv
   have HBK:Hid (Blk (putRow w8 ⟨w.heap.size,0,none⟩ zv) w.heap.size 134 zv.toArray):=Lib.hid (HK.out.put_all (by rw [hvl];exact len_rowZ))
   have HBB:=Lib.hid (Below.put (HJ.out.bel.trans (hb8.mono HJ.out.bel.size)) (p:=⟨w.heap.size,0,none⟩) (Nat.le_refl _) zv)
   have HTT:Hid (RowR (fun _=>True) (putRow w8 ⟨w.heap.size,0,none⟩ zv) R tv):=Lib.hid (by
    have hc:=(Chg.refl (· =w.heap.size) w8).put (p:=⟨w.heap.size,0,none⟩) (.inl rfl) zv
    exact (htr.keep hc.size (fun b hb hl=>hc.block b hl (fun e=>hb.2 e))).mono (fun _ _ _=>trivial))
   clear hzv htr hb8
   go_wp2_with fail
   try simp only [Exit.inBlock,Exit.then]
   obtain⟨q1,q2,-⟩:=HBK.out.whole (n:=57) hvl
   first | refine bodyPost_ret (ret_row (n:=57) rfl (by kernel_rfl) _ _ _ rfl ?_) rfl ?_ | refine bodyPost_end (ret_row (n:=57) rfl (by kernel_rfl) _ _ _ rfl ?_) rfl ?_
   ·exact q1
   ·rw [q2,HZV.out]
    rw [HZV.out] at HTT HBB
    rw [←HRM.out]
    exact⟨tv,rfl,HTT.out,HBB.out⟩
theorem of_any (p cl cn n me s:Nat) (was:Nat→Nat→Nat→Rw) (w:World) (hn:w.cell? ⟨p,0,none⟩=some (.int .i64 n)) (hme:w.cell? ⟨p,1,none⟩=some (.int .i64 me)) (hp:p<w.heap.size)
 (h4:4≤n) (h16:n≤16) (hm:me<n) (hs:s<n) (hw:WasOk w cl cn n was) (hok:∀a q s,(was a q s).ok) :
 Calls Tryz.prog 143 #[.pointer (some ⟨p,0,none⟩),.int .i64 s,.func (.func 142) #[] #[.pointer (some ⟨cl,0,none⟩),.pointer (some ⟨cn,0,none⟩)]] w (OfPost (ofM n me s was) w):=by
 by_cases h:s=me
 ·subst h;exact of_self p cl cn n s was w hn hme hp h4 h16 hm hw hok
 ·exact of_other p cl cn n me s was w hn hme hp h4 h16 hm hs h hw hok
end Go.Proofs.YtdilbjikeilhbaaGreatDoor
