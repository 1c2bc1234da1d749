import Derived.Test.YtdilbjikeilhbaaGreatDoorGn04
import Derived.Deep.Cut
import Derived.Deep.CutRange
namespace Go.Proofs.YtdilbjikeilhbaaGreatDoor
open Go.RowKit
set_option linter.unusedVariables false
set_option linter.unusedSimpArgs false
def RCS (w:World) (c:Cl) (wr:World):Prop:=
 Blk wr w.heap.size 131 c.vals.toArray∧Blk wr (w.heap.size+1) 131 cellZ.toArray∧Below w.heap.size w wr
theorem RCS.below {w:World} {c:Cl} {wr w':World} (h:RCS w c wr) (hb:Below wr.heap.size wr w'):RCS w c w':=
 ⟨h.1.below hb h.1.lt,h.2.1.below hb h.2.1.lt,h.2.2.trans (hb.mono h.2.2.size)⟩
theorem RCS.set0 {w:World} {c:Cl} {wr:World} (h:RCS w c wr) (n:Int):RCS w { c with age:=n } (wr.setCell ⟨w.heap.size,0,none⟩ (.int .i64 n)):=by
 have h1:=h.1.set_ 0 (.int .i64 n)
 rw [Cl.set0] at h1
 exact⟨h1,h.2.1.far (by simp) _,h.2.2.trans ((Chg.refl (· =w.heap.size) wr).set_at 0 _ |>.below h.2.2.size (fun k hk=>by omega))⟩
theorem RCS.set53 {w:World} {c:Cl} {wr:World} (hv:c.v.length=40) (h:RCS w c wr) (n:Int):RCS w { c with cmd:=n } (wr.setCell ⟨w.heap.size,53,none⟩ (.int .i8 n)):=by
 have h1:=h.1.set_ 53 (.int .i8 n)
 rw [Cl.set53 hv] at h1
 exact⟨h1,h.2.1.far (by simp) _,h.2.2.trans ((Chg.refl (· =w.heap.size) wr).set_at 53 _ |>.below h.2.2.size (fun k hk=>by omega))⟩
theorem RCS.set54 {w:World} {c:Cl} {wr:World} (hv:c.v.length=40) (h:RCS w c wr) (n:Int):RCS w { c with mode:=n } (wr.setCell ⟨w.heap.size,54,none⟩ (.int .u8 n)):=by
 have h1:=h.1.set_ 54 (.int .u8 n)
 rw [Cl.set54 hv] at h1
 exact⟨h1,h.2.1.far (by simp) _,h.2.2.trans ((Chg.refl (· =w.heap.size) wr).set_at 54 _ |>.below h.2.2.size (fun k hk=>by omega))⟩
theorem Blk.far_put {w:World} {g:Nat} {t:TypeId} {cs:Array Value} (h:Blk w g t cs) {p:Addr} (hp:g≠p.block) (l:List Value):Blk (putRow w p l) g t cs:=(putRow_other w p l g hp).trans h
@[go_sem] theorem heldZ_cell1:heldZ.all cell1=true:=by kernel_rfl
@[go_sem] theorem rowZ_cell1:rowZ.all cell1=true:=by kernel_rfl
theorem okL_v {c:Cl} (hv:c.v.length=40) (h:okL cellK c.vals=true):c.v.all cell1=true:=okL_cell1 ((cell_ok_parts hv).1 h).2.2.2.1
theorem cellL_any (c:List Value) (h:okL cellK c=true) (w:World):Calls Tryz.prog 210 #[.agg c.toArray] w fun e w'=>e=.returned (.agg (nrm c).toArray)∧Below w.heap.size w w':=by
 obtain⟨C,rfl,hC⟩:=cell_of h
 rw [nrm_vals C hC]
 exact cell_any C hC (okL_v hC h) w
theorem may_any (n:Int) (w:World):Calls Tryz.prog 209 #[.int .i64 n] w fun e w'=>e=.returned (.bool (mayN n))∧w=w':=by
 by_cases h0:0≤n
 ·have e:mayN n=decide (n≤16):=by simp [mayN,h0]
  rw [e]
  go_enter Tryz.func209,Tryz.ntmps209
  go_wp2_with fail
  go_ret
  exact⟨rfl,rfl⟩
 ·have e:mayN n=false:=by simp [mayN];omega
  rw [e]
  go_enter Tryz.func209,Tryz.ntmps209
  go_wp2_with fail
  go_ret
  exact⟨rfl,rfl⟩
theorem Hd.cell1 {h:Hd} (hk:h.ok):h.vals.all cell1=true:=by
 have:=okL_cell1 hk
 simp only [Hd.vals,List.all_cons,cell1_bool,Bool.true_and]
 exact this
set_option maxRecDepth 100000 in
theorem held_any (h:Hd) (hk:h.ok) (w:World):Calls Tryz.prog 212 #[.agg h.vals.toArray] w fun e w'=>e=.returned (.agg h.nrm.vals.toArray)∧Below w.heap.size w w':=by
 obtain⟨is,c⟩:=h
 have hl:c.length=55:=Hd.ok_len hk
 have hB:∀(l z:List Value) (t t':TypeId),Below w.heap.size w ((w.alloc (.cells l.toArray t)).alloc (.cells z.toArray t')):=said_frame w
 have HB:=Lib.hid hB
 have HK:=Lib.hid hk
 clear hB hk
 cases is with
 | false=>
   simp only [Hd.vals]
   go_enter Tryz.func212,Tryz.ntmps212
   go_wp2_with fail
   try simp only [Exit.inBlock,Exit.then]
   first | refine bodyPost_ret (ret_row (n:=56) rfl (by kernel_rfl) _ _ _ rfl ?_) rfl ?_ | refine bodyPost_end (ret_row (n:=56) rfl (by kernel_rfl) _ _ _ rfl ?_) rfl ?_
   ·simp [go_sem]
   ·refine⟨?_,HB.out _ _ _ _⟩
    have e:List.take 55 cellZ=cellZ:=List.take_of_length_le (by rw [len_cellZ];omega)
    simp [go_sem,Hd.nrm,hd0,heldZ,e]
 | true=>
   have hn:Hd.nrm ⟨true,c⟩=⟨true,nrm c⟩:=rfl
   rw [hn]
   simp only [Hd.vals]
   have hnl:(nrm c).length=55:=(okL_len (nrm_ok HK.out)).trans len_cellK
   have hn1:=okL_cell1 (nrm_ok HK.out)
   have ht:List.take 55 c=c:=List.take_of_length_le (by omega)
   go_enter Tryz.func212,Tryz.ntmps212
   go_wp2_with fail
   refine (cellL_any c HK.out _).mono ?_
   rintro e w1 ⟨rfl,hb1⟩
   have hg:Blk w1 (w.heap.size+1) 204 heldZ.toArray:=by
    have:=Blk.new (w.alloc (.cells (Value.bool true :: c).toArray 204)) 204 heldZ.toArray
    have e:(w.alloc (.cells (Value.bool true :: c).toArray 204)).heap.size=w.heap.size+1:=by simp
    rw [e] at this
    exact this.below hb1 (by simp)
   obtain⟨-,-,k3⟩:=hg.whole len_heldZ
   have hp:=hg.put_all (l:=.bool true :: nrm c) (by simp [len_heldZ,hnl])
   obtain⟨p1,p2,-⟩:=hp.whole (n:=56) (by simp [hnl])
   have H:=Lib.hid (And.intro p1 (And.intro p2 (Below.put ((HB.out _ _ _ _).trans (hb1.mono (by simp;omega))) (p:=⟨w.heap.size+1,0,none⟩) (by simp) (.bool true :: nrm c))))
   clear hg hp p1 p2 hb1
   go_wp2_with fail
   try simp only [Exit.inBlock,Exit.then]
   first | refine bodyPost_ret (ret_row (n:=56) rfl (by kernel_rfl) _ _ _ rfl ?_) rfl ?_ | refine bodyPost_end (ret_row (n:=56) rfl (by kernel_rfl) _ _ _ rfl ?_) rfl ?_
   ·exact H.out.1
   ·exact⟨by rw [H.out.2.1],H.out.2.2⟩
def fillK (N k:Nat) (l:List Hd):List Hd:=(l.take k).map Hd.nrm++List.replicate (N - k) hd0
theorem fillK_len {N k:Nat} {l:List Hd} (h1:k≤N) (h2:k≤l.length):(fillK N k l).length=N:=by simp [fillK];omega
theorem fillK_ok {N k:Nat} {l:List Hd} (h:∀x ∈ l,x.ok):∀x ∈ fillK N k l,x.ok:=fun x hx=>by
 rcases List.mem_append.1 hx with hx | hx
 ·obtain⟨y,hy,rfl⟩:=List.mem_map.1 hx
  exact Hd.nrm_ok (h y (List.mem_of_mem_take hy))
 ·rw [List.eq_of_mem_replicate hx];exact hd0_ok
theorem fillK_set {N k:Nat} {l:List Hd} {x:Hd} (h1:k<N) (hx:l[k]? =some x):(fillK N k l).set k x.nrm=fillK N (k+1) l:=by
 have h2:k<l.length:=(List.getElem?_eq_some_iff.1 hx).1
 unfold fillK
 rw [List.take_add_one,hx]
 have e:N - k=(N - (k+1))+1:=by omega
 rw [e,List.replicate_succ,List.set_append,if_neg (by simp;omega)]
 have e2:k - ((l.take k).map Hd.nrm).length=0:=by simp;omega
 rw [e2]
 simp
theorem fillK_end (N:Nat) (l:List Hd):fillK N (min N l.length) l=fillH N l:=by
 unfold fillK fillH
 by_cases h:N≤l.length
 ·rw [Nat.min_eq_left h];simp;omega
 ·rw [Nat.min_eq_right (by omega),List.take_of_length_le (by omega),List.take_of_length_le (by omega)]
set_option maxRecDepth 100000 in
set_option maxHeartbeats 1000000 in
theorem fillh_any (S:Nat→Prop) (N:Nat) (hN:N≤16) (a:Option Addr) (len cap:Nat) (l:List Hd) (w:World) (hrd:RdHs S w a len l) (hm1:len≤cap) (hm2:cap≤maxLen) :
 Calls Tryz.prog 211 #[.int .i64 N,.slice a len cap,.func (.func 212) #[] #[]] w fun e w'=>e=.returned (.slice (some ⟨w.heap.size,0,none⟩) N N)∧Blk w' w.heap.size 204 (flatH (fillH N l)).toArray∧Below w.heap.size w w':=by
 have hl:l.length=len:=hrd.1
 unfold maxLen at hm2
 have HR:=Lib.hid hrd
 clear hrd
 have hN1:N≤1048576:=by omega
 obtain⟨M,hM⟩:∃M,M=min N len:=⟨_,rfl⟩
 go_enter Tryz.func211,Tryz.ntmps211
 go_wp2_with fail
 case' inl=>have e14:(len:Int)=(M:Int):=by omega
 case' inr=>have e14:(N:Int)=(M:Int):=by omega
 all_goals
  have hst:∀z,z=zrep heldZ N→Blk (w.alloc (.cells z.toArray 204)) w.heap.size 204 (flatH (fillK N 0 l)).toArray∧Below w.heap.size w (w.alloc (.cells z.toArray 204)):=by
   rintro z rfl
   rw [flatH_rep]
   have:fillK N 0 l=List.replicate N hd0:=by simp [fillK]
   rw [this]
   exact⟨Blk.new _ _ _,(Below.refl _ _).alloc (Nat.le_refl _) _⟩
  have hM1:M≤N:=by omega
  have hM2:M≤len:=by omega
  have HS:=Lib.hid hst
  have HM:=Lib.hid hM
  clear hM hst
 case' inl=>rw [e14]
 case' inr=>rw [show (Value.int .i64 (N:Int))=Value.int .i64 (M:Int) from by rw [e14]]
 all_goals
  clear e14
  go_loopw [15] (fun i wr=> ∃k:Nat,k≤M∧i=.int .i64 k∧Blk wr w.heap.size 204 (flatH (fillK N k l)).toArray∧Below w.heap.size w wr) (fun i _=>M - (intOf i).toNat)
  case atStart=>exact⟨0,by omega,rfl,HS.out _ rfl⟩
  case round=>
   obtain⟨k,hk,rfl,hb,hB⟩:=hrel
   by_cases hlt:k<M
   ·obtain⟨b,off,is,n,r,rfl,hS,hbw,hv,hok,hrl,hrc1,hr1,hr2,-⟩:=HR.out.at_ k (by omega)
    have d:=row_below hB (p:=⟨b,off+k*56,none⟩) hbw 56
    have d1:=d.1.trans hr1
    have d2:=d.2.trans hr2
    have hkN:k<N:=by omega
    have hkl:k<len:=by omega
    have hcall:=held_any ⟨is,.int .i64 n :: r⟩ hok wr
    obtain⟨y,hy⟩:∃y,y=Hd.nrm ⟨is,.int .i64 n :: r⟩:=⟨_,rfl⟩
    have hyk:y.ok:=by rw [hy];exact Hd.nrm_ok hok
    have hyl:=Hd.vals_len hyk
    have hyc:=Hd.cell1 hyk
    rw [←hy] at hcall
    have hset:=fillK_set hkN hv
    rw [←hy] at hset
    have hlen:=len_flatH (fillK_ok (N:=N) (k:=k) HR.out.2.1)
    rw [fillK_len (by omega) (by omega)] at hlen
    have hfs:=flatH_set (fillK_ok (N:=N) (k:=k) HR.out.2.1) (k:=k) (by rw [fillK_len (by omega) (by omega)];omega) y hyk
    rw [hset] at hfs
    have HC:=Lib.hid hcall
    have HH:=Lib.hid (And.intro hb (And.intro hB (And.intro hfs hlen)))
    clear d hr1 hr2 hv hok hrc1 hcall hset hfs hlen hb hB hy hyk
    go_wp2_with fail
    refine HC.out.mono ?_
    rintro e w1 ⟨rfl,hb1⟩
    have hbk:=HH.out.1.below hb1 HH.out.1.lt
    have hcp:canPut w1 ⟨w.heap.size,k*56,none⟩ 56=true:=by
     obtain⟨-,-,-,-,h5⟩:=hbk.rules
     rw [h5,HH.out.2.2.2]
     have:(k+1)*56≤N*56:=Nat.mul_le_mul_right _ hkN
     simp;omega
    have hnew:=hbk.put (k*56) y.vals
    have hnew2:Blk (putRow w1 ⟨w.heap.size,k*56,none⟩ y.vals) w.heap.size 204 (flatH (fillK N (k+1) l)).toArray:=by rw [←HH.out.2.2.1];exact hnew
    have H2:=Lib.hid (And.intro hnew2 (Below.put (HH.out.2.1.trans (hb1.mono HH.out.2.1.size)) (p:=⟨w.heap.size,k*56,none⟩) (Nat.le_refl _) y.vals))
    clear hbk hnew hnew2 hb1
    go_wp2
    exact⟨⟨k+1,by omega,by go_num,H2.out.1,H2.out.2⟩,by simp [intOf];omega⟩
   ·have hkM:k=M:=by omega
    subst hkM
    have e:fillK N k l=fillH N l:=by rw [HM.out,←hl];exact fillK_end N l
    rw [e] at hb
    have H2:=Lib.hid (And.intro hb hB)
    clear hb hB e
    go_wp2
    go_ret
    exact⟨rfl,H2.out.1,H2.out.2⟩
def RowR (S:Nat→Prop) (w:World) (r:Rw) (tv:Value):Prop:=∃x m cap,tv=.slice x m cap∧RdHs S w x m r.t∧m≤cap∧cap≤maxLen
def RoomV (S:Nat→Prop) (w:World) (tv:Value):Prop:=∀x m cap,tv=.slice x m cap→∀k,k<cap→∃b off cur,x=some ⟨b,off,none⟩∧S b∧w.heap[b]? =some (.cells cur 204 (0,0))∧off+k*56+56≤cur.size
theorem lt_of_some {w:World} {b:Nat} {o:Obj} (h:w.heap[b]? =some o):b<w.heap.size:=by
 rcases Nat.lt_or_ge b w.heap.size with hlt | hge
 ·exact hlt
 ·rw [Array.getElem?_eq_none hge] at h;cases h
theorem RoomV.keep {S:Nat→Prop} {w w':World} {tv:Value} (h:RoomV S w tv) (hk:∀b,S b→b<w.heap.size→w'.heap[b]? =w.heap[b]?):RoomV S w' tv:=fun x m cap e k hlt=>by
 obtain⟨b,off,cur,h1,h2,h3,h4⟩:=h x m cap e k hlt
 exact⟨b,off,cur,h1,h2,(hk b h2 (lt_of_some h3)).trans h3,h4⟩
theorem RoomV.mono {S S':Nat→Prop} {w:World} {tv:Value} (h:RoomV S w tv) (hs:∀b,b<w.heap.size→S b→S' b):RoomV S' w tv:=fun x m cap e k hlt=>by
 obtain⟨b,off,cur,h1,h2,h3,h4⟩:=h x m cap e k hlt
 exact⟨b,off,cur,h1,hs b (lt_of_some h3) h2,h3,h4⟩
theorem RoomV.nil (S:Nat→Prop) (w:World):RoomV S w (.slice none 0 0):=fun x m cap e k hlt=>by cases e;omega
theorem RoomV.of_blk {w:World} {g N:Nat} {cs:Array Value} (h:Blk w g 204 cs) (hs:N*56≤cs.size) (m:Nat):RoomV (· =g) w (.slice (some ⟨g,0,none⟩) m N):=fun x m' cap e k hlt=>by
 cases e
 have:(k+1)*56≤N*56:=Nat.mul_le_mul_right _ hlt
 exact⟨g,0,cs,rfl,rfl,h,by omega⟩
def RowX (S:Nat→Prop) (w:World) (r:Rw) (tv:Value):Prop:=RowR S w r tv∧RoomV S w tv
def PlainW (n:Int) (r:Rw) (w:World) (e:Ending) (w':World):Prop:=
 ∃tv,e=.returned (.agg ((r.plain n).vals tv).toArray)∧RowX (w.heap.size≤·) w' (r.plain n) tv∧Below w.heap.size w w'
theorem rowR_nil (S:Nat→Prop) (w:World) (r:Rw) (h:r.t=[]):RowR S w r (.slice none 0 0):=⟨_,_,_,rfl,by rw [h];exact⟨rfl,by simp,by simp⟩,Nat.le_refl _,by simp⟩
theorem rowX_nil (S:Nat→Prop) (w:World) (r:Rw) (h:r.t=[]):RowX S w r (.slice none 0 0):=⟨rowR_nil S w r h,RoomV.nil S w⟩
set_option maxRecDepth 100000 in
set_option maxHeartbeats 1000000 in
theorem plain_any (S:Nat→Prop) (n:Int) (r:Rw) (hr:r.ok) (tv:Value) (w:World) (ht:RowR S w r tv) :
 Calls Tryz.prog 166 #[.int .i64 n,.agg (r.vals tv).toArray] w (PlainW n r w):=by
 obtain⟨x,m,cap,rfl,ht1,ht2,ht3⟩:=ht
 obtain⟨is,c,t⟩:=r
 have hcl:c.length=55:=(okL_len hr.1).trans len_cellK
 have hc1:=okL_cell1 hr.1
 have hnl:(nrm c).length=55:=(okL_len (nrm_ok hr.1)).trans len_cellK
 have hn1:=okL_cell1 (nrm_ok hr.1)
 have hvl:(Rw.vals ⟨is,c,t⟩ (.slice x m cap)).length=57:=Rw.len hr _
 have hB:∀(l z:List Value) (t t':TypeId),Below w.heap.size w ((w.alloc (.cells l.toArray t)).alloc (.cells z.toArray t')):=said_frame w
 have HB:=Lib.hid hB
 have HK:=Lib.hid hr
 have HT:=Lib.hid (And.intro ht1 (And.intro ht2 ht3))
 have hg:∀l:List Value,Blk ((w.alloc (.cells l.toArray 134)).alloc (.cells rowZ.toArray 134)) (w.heap.size+1) 134 rowZ.toArray:=fun l=>by
  have:=Blk.new (w.alloc (.cells l.toArray 134)) 134 rowZ.toArray
  have e:(w.alloc (.cells l.toArray 134)).heap.size=w.heap.size+1:=by simp
  rwa [e] at this
 have HG:=Lib.hid hg
 clear hB hr ht1 ht2 ht3 hg
 have bad:∀b:Bool,(is&&mayN n)=b→b=false→Rw.plain n ⟨is,c,t⟩=rw0:=fun b h1 h2=>by
  unfold Rw.plain;rw [if_neg (by simp only;rw [h1,h2];simp)]
 have HBad:=Lib.hid bad
 clear bad
 have ez:List.take 57 rowZ=rowZ:=List.take_of_length_le (by rw [len_rowZ];omega)
 cases is with
 | false=>
   have HP:Hid (Rw.plain n ⟨false,c,t⟩=rw0):=Lib.hid (HBad.out false (by simp) rfl)
   simp only [Rw.vals] at hvl ⊢
   go_enter Tryz.func166,Tryz.ntmps166
   go_wp2_with fail
   try simp only [Exit.inBlock,Exit.then]
   first | refine bodyPost_ret (ret_row (n:=57) rfl (by kernel_rfl) _ _ _ rfl ?_) rfl ?_ | refine bodyPost_end (ret_row (n:=57) rfl (by kernel_rfl) _ _ _ rfl ?_) rfl ?_
   ·simp [go_sem]
   ·refine⟨.slice none 0 0,?_,?_,HB.out _ _ _ _⟩
    ·rw [HP.out,rw0_vals];simp [go_sem,ez]
    ·rw [HP.out];exact rowX_nil _ _ _ rfl
 | true=>
   simp only [Rw.vals] at hvl ⊢
   cases hm:mayN n with
   | false=>
     have HP:Hid (Rw.plain n ⟨true,c,t⟩=rw0):=Lib.hid (HBad.out false (by simp [hm]) rfl)
     go_enter Tryz.func166,Tryz.ntmps166
     go_wp2_with fail
     refine (may_any n _).mono ?_
     rintro e w' ⟨rfl,rfl⟩
     rw [hm]
     go_wp2_with fail
     try simp only [Exit.inBlock,Exit.then]
     first | refine bodyPost_ret (ret_row (n:=57) rfl (by kernel_rfl) _ _ _ rfl ?_) rfl ?_ | refine bodyPost_end (ret_row (n:=57) rfl (by kernel_rfl) _ _ _ rfl ?_) rfl ?_
     ·simp [go_sem]
     ·refine⟨.slice none 0 0,?_,?_,HB.out _ _ _ _⟩
      ·rw [HP.out,rw0_vals];simp [go_sem,ez]
      ·rw [HP.out];exact rowX_nil _ _ _ rfl
   | true=>
     have hn:0≤n∧n≤16:=by simpa [mayN] using hm
     obtain⟨N,rfl⟩:∃N:Nat,n=N:=⟨n.toNat,by omega⟩
     have HP:Hid (Rw.plain N ⟨true,c,t⟩=⟨true,nrm c,fillH N t⟩):=Lib.hid (by unfold Rw.plain;rw [if_pos (by simp [hm])];rfl)
     go_enter Tryz.func166,Tryz.ntmps166
     go_wp2_with fail
     refine (may_any N _).mono ?_
     rintro e w' ⟨rfl,rfl⟩
     rw [hm]
     go_upto_region 3 with fail
     generalize hw0:((w.alloc (.cells (Value.bool true :: (c++ [Value.slice x m cap])).toArray 134)).alloc (.cells rowZ.toArray 134))=w0
     have hB0:Below w.heap.size w w0:=by rw [←hw0];exact HB.out _ _ _ _
     have hsz:w0.heap.size=w.heap.size+1+1:=by rw [←hw0];simp
     have hb0:Blk w0 w.heap.size 134 (Value.bool true :: (c++ [Value.slice x m cap])).toArray:=by rw [←hw0];exact (Blk.new _ _ _).alloc _
     have hb1:Blk w0 (w.heap.size+1) 134 rowZ.toArray:=by rw [←hw0];exact HG.out _
     have HF:Hid (∀w':World,Below w0.heap.size w0 w'→hasRow w' ⟨w.heap.size,1,none⟩ 55=true∧rowOf w' ⟨w.heap.size,1,none⟩ 55=c∧w'.cell? ⟨w.heap.size,56,none⟩=some (.slice x m cap)∧canPut w' ⟨w.heap.size+1,0,none⟩ 57=true∧
      RdHs S w' x m t∧Below w.heap.size w w'∧Blk w' (w.heap.size+1) 134 rowZ.toArray):=Lib.hid fun w' h=>by
      have hB':Below w.heap.size w w':=hB0.trans (h.mono (by omega))
      have k1:=hb0.below h hb0.lt
      have k2:=hb1.below h hb1.lt
      obtain⟨r1,-,r3,r4,-⟩:=k1.rules
      obtain⟨-,-,q3⟩:=k2.whole len_rowZ
      refine⟨by rw [r3,hvl];rfl,?_,?_,q3,HT.out.1.below hB' (fun _ _ h=>h),hB',k2⟩
      ·rw [r4 _ _ (by omega)];simp [←hcl]
      ·rw [r1];simp [List.getElem?_append,hcl]
     obtain⟨f1,f2,f3,f4,-⟩:=HF.out w0 (Below.refl _ _)
     have hsc:w.heap.size+1<w0.heap.size:=by omega
     clear hb0 hb1 hw0 hB0 hsz hn
     have hN16:N≤16:=by simp [mayN] at hm;omega
     clear hm
     go_region_law (first | (go_simp;go_at_call 210;refine (cellL_any c HK.out.1 _).mono ?_;rintro e w1 ⟨rfl,hb1⟩;obtain⟨g1,g2,g3,g4,-⟩:=HF.out _ ((Below.refl _ _).drew.trans hb1);have HB1:=Lib.hid hb1;clear hb1) | (go_simp;go_at_call 211;refine (fillh_any S N hN16 x m cap t _ (HF.out _ ((Below.refl _ _).drew.trans HB1.out)).2.2.2.2.1 HT.out.2.1 HT.out.2.2).mono ?_;rintro e w2 ⟨rfl,hbk,hb2⟩;obtain⟨k1,k2,k3,k4,-⟩:=HF.out _ ((Below.refl _ _).drew.trans (HB1.out.trans (hb2.mono HB1.out.size)));have HB2:=Lib.hid (And.intro hbk hb2);clear hbk hb2))
     all_goals go_wp2_with fail
     all_goals
      obtain⟨-,-,-,-,-,hBw,hb⟩:=HF.out _ ((Below.refl _ _).drew.trans (HB1.out.trans (HB2.out.2.mono HB1.out.size)))
      have hpp:Blk (putRow w2 ⟨w.heap.size+1,0,none⟩ (Value.bool true :: (nrm c++ [Value.slice (some ⟨w1.heap.size,0,none⟩) N N]))) (w.heap.size+1) 134 (Value.bool true :: (nrm c++ [Value.slice (some ⟨w1.heap.size,0,none⟩) N N])).toArray:=hb.put_all (by rw [len_rowZ];simp [hnl])
      obtain⟨p1,p2,-⟩:=hpp.whole (n:=57) (by simp [hnl])
      try simp only [Exit.inBlock,Exit.then]
      first | refine bodyPost_ret (ret_row (n:=57) rfl (by kernel_rfl) _ _ _ rfl ?_) rfl ?_ | refine bodyPost_end (ret_row (n:=57) rfl (by kernel_rfl) _ _ _ rfl ?_) rfl ?_
      ·exact p1
      ·refine⟨.slice (some ⟨w1.heap.size,0,none⟩) N N,by rw [p2,HP.out];rfl,?_,Below.put hBw (by simp) _⟩
       rw [HP.out]
       have hok:=fillH_ok (n:=N) HK.out.2
       have hw1:w0.heap.size≤w1.heap.size:=HB1.out.size
       have hne:w1.heap.size≠w.heap.size+1:=by omega
       have h3:=(HB2.out.1.far_put (p:=⟨w.heap.size+1,0,none⟩) hne (Value.bool true :: (nrm c++ [Value.slice (some ⟨w1.heap.size,0,none⟩) N N])))
       have h4:=RdHs.of_blk (r:=[]) (by rw [List.append_nil];exact h3) hok
       rw [fillH_len] at h4
       exact⟨⟨_,_,_,rfl,h4.mono (fun b _ h=>by omega),Nat.le_refl _,by simp only [maxLen];omega⟩,(RoomV.of_blk h3 (by simp [len_flatH hok,fillH_len]) N).mono (fun b _ h=>by omega)⟩
theorem RowR.keep {S:Nat→Prop} {w w':World} {r:Rw} {tv:Value} (h:RowR S w r tv) (hs:w.heap.size≤w'.heap.size) (hk:∀b,S b→b<w.heap.size→w'.heap[b]? =w.heap[b]?):RowR S w' r tv:=by
 obtain⟨x,m,cap,rfl,h1,h2⟩:=h
 exact⟨x,m,cap,rfl,h1.keep hs hk,h2⟩
theorem RowR.mono {S S':Nat→Prop} {w:World} {r:Rw} {tv:Value} (h:RowR S w r tv) (hs:∀b,b<w.heap.size→S b→S' b):RowR S' w r tv:=by
 obtain⟨x,m,cap,rfl,h1,h2⟩:=h
 exact⟨x,m,cap,rfl,h1.mono hs,h2⟩
theorem RowR.below {S:Nat→Prop} {w w':World} {r:Rw} {tv:Value} (h:RowR S w r tv) (hb:Below w.heap.size w w'):RowR S w' r tv:=h.keep hb.size fun b _ hlt=>hb.block b hlt
theorem RowR.lenC {S:Nat→Prop} {w:World} {r:Rw} {tv:Value} (h:RowR S w r tv):lenC tv 1=true:=by
 obtain⟨x,m,cap,rfl,-⟩:=h
 rfl
theorem RowR.cell1 {S:Nat→Prop} {w:World} {r:Rw} {tv:Value} (h:RowR S w r tv) (hr:r.ok):(r.vals tv).all cell1=true:=by
 obtain⟨x,m,cap,rfl,-⟩:=h
 have:=okL_cell1 hr.1
 simp [Rw.vals,List.all_append] at this ⊢
 exact⟨rfl,this,rfl⟩
theorem RowX.keep {S:Nat→Prop} {w w':World} {r:Rw} {tv:Value} (h:RowX S w r tv) (hs:w.heap.size≤w'.heap.size) (hk:∀b,S b→b<w.heap.size→w'.heap[b]? =w.heap[b]?):RowX S w' r tv:=⟨h.1.keep hs hk,h.2.keep hk⟩
theorem RowX.mono {S S':Nat→Prop} {w:World} {r:Rw} {tv:Value} (h:RowX S w r tv) (hs:∀b,b<w.heap.size→S b→S' b):RowX S' w r tv:=⟨h.1.mono hs,h.2.mono hs⟩
theorem RowX.below {S:Nat→Prop} {w w':World} {r:Rw} {tv:Value} (h:RowX S w r tv) (hb:Below w.heap.size w w'):RowX S w' r tv:=h.keep hb.size fun b _ hlt=>hb.block b hlt
def RowsB (S:Nat→Prop) (w:World) (g:Nat) (t:TypeId) (L:List Rw):Prop:=
 ∃cs:List Value,Blk w g t cs.toArray∧cs.length=L.length*57∧∀k r,L[k]? =some r→∃tv,(∀i,i<57→cs[k*57+i]? =(r.vals tv)[i]?)∧RowX S w r tv
theorem RowsB.lt {S:Nat→Prop} {w:World} {g:Nat} {t:TypeId} {L:List Rw} (h:RowsB S w g t L):g<w.heap.size:=by
 obtain⟨cs,h1,-⟩:=h
 exact h1.lt
theorem RowsB.below {S:Nat→Prop} {w w':World} {g:Nat} {t:TypeId} {L:List Rw} (h:RowsB S w g t L) (hb:Below w.heap.size w w'):RowsB S w' g t L:=by
 obtain⟨cs,h1,h2,h3⟩:=h
 refine⟨cs,h1.below hb h1.lt,h2,fun k r hk=> ?_⟩
 obtain⟨tv,h4,h5⟩:=h3 k r hk
 exact⟨tv,h4,h5.below hb⟩
theorem RowsB.canPut {S:Nat→Prop} {w:World} {g:Nat} {t:TypeId} {L:List Rw} (h:RowsB S w g t L) (k:Nat) (hk:k<L.length):canPut w ⟨g,k*57,none⟩ 57=true:=by
 obtain⟨cs,h1,h2,-⟩:=h
 obtain⟨-,-,-,-,h5⟩:=h1.rules
 rw [h5,h2]
 simp;omega
theorem RowsB.set {S:Nat→Prop} {w:World} {g:Nat} {t:TypeId} {L:List Rw} (h:RowsB S w g t L) (hS:∀b,S b→b≠g) {k:Nat} (hk:k<L.length) {r:Rw} (hr:r.ok) {tv:Value} (ht:RowX S w r tv) :
 RowsB S (putRow w ⟨g,k*57,none⟩ (r.vals tv)) g t (L.set k r):=by
 obtain⟨cs,h1,h2,h3⟩:=h
 have hl:=Rw.len hr tv
 have kp:∀{r':Rw} {tv':Value},RowX S w r' tv'→RowX S (putRow w ⟨g,k*57,none⟩ (r.vals tv)) r' tv':=fun h=>h.keep (by simp) (fun b hb _=>putRow_other _ _ _ _ (hS b hb))
 refine⟨spl cs (k*57) (r.vals tv),h1.put (k*57) (r.vals tv),?_,fun j q hj=> ?_⟩
 ·rw [len_spl (by rw [h2,hl];omega),h2,List.length_set]
 ·by_cases hjk:j=k
  ·subst hjk
   rw [List.getElem?_set_self (by omega)] at hj
   cases hj
   refine⟨tv,fun i hi=> ?_,kp ht⟩
   rw [spl_get (by rw [h2,hl];omega),if_neg (by omega),if_pos (by omega)]
   congr 1;omega
  ·rw [List.getElem?_set_ne (fun e=>hjk e.symm)] at hj
   obtain⟨tv',h4,h5⟩:=h3 j q hj
   refine⟨tv',fun i hi=> ?_,kp h5⟩
   rw [spl_get (by rw [h2,hl];omega)]
   by_cases hlt:j<k
   ·rw [if_pos (by omega)];exact h4 i hi
   ·rw [if_neg (by omega),if_neg (by omega)];exact h4 i hi
theorem RowsB.rd {S:Nat→Prop} {w:World} {g:Nat} {t:TypeId} {L:List Rw} (h:RowsB S w g t L) (hok:∀r ∈ L,r.ok):RdRs (fun b=>b=g∨S b) w (some ⟨g,0,none⟩) L.length L:=by
 obtain⟨cs,h1,h2,h3⟩:=h
 refine⟨rfl,hok,fun k r hk=> ?_⟩
 obtain⟨tv,h4,⟨x,m,cap,rfl,h5,h6,h7⟩,-⟩:=h3 k r hk
 have hl:=Rw.len (hok r (List.mem_of_getElem? hk)) (.slice x m cap)
 have hkl:=(List.getElem?_eq_some_iff.1 hk).1
 have hrow:=row_of_cells (w:=w) (p:=⟨g,0+k*57,none⟩) (l:=r.vals (.slice x m cap)) (fun j v hv=>by
  have hj:j<57:=by rw [←hl];exact (List.getElem?_eq_some_iff.1 hv).1
  rw [add_at,h1.cell]
  have:=h4 j hj
  rw [hv] at this
  simpa using this)
 rw [hl] at hrow
 exact⟨g,0,x,m,cap,rfl,.inl rfl,h1.lt,hrow.1,hrow.2,h5.mono (fun b _ h=> .inr h),h6,h7⟩
theorem RowsB.room {S:Nat→Prop} {w:World} {g:Nat} {t:TypeId} {L:List Rw} (h:RowsB S w g t L) (hok:∀r ∈ L,r.ok) {k:Nat} {r:Rw} (hk:L[k]? =some r) :
 ∃cur tv,w.heap[g]? =some (.cells cur t (0,0))∧w.cell? ⟨g,k*57+56,none⟩=some tv∧RoomV S w tv:=by
 obtain⟨cs,h1,h2,h3⟩:=h
 obtain⟨tv,h4,h5⟩:=h3 k r hk
 refine⟨_,tv,h1,?_,h5.2⟩
 have hl:r.c.length=55:=by rw [←len_cellK];exact okL_len (hok r (List.mem_of_getElem? hk)).1
 rw [h1.cell]
 have:=h4 56 (by omega)
 rw [show (r.vals tv)[56]? =some tv from by simp [Rw.vals,List.getElem?_append,hl]] at this
 simpa using this
theorem RowsB.start (S:Nat→Prop) (w:World) (t:TypeId) (N:Nat):RowsB S (w.alloc (.cells (zrep rowZ N).toArray t)) w.heap.size t (List.replicate N rw0):=by
 refine⟨zrep rowZ N,Blk.new _ _ _,?_,fun k r hk=> ?_⟩
 ·rw [len_zrep,len_rowZ];simp
 ·have hkN:k<N:=by simpa using (List.getElem?_eq_some_iff.1 hk).1
  rw [List.getElem?_replicate,if_pos hkN] at hk
  cases hk
  refine⟨.slice none 0 0,fun i hi=> ?_,rowX_nil _ _ _ rfl⟩
  rw [zrep_at (by rw [len_rowZ];omega) N _ (by rw [len_rowZ];omega),rw0_vals,len_rowZ]
  congr 1;omega
theorem mk_row:MakeOk Tryz.prog 59 134 rowZ:=⟨Tryz.underlying59,by kernel_rfl,by rw [len_rowZ];omega⟩
@[go_sem ↓] theorem ms_row (ρ:Operand→Value) (d:Option Tmp) (x y:Operand) (ty:TypeId) (s:String) (af:Array Edge) (g:Option (Nat×Bool)) (w:World) (h:madeOk (ρ x) (ρ y)=true) :
 (execOp ρ { dst:=d,op:=.makeSlice 59 x y,type:=ty,pos:=s,after:=af,guard:=g }).run Tryz.prog w =
   .ok (.value (.slice (some ⟨w.heap.size,0,none⟩) (lenV (ρ x)) (lenV (ρ x)))) (w.alloc (.cells (zrep rowZ (lenV (ρ x))).toArray 134)):=exec_make mk_row ρ d x y ty s af g w h
theorem rvals_take {r:Rw} (hr:r.ok) (tv:Value):List.take 57 (r.vals tv)=r.vals tv:=List.take_of_length_le (by rw [Rw.len hr];omega)
set_option maxRecDepth 100000 in
set_option maxHeartbeats 1000000 in
theorem norm1_any (S:Nat→Prop) (gn:Nat) (n:Int) (r:Rw) (hr:r.ok) (tv:Value) (w:World) (hn:w.cell? ⟨gn,0,none⟩=some (.int .i64 n)) (hgn:gn<w.heap.size) (ht:RowR S w r tv) :
 Calls Tryz.prog 223 #[.agg (r.vals tv).toArray,.pointer (some ⟨gn,0,none⟩)] w (PlainW n r w):=by
 have hvl:=Rw.len hr tv
 have htk:=rvals_take hr tv
 have hB:=said_frame w (r.vals tv) rowZ 134 134
 have hP:=plain_any S n r hr tv _ (ht.below hB)
 have hg:Blk ((w.alloc (.cells (r.vals tv).toArray 134)).alloc (.cells rowZ.toArray 134)) (w.heap.size+1) 134 rowZ.toArray:=by
  have:=Blk.new (w.alloc (.cells (r.vals tv).toArray 134)) 134 rowZ.toArray
  have e:(w.alloc (.cells (r.vals tv).toArray 134)).heap.size=w.heap.size+1:=by simp
  rwa [e] at this
 have H:=Lib.hid (And.intro hP (And.intro hB hg))
 have HR:=Lib.hid hr
 have hpl:=fun tv':Value=>Rw.len (Rw.plain_ok (n:=n) hr) tv'
 have HPL:=Lib.hid hpl
 clear hP hB hg ht hr hpl
 go_enter Tryz.func223,Tryz.ntmps223
 go_wp2_with fail
 refine H.out.1.mono ?_
 rintro e w1 ⟨tv1,rfl,hrow,hb1⟩
 have hsz:((w.alloc (.cells (r.vals tv).toArray 134)).alloc (.cells rowZ.toArray 134)).heap.size=w.heap.size+1+1:=by simp
 rw [hsz] at hrow
 have k1:=H.out.2.2.below hb1 (by simp)
 obtain⟨-,-,q3⟩:=k1.whole len_rowZ
 have hl1:=HPL.out tv1
 have hc1:=hrow.1.cell1 (Rw.plain_ok HR.out)
 obtain⟨p1,p2,-⟩:=(k1.put_all (l:=(r.plain n).vals tv1) (by rw [len_rowZ,hl1])).whole hl1
 have hfin:PlainW n r w (.returned (.agg ((r.plain n).vals tv1).toArray)) (putRow w1 ⟨w.heap.size+1,0,none⟩ ((r.plain n).vals tv1)):=
  ⟨tv1,rfl,(hrow.keep (by simp) (fun b hb _=>putRow_other _ _ _ _ (by simp;omega))).mono (fun b _ h=>by omega),Below.put (H.out.2.1.trans (hb1.mono (by simp;omega))) (by simp) _⟩
 have HF:=Lib.hid (And.intro p1 (And.intro p2 hfin))
 clear hrow hb1 k1 p1 p2 hfin
 go_wp2_with fail
 try simp only [Exit.inBlock,Exit.then]
 first | refine bodyPost_ret (ret_row (n:=57) rfl (by kernel_rfl) _ _ _ rfl ?_) rfl ?_ | refine bodyPost_end (ret_row (n:=57) rfl (by kernel_rfl) _ _ _ rfl ?_) rfl ?_
 ·exact HF.out.1
 ·rw [HF.out.2.1];exact HF.out.2.2
def fillRK (N k:Nat) (l:List Rw):List Rw:=(l.take k).map (Rw.plain N)++List.replicate (N - k) rw0
theorem fillRK_len {N k:Nat} {l:List Rw} (h1:k≤N) (h2:k≤l.length):(fillRK N k l).length=N:=by simp [fillRK];omega
theorem fillRK_set {N k:Nat} {l:List Rw} {x:Rw} (h1:k<N) (hx:l[k]? =some x):(fillRK N k l).set k (x.plain N)=fillRK N (k+1) l:=by
 have h2:k<l.length:=(List.getElem?_eq_some_iff.1 hx).1
 unfold fillRK
 rw [List.take_add_one,hx]
 have e:N - k=(N - (k+1))+1:=by omega
 rw [e,List.replicate_succ,List.set_append,if_neg (by simp;omega)]
 have e2:k - ((l.take k).map (Rw.plain N)).length=0:=by simp;omega
 rw [e2]
 simp
theorem fillRK_end (N:Nat) (l:List Rw):fillRK N (min N l.length) l=fillR N l:=by
 unfold fillRK fillR
 by_cases h:N≤l.length
 ·rw [Nat.min_eq_left h];simp;omega
 ·rw [Nat.min_eq_right (by omega),List.take_of_length_le (by omega),List.take_of_length_le (by omega)]
set_option maxRecDepth 100000 in
set_option maxHeartbeats 1000000 in
theorem fillr_any (S:Nat→Prop) (N:Nat) (hN:N≤16) (gn:Nat) (a:Option Addr) (len cap:Nat) (l:List Rw) (w:World) (hn:w.cell? ⟨gn,0,none⟩=some (.int .i64 N)) (hgn:gn<w.heap.size) (hrd:RdRs S w a len l) (hm1:len≤cap) (hm2:cap≤maxLen) :
 Calls Tryz.prog 222 #[.int .i64 N,.slice a len cap,.func (.func 223) #[] #[.pointer (some ⟨gn,0,none⟩)]] w fun e w'=>e=.returned (.slice (some ⟨w.heap.size,0,none⟩) N N)∧RowsB (w.heap.size< ·) w' w.heap.size 134 (fillR N l)∧Below w.heap.size w w':=by
 have hl:l.length=len:=hrd.1
 unfold maxLen at hm2
 have HR:=Lib.hid hrd
 have HN:=Lib.hid hn
 clear hrd hn
 have hN1:N≤1048576:=by omega
 obtain⟨M,hM⟩:∃M,M=min N len:=⟨_,rfl⟩
 go_enter Tryz.func222,Tryz.ntmps222
 go_wp2_with fail
 case' inl=>have e14:(len:Int)=(M:Int):=by omega
 case' inr=>have e14:(N:Int)=(M:Int):=by omega
 all_goals
  have hst:∀z,z=zrep rowZ N→RowsB (w.heap.size< ·) (w.alloc (.cells z.toArray 134)) w.heap.size 134 (fillRK N 0 l)∧Below w.heap.size w (w.alloc (.cells z.toArray 134)):=by
   rintro z rfl
   have:fillRK N 0 l=List.replicate N rw0:=by simp [fillRK]
   rw [this]
   exact⟨RowsB.start _ _ _ _,(Below.refl _ _).alloc (Nat.le_refl _) _⟩
  have hM1:M≤N:=by omega
  have hM2:M≤len:=by omega
  have HS:=Lib.hid hst
  have HM:=Lib.hid hM
  clear hM hst
 case' inl=>rw [e14]
 case' inr=>rw [show (Value.int .i64 (N:Int))=Value.int .i64 (M:Int) from by rw [e14]]
 all_goals
  clear e14
  go_loopw [15] (fun i wr=> ∃k:Nat,k≤M∧i=.int .i64 k∧RowsB (w.heap.size< ·) wr w.heap.size 134 (fillRK N k l)∧Below w.heap.size w wr) (fun i _=>M - (intOf i).toNat)
  case atStart=>exact⟨0,by omega,rfl,HS.out _ rfl⟩
  case round=>
   obtain⟨k,hk,rfl,hb,hB⟩:=hrel
   by_cases hlt:k<M
   ·obtain⟨b,off,x,m,cp,r,rfl,hS,hbw,hv,hok,hrl,hrc1,hr1,hr2,hr3,hr4,hr5,hr6,hr7⟩:=HR.out.at_ k (by omega)
    have d:=row_below hB (p:=⟨b,off+k*57,none⟩) hbw 57
    have d1:=d.1.trans hr1
    have d2:rowOf wr ⟨b,off+k*57,none⟩ 57=r.vals (.slice x m cp):=d.2.trans hr2
    have hkN:k<N:=by omega
    have hkl:k<len:=by omega
    have hrow:RowR S wr r (.slice x m cp):=⟨x,m,cp,rfl,hr5.below hB (fun _ _ h=>h),hr6,hr7⟩
    have hcall:=norm1_any S gn N r hok (.slice x m cp) wr ((hB.cell (p:=⟨gn,0,none⟩) hgn).trans HN.out) (Nat.lt_of_lt_of_le hgn hB.size) hrow
    have hset:=fillRK_set hkN hv
    have hlenk:(fillRK N k l).length=N:=fillRK_len (by omega) (by omega)
    have hwr:=hB.size
    have hltg:=hb.lt
    have HC:=Lib.hid hcall
    have HH:=Lib.hid (And.intro hb (And.intro hB (And.intro hset (And.intro hlenk hok))))
    clear d hr1 hr2 hr3 hr4 hr5 hr6 hr7 hv hok hrc1 hcall hset hlenk hb hB hrow hrl
    go_wp2_with fail
    refine HC.out.mono ?_
    rintro e w1 ⟨tv1,rfl,hrow1,hb1⟩
    have hpk:=Rw.plain_ok (n:=N) HH.out.2.2.2.2
    have hl1:=Rw.len hpk tv1
    have hc1:=hrow1.1.cell1 hpk
    have hbk:=HH.out.1.below hb1
    have hcp:=hbk.canPut k (by rw [HH.out.2.2.2.1];exact hkN)
    have hnew:=hbk.set (fun b hb=>by omega) (by rw [HH.out.2.2.2.1];exact hkN) hpk (hrow1.mono (fun b _ h=>by omega))
    rw [HH.out.2.2.1] at hnew
    have H2:=Lib.hid (And.intro hnew (Below.put (HH.out.2.1.trans (hb1.mono HH.out.2.1.size)) (p:=⟨w.heap.size,k*57,none⟩) (Nat.le_refl _) ((r.plain N).vals tv1)))
    clear hbk hnew hb1 hrow1 hpk
    go_wp2
    exact⟨⟨k+1,by omega,by go_num,H2.out.1,H2.out.2⟩,by simp [intOf];omega⟩
   ·have hkM:k=M:=by omega
    subst hkM
    have e:fillRK N k l=fillR N l:=by rw [HM.out,←hl];exact fillRK_end N l
    rw [e] at hb
    have H2:=Lib.hid (And.intro hb hB)
    clear hb hB e
    go_wp2
    go_ret
    exact⟨rfl,H2.out.1,H2.out.2⟩
end Go.Proofs.YtdilbjikeilhbaaGreatDoor
