import Derived.Test.YtdilbjikeilhbaaGreatDoorGn23
import Derived.Test.YtdilbjikeilhbaaGreatDoorGn21
namespace Go.Proofs.YtdilbjikeilhbaaGreatDoor
open Go.RowKit
set_option linter.unusedVariables false
set_option linter.unusedSimpArgs false
theorem MapI.ne_blk {P:Program} {k:TypeId} {w:World} {b n g:Nat} {f:Int→Option Value} {t:TypeId} {cs:Array Value} (h:MapI P k w b n f) (hb:Blk w g t cs):b≠g:=by
 rintro rfl
 obtain⟨D,⟨es,clock,h1,h2⟩,h3⟩:=h
 rw [hb] at h1
 cases h1
theorem chgW {S S':Nat→Prop} {a b c:World} (h:Chg S a b) (k:Chg S' b c) (hs:∀i,i<a.heap.size→S' i→S i):Chg S a c:=
 ⟨k.os.trans h.os,k.tape.trans h.tape,k.output.trans h.output,Nat.le_trans h.size k.size,fun i hi hn=>(k.block i (Nat.lt_of_lt_of_le hi h.size) fun e=>hn (hs i hi e)).trans (h.block i hi hn)⟩
def gvF (G:Nat→Option (Value×Value)) (i:Int):Option Value:=if 0≤i then (G i.toNat).map (fun p=>Value.agg #[p.1,p.2]) else none
theorem gvF_at (G:Nat→Option (Value×Value)) (k:Nat):gvF G (k:Int)=(G k).map (fun p=>Value.agg #[p.1,p.2]):=by
 unfold gvF
 rw [if_pos (Int.natCast_nonneg k)]
 rfl
theorem gvF_put (G:Nat→Option (Value×Value)) (k:Nat) (x0 x1:Value):putF (gvF G) (k:Int) (.agg #[x0,x1])=gvF (fun j=>if j=k then some (x0,x1) else G j):=by
 funext i
 unfold putF gvF
 by_cases hi:0≤i
 ·simp only [hi,if_true]
  by_cases hik:i=(k:Int)
  ·subst hik;simp
  ·have:i.toNat≠k:=by omega
   simp [hik,this]
 ·have:i≠(k:Int):=by omega
  simp [hi,this]
theorem gvF_none:gvF (fun _=>none)=fun _=>none:=by
 funext i;unfold gvF;split <;> rfl
def endC (G:Nat→Option (Value×Value)) (k:Nat):Cgo:=match G k with
 | some p=>⟨p.1,p.2,true⟩
 | none=>cgo0
def endW (W:Nat→List Cgo) (G:Nat→Option (Value×Value)) (k:Nat):List Cgo:=(W k).tail++ [endC G k]
def LnB (lb wy:Nat→Nat) (n:Nat) (b:Nat):Prop:=∃k,k<4*n∧(b=lb k∨b=wy k)
structure EnI (w:World) (wb mb gb r:Nat) (lb wy:Nat→Nat) (n gc:Nat) (tk:Int) (W:Nat→List Cgo) (G:Nat→Option (Value×Value)) (left ll:Int→Bool) (wr:World):Prop where
 rg:∃c cnt,RngI Tryz.prog 3 wr mb r c (lnF lb n) left cnt
 b:Blk wr wb 171 #[Value.map (some mb),.int .i64 n,.map (some gb),.int .i64 tk]
 g:MapI Tryz.prog 3 wr gb gc (gvF G)
 l:∀k:Nat,k<4*n→LnAt wr (lb k) (wy k) (if ll k=true then tk else tk+1) (if ll k=true then W k else endW W G k)
 c:Chg (LnB lb wy n) w wr
 rr:w.heap.size≤r
section
variable {w wr w':World} {wb mb gb r:Nat} {lb wy:Nat→Nat} {n gc:Nat} {tk:Int} {W:Nat→List Cgo} {G:Nat→Option (Value×Value)} {left:Int→Bool}
theorem lnF_some {i:Int} {v:Value} (h:lnF lb n i=some v):∃k:Nat,k<4*n∧i=k∧v=.pointer (some ⟨lb k,0,none⟩):=by
 unfold lnF at h
 split at h
 ·rename_i hi
  exact⟨i.toNat,by omega,by omega,by cases h;rfl⟩
 ·cases h
theorem EnI.come (h:EnI w wb mb gb r lb wy n gc tk W G left left wr) (h16:n≤16) (ty:TypeId) :
 ((∀k:Nat,k<4*n→left k=false)∧(Instr.next (.pointer (some ⟨r,0,none⟩)) false ty).run Tryz.prog wr=.ok (.tuple #[.bool false]) wr)∨
 ∃(k:Nat) (w':World),k<4*n∧left k=true∧(Instr.next (.pointer (some ⟨r,0,none⟩)) false ty).run Tryz.prog wr=.ok (.tuple #[.bool true,.int .i64 k,.pointer (some ⟨lb k,0,none⟩)]) w'∧
  (Instr.entry (.pointer (some ⟨r,0,none⟩))).run Tryz.prog w'=.ok (.tuple #[.int .i64 k,.pointer (some ⟨lb k,0,none⟩)]) w'∧w'.rangeLeft mb r<wr.rangeLeft mb r∧
  EnI w wb mb gb r lb wy n gc tk W G (fun j=>left j&&decide (j≠k)) left w':=by
 obtain⟨c,cnt,hr⟩:=h.rg
 rcases hr.next (by kernel_rfl) ty with ⟨h1,h2⟩ | ⟨i,v,w',cnt',hi,hf,hl,h1,h2,h3,h4,h5,h6⟩
 ·exact .inl ⟨fun k hk=>h1 k (by simp [Lit.wf,IntKind.min,IntKind.max,IntKind.signed,IntKind.bits];omega),h2⟩
 ·obtain⟨k,hk,rfl,rfl⟩:=lnF_some hf
  have hne:∀{g:Nat},g<w.heap.size→w'.heap[g]? =wr.heap[g]?:=fun {g} hg=>h4.block g (Nat.lt_of_lt_of_le hg h.c.size) (by intro e;injection e with e;have:=h.rr;omega)
  have hlt:∀{g:Nat} {t:TypeId} {cs:Array Value},Blk wr g t cs→w'.heap[g]? =wr.heap[g]?:=fun {g t cs} hb=>h4.block g hb.lt (by
   intro e
   injection e with e
   obtain⟨D,lf,⟨es,clock,since,seen,c0,-,-,-,-,h5,-⟩,-⟩:=hr
   rw [←e,hb] at h5
   cases h5)
  have hm:w'.heap[gb]? =wr.heap[gb]?:=h4.block gb h.g.lt (by
   intro e
   injection e with e
   obtain⟨D,lf,⟨es,clock,since,seen,c0,-,-,-,-,h5,-⟩,-⟩:=hr
   obtain⟨D',⟨es',clock',h7,-⟩,-⟩:=h.g
   rw [←e,h7] at h5
   cases h5)
  exact .inr ⟨k,w',hk,hl,h1,h6,by rw [h2.left_eq,hr.left_eq];exact h3,⟨c,cnt',h2⟩,(hlt h.b).trans h.b,h.g.keep hm,fun j hj=>(h.l j hj).keep (hlt (h.l j hj).b) (hlt (h.l j hj).g),
   ⟨h4.os.trans h.c.os,h4.tape ▸ h.c.tape,h4.output.trans h.c.output,Nat.le_trans h.c.size (by omega),fun b hb hn=>(hne hb).trans (h.c.block b hb hn)⟩,h.rr⟩
theorem EnI.below {ll:Int→Bool} (h:EnI w wb mb gb r lb wy n gc tk W G left ll wr) (hb:Below wr.heap.size wr w'):EnI w wb mb gb r lb wy n gc tk W G left ll w':=by
 obtain⟨c,cnt,hr⟩:=h.rg
 exact⟨⟨c,cnt,hr.kept (hb.block _ hr.lt.1) (hb.block _ hr.lt.2.1)⟩,(hb.block _ h.b.lt).trans h.b,h.g.keep (hb.block _ h.g.lt),fun k hk=>(h.l k hk).keep (hb.block _ (h.l k hk).b.lt) (hb.block _ (h.l k hk).g.lt),h.c.trans (Chg.of_below hb _),h.rr⟩
theorem EnI.left_below {ll:Int→Bool} (h:EnI w wb mb gb r lb wy n gc tk W G left ll wr) (hm:w'.heap[mb]? =wr.heap[mb]?) (hr':w'.heap[r]? =wr.heap[r]?):w'.rangeLeft mb r=wr.rangeLeft mb r:=by
 obtain⟨c,cnt,hr⟩:=h.rg
 rw [hr.left_eq,(hr.kept hm hr').left_eq]
theorem EnI.sent {ll:Int→Bool} {k:Nat} (h:EnI w wb mb gb r lb wy n gc tk W G left ll wr) (hi:∀j k,j<4*n→k<4*n→j≠k→lb j≠lb k∧wy j≠wy k) (hll:∀j,left j=(ll j&&decide (j≠k))) (hk:k<4*n) (hl:LnAt w' (lb k) (wy k) (tk+1) (endW W G k)) (hc:Chg (fun b=>b=lb k∨b=wy k) wr w') :
 EnI w wb mb gb r lb wy n gc tk W G left left w'∧w'.rangeLeft mb r=wr.rangeLeft mb r:=by
 have hlk:=h.l k hk
 have hr:=h.rg
 obtain⟨c,cnt,hr⟩:=hr
 have hmb:w'.heap[mb]? =wr.heap[mb]?:=hc.block _ hr.lt.1 (by rintro (e | e);exact hr.map.ne_blk hlk.b e;exact hr.map.ne_blk hlk.g e)
 have hrr:w'.heap[r]? =wr.heap[r]?:=hc.block _ hr.lt.2.1 (by
  obtain⟨D,lf,⟨es,clock,since,seen,c0,-,-,-,-,h5,-⟩,-⟩:=hr
  rintro (rfl | rfl)
  ·rw [hlk.b] at h5;cases h5
  ·rw [hlk.g] at h5;cases h5)
 refine⟨⟨⟨c,cnt,hr.kept hmb hrr⟩,h.b.chg hc (by rintro (e | e);exact h.b.ne_ hlk.b (by decide) e;exact h.b.ne_ hlk.g (by decide) e),h.g.keep (hc.block _ h.g.lt (by rintro (e | e);exact h.g.ne_blk hlk.b e;exact h.g.ne_blk hlk.g e)),fun j hj=> ?_,?_,h.rr⟩,h.left_below hmb hrr⟩
 ·by_cases hjk:j=k
  ·subst hjk
   rw [hll]
   simpa using hl
  ·have hkeep:=hi j k hj hk hjk
   have:=(h.l j hj).keep (w':=w') (hc.block _ (h.l j hj).b.lt (by rintro (e | e);exact hkeep.1 e;exact (h.l j hj).b.ne_ hlk.g (by decide) e)) (hc.block _ (h.l j hj).g.lt (by rintro (e | e);exact (h.l j hj).g.ne_ hlk.b (by decide) e;exact hkeep.2 e))
   have he:left (j:Int)=ll j:=by rw [hll];simp [show (j:Int)≠k by omega]
   rw [he]
   exact this
 ·exact chgW h.c hc fun i _ e=>⟨k,hk,e⟩
end
section
variable (ρ:Operand→Value) (d:Option Tmp) (x y u:Operand) (ty:TypeId) (s:String) (af:Array Edge) (g:Option (Nat×Bool)) (w:World)
@[go_sem ↓] theorem bs_post1 (h:lenC (ρ x) 2=true):(execOp ρ { dst:=d,op:=.buildSlice 356 1 #[(0,x)],type:=ty,pos:=s,after:=af,guard:=g }).run Tryz.prog w=.ok (.value (.slice (some ⟨w.heap.size,0,none⟩) 1 1)) (w.alloc (.cells (cellsL (ρ x)).toArray 63)):=by
 have:=exec_bslice (n:=2) Tryz.underlying356 (by kernel_rfl) ρ d 1 [x] #[(0,x)] ty s af g w (by simp [iparts]) rfl (by omega) (by omega) (by simp [h])
 simpa using this
end
def EndP (w:World) (wb mb gb:Nat) (lb wy:Nat→Nat) (n:Nat) (tk:Int) (W:Nat→List Cgo) (G:Nat→Option (Value×Value)) (e:Ending) (w':World):Prop:=
 e=.returned (.int .i64 0)∧WrAt w' wb mb gb lb wy n 0 (tk+1) (endW W G) (gvF fun _=>none)∧Chg (fun b=>b=wb∨b=gb∨LnB lb wy n b) w w'
set_option maxRecDepth 100000 in
set_option maxHeartbeats 4000000 in
theorem wend_any {w:World} {wb mb gb:Nat} {lb wy:Nat→Nat} {n gc:Nat} {tk:Int} {W:Nat→List Cgo} {G:Nat→Option (Value×Value)} (h:WrAt w wb mb gb lb wy n gc tk W (gvF G)) (h4:4≤n) (h16:n≤16) (hgm:gb≠mb)
 (hi:∀j k,j<4*n→k<4*n→j≠k→lb j≠lb k∧wy j≠wy k) (ht0:0≤tk) (ht1:tk≤1000000) (hW:∀k,k<4*n→W k≠[]∧(W k).length≤2) (hG:∀k p,G k=some p→cell1 p.1=true∧cell1 p.2=true) :
 Calls Tryz.prog 51 #[.pointer (some ⟨wb,0,none⟩)] w (EndP w wb mb gb lb wy n tk W G):=by
 have HT:=Lib.hid (wthere_any h.b (by omega))
 have c0:=h.b.cell 0
 simp only [List.getElem?_toArray,List.getElem?_cons_zero] at c0
 obtain⟨c,hm⟩:=h.m
 obtain⟨w1,cnt,hrun,hrg,hgr,hsz⟩:=hm.range (t:=167) (e:=175) (by kernel_rfl) (by kernel_rfl)
 have hb1:Below w.heap.size w w1:=(Below.refl _ _).grown hgr (Nat.le_refl _) (fun q hq=>by cases hq)
 have HE:Hid (EnI w wb mb gb w.heap.size lb wy n gc tk W G (fun i=>(lnF lb n i).isSome) (fun i=>(lnF lb n i).isSome) w1):=Lib.hid ⟨⟨c,cnt,hrg⟩,(h.below hb1).b,(h.below hb1).g,fun k hk=>by
  rw [lnF_at lb hk];exact (h.below hb1).l k hk,Chg.of_below hb1 _,Nat.le_refl _⟩
 have H:=Lib.hid (And.intro h (And.intro hgm (And.intro hi (And.intro hW hG))))
 clear hm hrg hgr hsz hb1 h hW hG hi hgm
 go_enter Tryz.func51,Tryz.ntmps51
 go_wp2_with fail
 (with_reducible refine HT.out.mono ?_)
 rintro e w' ⟨rfl,rfl⟩
 go_wp2_with fail
 obtain⟨r,hr⟩:∃r,Hid (r=w.heap.size):=⟨_,Lib.hid rfl⟩
 rw [←hr.out] at HE ⊢
 clear hrun c0 HT
 go_loopw [3] (fun _ wr=> ∃left,Hid (EnI w wb mb gb r lb wy n gc tk W G left left wr)) (fun _ wr=>wr.rangeLeft mb r)
 case atStart=>exact⟨_,HE⟩
 case round=>
  obtain⟨left,HL⟩:=hrel
  clear HE
  rcases HL.out.come h16 0 with ⟨hd,hnx⟩ | ⟨k,w2,hk,hlk,hnx,hen,hme,hE2⟩
  ·-- nothing is left
   have HD:=Lib.hid hd
   have c2:=HL.out.b.cell 2
   have c3:=HL.out.b.cell 3
   have z3:=HL.out.b.frozen 3
   simp only [List.getElem?_toArray,List.getElem?_cons_zero,List.getElem?_cons_succ] at c2 c3
   have hwr:IntKind.i64.wrap (tk+1)=tk+1:=IntWalk.i64_in _ (by omega)
   obtain⟨w3,hcl,hm3,hg3⟩:=HL.out.g.clear (t:=54) (e:=63) (by kernel_rfl) 0
   clear hd
   have hwb3:w3.heap[wb]? =wr.heap[wb]?:=hg3.block wb HL.out.b.lt (by intro e;injection e with e;exact HL.out.g.ne_blk HL.out.b e.symm)
   have d3:w3.cell? ⟨wb,3,none⟩=some (.int .i64 tk):=(World.cell?_of_block (a:=⟨wb,3,none⟩) hwb3).trans c3
   have e3:w3.frozen? ⟨wb,3,none⟩=false:=(World.frozen?_of_block (a:=⟨wb,3,none⟩) hwb3).trans z3
   go_wp2_with fail
   go_ret
   have hE:=HL.out
   obtain⟨hw,hgm,hi,hW,hG⟩:=H.out
   obtain⟨c,cnt,hr2⟩:=hE.rg
   have hk3:∀{g:Nat},g<wr.heap.size→g≠gb→g≠wb→(w3.setCell ⟨wb,3,none⟩ (.int .i64 (tk+1))).heap[g]? =wr.heap[g]?:=fun {g} h1 h2 h3=>(Below.heap_setCell _ _ _ _ (by show g≠wb;exact h3)).trans (hg3.block g h1 (by intro e;injection e with e;exact h2 e))
   have hb3:Blk w3 wb 171 #[Value.map (some mb),.int .i64 n,.map (some gb),.int .i64 tk]:=hwb3.trans hE.b
   refine⟨rfl,⟨by simpa using hb3.set_ 3 (.int .i64 (tk+1)),⟨c,hr2.map.keep (hk3 hr2.map.lt hgm.symm (hr2.map.ne_blk hE.b))⟩,?_,fun k hk=> ?_⟩,?_⟩
   ·rw [gvF_none]
    exact hm3.keep (Below.heap_setCell _ _ _ _ (by show gb≠wb;exact hE.g.ne_blk hE.b))
   ·have:=hE.l k hk
    rw [HD.out k hk] at this
    exact this.keep (hk3 this.b.lt (fun e=>hE.g.ne_blk this.b e.symm) (this.b.ne_ hE.b (by decide))) (hk3 this.g.lt (fun e=>hE.g.ne_blk this.g e.symm) (this.g.ne_ hE.b (by decide)))
   ·refine chgW (hE.c.mono (S':=fun b=>b=wb∨b=gb∨LnB lb wy n b) fun k _ h=> .inr (.inr h)) (S':=fun b=>b=wb∨b=gb) ⟨hg3.os,hg3.tape,hg3.output,by simpa using hg3.size,fun b hb hn=>hk3 hb (fun e=>hn (.inr e)) (fun e=>hn (.inl e))⟩ fun i _ e=> ?_
    rcases e with e | e
    ·exact .inl e
    ·exact .inr (.inl e)
  ·have HE2:=Lib.hid hE2
   have HME:=Lib.hid hme
   have c2:=hE2.b.cell 2
   simp only [List.getElem?_toArray,List.getElem?_cons_zero,List.getElem?_cons_succ] at c2
   have hkw:(Lit.int .i64 (k:Int)).wf=true:=by simp [Lit.wf,IntKind.min,IntKind.max,IntKind.signed,IntKind.bits];omega
   have hlo:=hE2.g.look (t:=54) (e:=63) (by kernel_rfl) (by kernel_rfl) (z:=.agg postZ.toArray) (by kernel_rfl) hkw
   rw [gvF_at] at hlo
   have hls:=hE2.l k hk
   rw [hlk] at hls
   simp only [if_true] at hls
   have hW:=H.out.2.2.2.1 k hk
   have hG:=H.out.2.2.2.2 k
   obtain⟨cc,ll,hcl⟩:∃cc ll,W k=cc :: ll:=by
    cases hwk:W k with
    | nil=>exact absurd hwk hW.1
    | cons a l=>exact⟨a,l,rfl⟩
   rw [hcl] at hls hW
   have hll1:ll.length≤1:=by have:=hW.2;simp at this;omega
   clear hE2 hme HL hW
   cases hgk:G k with
   | none=>
     rw [hgk] at hlo
     simp only [Option.map_none,Option.getD_none,Option.isSome_none] at hlo
     have hB:Below w2.heap.size w2 (w2.alloc (.cells postZ.toArray 63)):=balP (Below.refl _ _) _
     have HS:Hid (Calls Tryz.prog 96 #[.pointer (some ⟨lb k,0,none⟩),.slice none 0 0] (w2.alloc (.cells postZ.toArray 63)) (SendP (lb k) (wy k) tk (ll++ [sentC 0 (.int .u8 0) (.int .u8 0)]) (w2.alloc (.cells postZ.toArray 63)))):=Lib.hid (send_any (hls.keep (hB.block _ hls.b.lt) (hB.block _ hls.g.lt)) hll1 ht0 ht1 none 0 0 (.int .u8 0) (.int .u8 0) ⟨by omega,⟨rfl,rfl⟩,by omega⟩)
     have HE3:=Lib.hid (HE2.out.below hB)
     have HL3:Hid ((w2.alloc (.cells postZ.toArray 63)).rangeLeft mb r=w2.rangeLeft mb r):=Lib.hid (by
      obtain⟨c,cnt,hr⟩:=HE2.out.rg
      exact HE2.out.left_below (hB.block _ hr.lt.1) (hB.block _ hr.lt.2.1))
     have hec:endW W G k=ll++ [sentC 0 (.int .u8 0) (.int .u8 0)]:=by unfold endW endC sentC;rw [hcl,hgk];rfl
     have HC:=Lib.hid hec
     clear hB hls hec hG hcl
     go_wp2_with fail
     (with_reducible refine HS.out.mono ?_)
     rintro e w4 ⟨rfl,hl4,hc4⟩
     obtain⟨he4,hm4⟩:=HE3.out.sent (k:=k) H.out.2.2.1 (fun j=>rfl) hk (by rw [HC.out];exact hl4) hc4
     have HE4:=Lib.hid he4
     have HM4:=Lib.hid hm4
     clear hl4 hc4 he4 hm4
     go_wp2_with fail
     exact⟨⟨_,HE4⟩,by rw [HM4.out,HL3.out];exact HME.out⟩
   | some p=>
     rw [hgk] at hlo
     simp only [Option.map_some,Option.getD_some,Option.isSome_some] at hlo
     obtain⟨hp1,hp2⟩:=hG p hgk
     obtain⟨cv,hcv⟩:∃cv:List Value,Hid (cv=[p.1,p.2]):=⟨_,Lib.hid rfl⟩
     rw [show (#[p.1,p.2]:Array Value)=cv.toArray by rw [hcv.out]] at hlo
     have hcvl:cv.length=2:=by rw [hcv.out];rfl
     have hcva:cv.all cell1=true:=by rw [hcv.out];simp [hp1,hp2]
     have htk:List.take 2 cv=cv:=List.take_of_length_le (by omega)
     have hB1:Below w2.heap.size w2 (w2.alloc (.cells cv.toArray 63)):=balP (Below.refl _ _) _
     have hB:Below w2.heap.size w2 ((w2.alloc (.cells cv.toArray 63)).alloc (.cells cv.toArray 63)):=balP hB1 _
     have kx:=Blk.new (w2.alloc (.cells cv.toArray 63)) 63 cv.toArray
     obtain⟨y1,y2,-⟩:=kx.whole hcvl
     have hs1:(w2.alloc (.cells cv.toArray 63)).heap.size=w2.heap.size+1:=by simp
     rw [hs1] at kx y1 y2
     have HS:Hid (Calls Tryz.prog 96 #[.pointer (some ⟨lb k,0,none⟩),.slice (some ⟨w2.heap.size+1,0,none⟩) 1 1] ((w2.alloc (.cells cv.toArray 63)).alloc (.cells cv.toArray 63)) (SendP (lb k) (wy k) tk (ll++ [sentC 1 p.1 p.2]) ((w2.alloc (.cells cv.toArray 63)).alloc (.cells cv.toArray 63)))):=Lib.hid (send_any (hls.keep (hB.block _ hls.b.lt) (hB.block _ hls.g.lt)) hll1 ht0 ht1 _ 1 1 p.1 p.2 ⟨by omega,⟨hp1,hp2⟩,fun _=>⟨_,_,rfl,kx.lt,y1,by rw [y2,hcv.out]⟩⟩)
     have HE3:=Lib.hid (HE2.out.below hB)
     have HL3:Hid (((w2.alloc (.cells cv.toArray 63)).alloc (.cells cv.toArray 63)).rangeLeft mb r=w2.rangeLeft mb r):=Lib.hid (by
      obtain⟨c,cnt,hr⟩:=HE2.out.rg
      exact HE2.out.left_below (hB.block _ hr.lt.1) (hB.block _ hr.lt.2.1))
     have hec:endW W G k=ll++ [sentC 1 p.1 p.2]:=by unfold endW endC sentC;rw [hcl,hgk];rfl
     have HC:=Lib.hid hec
     clear hB hB1 kx y1 y2 hs1 hls hec hG hcl
     go_wp2_with fail
     (with_reducible refine HS.out.mono ?_)
     rintro e w4 ⟨rfl,hl4,hc4⟩
     obtain⟨he4,hm4⟩:=HE3.out.sent (k:=k) H.out.2.2.1 (fun j=>rfl) hk (by rw [HC.out];exact hl4) hc4
     have HE4:=Lib.hid he4
     have HM4:=Lib.hid hm4
     clear hl4 hc4 he4 hm4
     go_wp2_with fail
     exact⟨⟨_,HE4⟩,by rw [HM4.out,HL3.out];exact HME.out⟩
set_option maxRecDepth 100000 in
set_option maxHeartbeats 1000000 in
theorem stepU01_any (n:Int) (at_:Nat) (w:World) (hs:SgW w) (h4:4≤n) (h16:n≤16) (ha:(at_:Int)<n):Calls Tryz.prog 80 #[.int .i64 n,.int .u8 0,.int .i64 at_,.int .i64 1] w fun e w'=>e=.returned (.int .i64 (((at_:Int)+1) % n))∧Below w.heap.size w w':=by
 have HR:Hid (∀w,Calls Tryz.prog 81 #[.int .i64 n,.int .u8 0] w fun e w'=>e=.returned (.bool true)∧w=w'):=Lib.hid (fun w=>ringD_any n 0 h4 h16 (by omega) w)
 have HN:Hid (∀w,Calls Tryz.prog 111 #[.int .i64 n,.int .i64 at_] w fun e w'=>e=.returned (.bool true)∧w=w'):=Lib.hid fun w=>by
  refine (node_any n at_ w).mono ?_
  rintro e w' ⟨rfl,rfl⟩
  exact⟨by rw [decide_eq_true (by omega)],rfl⟩
 have hs1:=hs.1
 have hlt:=hs.lt
 clear hs
 have e1:(1:Int).tmod n=1:=by rw [Int.tmod_eq_emod_of_nonneg (by omega),Int.emod_eq_of_lt (by omega) (by omega)]
 have hn0:¬n=0:=by omega
 have hn1:¬n= -1:=by omega
 obtain⟨v,hv⟩:∃v,Hid (v=((at_:Int)+1) % n):=⟨_,Lib.hid rfl⟩
 have HD:Hid (∀w',Calls Tryz.prog 131 #[.int .i64 n,.int .i64 ((at_:Int)+1)] w' fun e w''=>e=.returned (.int .i64 v)∧w'=w''):=Lib.hid (fun w'=>by rw [hv.out];exact roundD_any n ((at_:Int)+1) w' h4 h16 (by omega) (by omega))
 have w1:IntKind.i64.wrap ((at_:Int)+1)=((at_:Int)+1):=IntWalk.i64_in _ (by omega)
 have w0:IntKind.i64.wrap (1)=1:=IntWalk.i64_in _ (by omega)
 have w2:IntKind.i64.wrap 1=1:=IntWalk.i64_in _ (by omega)
 rw [←hv.out]
 go_enter Tryz.func80,Tryz.ntmps80
 go_wp2_with fail
 (with_reducible refine (HR.out _).mono ?_)
 rintro e w' ⟨rfl,rfl⟩
 go_wp2_with fail
 (with_reducible refine (HN.out _).mono ?_)
 rintro e w' ⟨rfl,rfl⟩
 go_upto_region 3 with fail
 have FA:Hid (∀w'':World,Below w.heap.size w w''→w''.cell? ⟨0,0,none⟩=some (.int .i64 1)):=Lib.hid fun w'' hb=>(hb.cell (p:=⟨0,0,none⟩) hlt).trans hs1
 go_region_held3 (fun w''=>w''.cell? ⟨0,0,none⟩=some (.int .i64 1))
  (with_reducible (first | assumption | exact FA.out _ (Below.refl _ _).drew))
  ((first | (go_at_call 131;(with_reducible refine (HD.out _).mono ?_);rintro e w'' ⟨rfl,rfl⟩)))
 go_wp2_with fail
 go_ret
 exact⟨rfl,(Below.refl _ _).drew⟩
set_option maxRecDepth 100000 in
set_option maxHeartbeats 1000000 in
theorem stepU02_any (n:Int) (at_:Nat) (w:World) (hs:SgW w) (h4:4≤n) (h16:n≤16) (ha:(at_:Int)<n):Calls Tryz.prog 80 #[.int .i64 n,.int .u8 0,.int .i64 at_,.int .i64 2] w fun e w'=>e=.returned (.int .i64 (((at_:Int)+2) % n))∧Below w.heap.size w w':=by
 have HR:Hid (∀w,Calls Tryz.prog 81 #[.int .i64 n,.int .u8 0] w fun e w'=>e=.returned (.bool true)∧w=w'):=Lib.hid (fun w=>ringD_any n 0 h4 h16 (by omega) w)
 have HN:Hid (∀w,Calls Tryz.prog 111 #[.int .i64 n,.int .i64 at_] w fun e w'=>e=.returned (.bool true)∧w=w'):=Lib.hid fun w=>by
  refine (node_any n at_ w).mono ?_
  rintro e w' ⟨rfl,rfl⟩
  exact⟨by rw [decide_eq_true (by omega)],rfl⟩
 have hs1:=hs.1
 have hlt:=hs.lt
 clear hs
 have e1:(2:Int).tmod n=2:=by rw [Int.tmod_eq_emod_of_nonneg (by omega),Int.emod_eq_of_lt (by omega) (by omega)]
 have hn0:¬n=0:=by omega
 have hn1:¬n= -1:=by omega
 obtain⟨v,hv⟩:∃v,Hid (v=((at_:Int)+2) % n):=⟨_,Lib.hid rfl⟩
 have HD:Hid (∀w',Calls Tryz.prog 131 #[.int .i64 n,.int .i64 ((at_:Int)+2)] w' fun e w''=>e=.returned (.int .i64 v)∧w'=w''):=Lib.hid (fun w'=>by rw [hv.out];exact roundD_any n ((at_:Int)+2) w' h4 h16 (by omega) (by omega))
 have w1:IntKind.i64.wrap ((at_:Int)+2)=((at_:Int)+2):=IntWalk.i64_in _ (by omega)
 have w0:IntKind.i64.wrap (2)=2:=IntWalk.i64_in _ (by omega)
 have w2:IntKind.i64.wrap 2=2:=IntWalk.i64_in _ (by omega)
 rw [←hv.out]
 go_enter Tryz.func80,Tryz.ntmps80
 go_wp2_with fail
 (with_reducible refine (HR.out _).mono ?_)
 rintro e w' ⟨rfl,rfl⟩
 go_wp2_with fail
 (with_reducible refine (HN.out _).mono ?_)
 rintro e w' ⟨rfl,rfl⟩
 go_upto_region 3 with fail
 have FA:Hid (∀w'':World,Below w.heap.size w w''→w''.cell? ⟨0,0,none⟩=some (.int .i64 1)):=Lib.hid fun w'' hb=>(hb.cell (p:=⟨0,0,none⟩) hlt).trans hs1
 go_region_held3 (fun w''=>w''.cell? ⟨0,0,none⟩=some (.int .i64 1))
  (with_reducible (first | assumption | exact FA.out _ (Below.refl _ _).drew))
  ((first | (go_at_call 131;(with_reducible refine (HD.out _).mono ?_);rintro e w'' ⟨rfl,rfl⟩)))
 go_wp2_with fail
 go_ret
 exact⟨rfl,(Below.refl _ _).drew⟩
set_option maxRecDepth 100000 in
set_option maxHeartbeats 1000000 in
theorem stepU11_any (n:Int) (at_:Nat) (w:World) (hs:SgW w) (h4:4≤n) (h16:n≤16) (ha:(at_:Int)<n):Calls Tryz.prog 80 #[.int .i64 n,.int .u8 1,.int .i64 at_,.int .i64 1] w fun e w'=>e=.returned (.int .i64 (((at_:Int)+ -1) % n))∧Below w.heap.size w w':=by
 have HR:Hid (∀w,Calls Tryz.prog 81 #[.int .i64 n,.int .u8 1] w fun e w'=>e=.returned (.bool true)∧w=w'):=Lib.hid (fun w=>ringD_any n 1 h4 h16 (by omega) w)
 have HN:Hid (∀w,Calls Tryz.prog 111 #[.int .i64 n,.int .i64 at_] w fun e w'=>e=.returned (.bool true)∧w=w'):=Lib.hid fun w=>by
  refine (node_any n at_ w).mono ?_
  rintro e w' ⟨rfl,rfl⟩
  exact⟨by rw [decide_eq_true (by omega)],rfl⟩
 have hs1:=hs.2
 have hlt:=hs.lt
 clear hs
 have e1:(1:Int).tmod n=1:=by rw [Int.tmod_eq_emod_of_nonneg (by omega),Int.emod_eq_of_lt (by omega) (by omega)]
 have hn0:¬n=0:=by omega
 have hn1:¬n= -1:=by omega
 obtain⟨v,hv⟩:∃v,Hid (v=((at_:Int)+ -1) % n):=⟨_,Lib.hid rfl⟩
 have HD:Hid (∀w',Calls Tryz.prog 131 #[.int .i64 n,.int .i64 ((at_:Int)+ -1)] w' fun e w''=>e=.returned (.int .i64 v)∧w'=w''):=Lib.hid (fun w'=>by rw [hv.out];exact roundD_any n ((at_:Int)+ -1) w' h4 h16 (by omega) (by omega))
 have w1:IntKind.i64.wrap ((at_:Int)+ -1)=((at_:Int)+ -1):=IntWalk.i64_in _ (by omega)
 have w0:IntKind.i64.wrap (-1)= -1:=IntWalk.i64_in _ (by omega)
 have w2:IntKind.i64.wrap 1=1:=IntWalk.i64_in _ (by omega)
 rw [←hv.out]
 go_enter Tryz.func80,Tryz.ntmps80
 go_wp2_with fail
 (with_reducible refine (HR.out _).mono ?_)
 rintro e w' ⟨rfl,rfl⟩
 go_wp2_with fail
 (with_reducible refine (HN.out _).mono ?_)
 rintro e w' ⟨rfl,rfl⟩
 go_upto_region 3 with fail
 have FA:Hid (∀w'':World,Below w.heap.size w w''→w''.cell? ⟨0,1,none⟩=some (.int .i64 (-1))):=Lib.hid fun w'' hb=>(hb.cell (p:=⟨0,1,none⟩) hlt).trans hs1
 go_region_held3 (fun w''=>w''.cell? ⟨0,1,none⟩=some (.int .i64 (-1)))
  (with_reducible (first | assumption | exact FA.out _ (Below.refl _ _).drew))
  ((first | (go_at_call 131;(with_reducible refine (HD.out _).mono ?_);rintro e w'' ⟨rfl,rfl⟩)))
 go_wp2_with fail
 go_ret
 exact⟨rfl,(Below.refl _ _).drew⟩
set_option maxRecDepth 100000 in
set_option maxHeartbeats 1000000 in
theorem stepU12_any (n:Int) (at_:Nat) (w:World) (hs:SgW w) (h4:4≤n) (h16:n≤16) (ha:(at_:Int)<n):Calls Tryz.prog 80 #[.int .i64 n,.int .u8 1,.int .i64 at_,.int .i64 2] w fun e w'=>e=.returned (.int .i64 (((at_:Int)+ -2) % n))∧Below w.heap.size w w':=by
 have HR:Hid (∀w,Calls Tryz.prog 81 #[.int .i64 n,.int .u8 1] w fun e w'=>e=.returned (.bool true)∧w=w'):=Lib.hid (fun w=>ringD_any n 1 h4 h16 (by omega) w)
 have HN:Hid (∀w,Calls Tryz.prog 111 #[.int .i64 n,.int .i64 at_] w fun e w'=>e=.returned (.bool true)∧w=w'):=Lib.hid fun w=>by
  refine (node_any n at_ w).mono ?_
  rintro e w' ⟨rfl,rfl⟩
  exact⟨by rw [decide_eq_true (by omega)],rfl⟩
 have hs1:=hs.2
 have hlt:=hs.lt
 clear hs
 have e1:(2:Int).tmod n=2:=by rw [Int.tmod_eq_emod_of_nonneg (by omega),Int.emod_eq_of_lt (by omega) (by omega)]
 have hn0:¬n=0:=by omega
 have hn1:¬n= -1:=by omega
 obtain⟨v,hv⟩:∃v,Hid (v=((at_:Int)+ -2) % n):=⟨_,Lib.hid rfl⟩
 have HD:Hid (∀w',Calls Tryz.prog 131 #[.int .i64 n,.int .i64 ((at_:Int)+ -2)] w' fun e w''=>e=.returned (.int .i64 v)∧w'=w''):=Lib.hid (fun w'=>by rw [hv.out];exact roundD_any n ((at_:Int)+ -2) w' h4 h16 (by omega) (by omega))
 have w1:IntKind.i64.wrap ((at_:Int)+ -2)=((at_:Int)+ -2):=IntWalk.i64_in _ (by omega)
 have w0:IntKind.i64.wrap (-2)= -2:=IntWalk.i64_in _ (by omega)
 have w2:IntKind.i64.wrap 2=2:=IntWalk.i64_in _ (by omega)
 rw [←hv.out]
 go_enter Tryz.func80,Tryz.ntmps80
 go_wp2_with fail
 (with_reducible refine (HR.out _).mono ?_)
 rintro e w' ⟨rfl,rfl⟩
 go_wp2_with fail
 (with_reducible refine (HN.out _).mono ?_)
 rintro e w' ⟨rfl,rfl⟩
 go_upto_region 3 with fail
 have FA:Hid (∀w'':World,Below w.heap.size w w''→w''.cell? ⟨0,1,none⟩=some (.int .i64 (-1))):=Lib.hid fun w'' hb=>(hb.cell (p:=⟨0,1,none⟩) hlt).trans hs1
 go_region_held3 (fun w''=>w''.cell? ⟨0,1,none⟩=some (.int .i64 (-1)))
  (with_reducible (first | assumption | exact FA.out _ (Below.refl _ _).drew))
  ((first | (go_at_call 131;(with_reducible refine (HD.out _).mono ?_);rintro e w'' ⟨rfl,rfl⟩)))
 go_wp2_with fail
 go_ret
 exact⟨rfl,(Below.refl _ _).drew⟩
theorem stepU_any (n:Int) (d at_ hop:Nat) (w:World) (hs:SgW w) (h4:4≤n) (h16:n≤16) (hd:d<2) (ha:(at_:Int)<n) (hh:hop=1∨hop=2):Calls Tryz.prog 80 #[.int .i64 n,.int .u8 d,.int .i64 at_,.int .i64 hop] w fun e w'=>(∃v,e=.returned (.int .i64 v))∧Below w.heap.size w w':=by
 rcases (show d=0∨d=1 by omega) with rfl | rfl <;> rcases hh with rfl | rfl
 ·exact (stepU01_any n at_ w hs h4 h16 ha).mono (by rintro e w' ⟨rfl,h⟩;exact⟨⟨_,rfl⟩,h⟩)
 ·exact (stepU02_any n at_ w hs h4 h16 ha).mono (by rintro e w' ⟨rfl,h⟩;exact⟨⟨_,rfl⟩,h⟩)
 ·exact (stepU11_any n at_ w hs h4 h16 ha).mono (by rintro e w' ⟨rfl,h⟩;exact⟨⟨_,rfl⟩,h⟩)
 ·exact (stepU12_any n at_ w hs h4 h16 ha).mono (by rintro e w' ⟨rfl,h⟩;exact⟨⟨_,rfl⟩,h⟩)
theorem ret_four {P:Program} {fn:Func} {a b c e:Tmp} (h:fn.results=#[.tmp a,.tmp b,.tmp c,.tmp e]) (tmps:Array Value) (w:World):(results fn tmps).run P w=.ok (.tuple #[tmps.getD a undef,tmps.getD b undef,tmps.getD c undef,tmps.getD e undef]) w:=by
 simp [results,h]
set_option maxRecDepth 100000 in
set_option maxHeartbeats 1000000 in
theorem ends_any (n:Int) (k:Nat) (w:World) (hs:SgW w) (h4:4≤n) (h16:n≤16) (hk:(k:Int)<4*n):Calls Tryz.prog 37 #[.int .i64 n,.int .i64 k] w fun e w'=>(∃v,e=.returned (.tuple #[.int .i64 (k / 4:Nat),.int .i64 v,.int .u8 (k % 4 / 2:Nat),.int .i64 (k % 2+1:Nat)]))∧Below w.heap.size w w':=by
 have HR:Hid (∀w,Calls Tryz.prog 81 #[.int .i64 n,.int .u8 0] w fun e w'=>e=.returned (.bool true)∧w=w'):=Lib.hid (fun w=>ringD_any n 0 h4 h16 (by omega) w)
 obtain⟨q,hq⟩:∃q,q=k / 4:=⟨_,rfl⟩
 obtain⟨m,hm⟩:∃m,m=k % 4:=⟨_,rfl⟩
 obtain⟨d,hd⟩:∃d,d=m / 2:=⟨_,rfl⟩
 obtain⟨o,ho⟩:∃o,o=k % 2:=⟨_,rfl⟩
 have HS:=Lib.hid (stepU_any n d q (o+1) w hs h4 h16 (by omega) (by omega) (by omega))
 rw [←hq,←hm,←hd,←ho]
 have e1:Int.tdiv (k:Int) 4=(q:Int):=by rw [hq];rfl
 have e2:Int.tmod (k:Int) 4=(m:Int):=by rw [hm];rfl
 have e3:Int.tdiv (m:Int) 2=(d:Int):=by rw [hd];rfl
 have e4:Int.tmod (k:Int) 2=(o:Int):=by rw [ho];rfl
 have e5:(k:Int) % 4=(m:Int):=by omega
 have e6:(k:Int) % 2=(o:Int):=by omega
 have w1:IntKind.i64.wrap (q:Int)=q:=IntWalk.i64_in _ (by omega)
 have w2:IntKind.i64.wrap (d:Int)=d:=IntWalk.i64_in _ (by omega)
 have w3:IntKind.u8.wrap (d:Int)=d:=IntWalk.u8_in _ (by omega)
 have w4:IntKind.i64.wrap ((o:Int)+1)=(o:Int)+1:=IntWalk.i64_in _ (by omega)
 have w5:IntKind.i64.wrap (4*n)=4*n:=IntWalk.i64_in _ (by omega)
 have h0:¬(k:Int)<0:=by omega
 have h1:¬4*n≤(k:Int):=by omega
 have ho1:((o+1:Nat):Int)=(o:Int)+1:=by omega
 rw [ho1] at HS ⊢
 clear hs hq hm hd ho ho1
 go_enter Tryz.func37,Tryz.ntmps37
 go_wp2_with fail
 (with_reducible refine (HR.out _).mono ?_)
 rintro e w' ⟨rfl,rfl⟩
 go_wp2_with fail
 (with_reducible refine HS.out.mono ?_)
 rintro e w' ⟨⟨v,rfl⟩,hb⟩
 have HB:=Lib.hid hb
 clear hb
 go_wp2_with fail
 try simp only [Exit.inBlock,Exit.then]
 first | refine bodyPost_ret (ret_four rfl _ _) rfl ?_ | refine bodyPost_end (ret_four rfl _ _) rfl ?_
 exact⟨⟨v,rfl⟩,HB.out⟩
theorem mk_cargo:MakeOk Tryz.prog 228 358 cargoZ:=⟨Tryz.underlying228,by kernel_rfl,by rw [len_cargoZ];omega⟩
theorem bt_wall:buildT Tryz.prog 169 [.map none] [(0,1)]:=⟨by kernel_rfl,by kernel_rfl⟩
theorem zrep_way (h:Nat):zrep cargoZ h=wayV (List.replicate h cgo0):=by
 induction h with
 | zero=>rfl
 | succ h ih=>rw [List.replicate_succ,wayV,←ih,zrep,List.replicate_succ,List.flatten_cons];rfl
section
variable (ρ:Operand→Value) (d:Option Tmp) (x y u:Operand) (ty:TypeId) (s:String) (af:Array Edge) (g:Option (Nat×Bool)) (w:World)
@[go_sem ↓] theorem ms_cargo (h:madeOk (ρ x) (ρ y)=true) :
 (execOp ρ { dst:=d,op:=.makeSlice 228 x y,type:=ty,pos:=s,after:=af,guard:=g }).run Tryz.prog w =
   .ok (.value (.slice (some ⟨w.heap.size,0,none⟩) (lenV (ρ x)) (lenV (ρ x)))) (w.alloc (.cells (zrep cargoZ (lenV (ρ x))).toArray 358)):=exec_make mk_cargo ρ d x y ty s af g w h
end
set_option maxRecDepth 100000 in
set_option maxHeartbeats 1000000 in
theorem lnew_any (h:Nat) (hh:h=1∨h=2) (w:World):Calls Tryz.prog 38 #[.int .i64 h] w fun e w'=> ∃b g,e=.returned (.tuple #[.pointer (some ⟨b,0,none⟩),.int .i64 0])∧w.heap.size≤b∧w.heap.size≤g∧LnAt w' b g 0 (List.replicate h cgo0)∧Below w.heap.size w w':=by
 have h1:¬(h:Int)<1:=by omega
 have h2:¬(2:Int)<h:=by omega
 have h3:h≤1048576:=by omega
 go_enter Tryz.func38,Tryz.ntmps38
 go_wp2_with fail
 go_ret2
 have hB:=((Below.refl w.heap.size w).alloc (Nat.le_refl _) (.cells (zrep cargoZ h).toArray 358)).alloc (by simp) (.cells #[Value.slice (some ⟨w.heap.size,0,none⟩) h h,.int .i64 0] 230)
 have k1:=(Blk.new w 358 (zrep cargoZ h).toArray).alloc (.cells #[Value.slice (some ⟨w.heap.size,0,none⟩) h h,.int .i64 0] 230)
 have k2:=Blk.new (w.alloc (.cells (zrep cargoZ h).toArray 358)) 230 #[Value.slice (some ⟨w.heap.size,0,none⟩) h h,.int .i64 0]
 rw [show (w.alloc (.cells (zrep cargoZ h).toArray 358)).heap.size=w.heap.size+1 by simp] at k2
 refine⟨w.heap.size+1,rfl,Nat.le_succ _,w.heap.size,Nat.le_refl _,⟨?_,?_,fun c hc=> ?_⟩,?_⟩
 ·simpa using k2
 ·rw [←zrep_way];exact k1
 ·rw [List.eq_of_mem_replicate hc];exact⟨rfl,rfl⟩
 ·exact hB
@[go_sem] theorem mk_lines (w:World):(Instr.makeMap 167 none).run Tryz.prog w=.ok (.map (some w.heap.size)) (w.alloc (.map #[] 0)):=by
 simp [Instr.makeMap,newObj,Sem.run]
@[go_sem] theorem mk_posts (w:World):(Instr.makeMap 54 none).run Tryz.prog w=.ok (.map (some w.heap.size)) (w.alloc (.map #[] 0)):=by
 simp [Instr.makeMap,newObj,Sem.run]
section
variable (ρ:Operand→Value) (d:Option Tmp) (x y u:Operand) (ty:TypeId) (s:String) (af:Array Edge) (g:Option (Nat×Bool)) (w:World)
@[go_sem ↓] theorem bd_wall (h:lenC (ρ x) 1=true):(execOp ρ { dst:=d,op:=.build 169 #[(0,x)],type:=ty,pos:=s,after:=af,guard:=g }).run Tryz.prog w=.ok (.value (.agg (cellsL (ρ x)).toArray)) w:=by
 have h1:(cellsL (ρ x)).length=1:=by simpa [lenC] using h
 rw [exec_build1 bt_wall (i:=0) rfl (by simp) ρ d x ty s af g w]
 ·simp [spl,h1]
 ·exact h
end
def lnP (lb:Nat→Nat) (k:Nat) (i:Int):Option Value:=if 0≤i∧i<(k:Int) then some (.pointer (some ⟨lb i.toNat,0,none⟩)) else none
theorem lnP_all (lb:Nat→Nat) (n:Nat):lnP lb (4*n)=lnF lb n:=by
 funext i;unfold lnP lnF
 have:((4*n:Nat):Int)=4*(n:Int):=by omega
 rw [this]
structure WnI (w:World) (wb mb gb:Nat) (n k:Nat) (lb wy:Nat→Nat) (wr:World):Prop where
 b:Blk wr wb 171 #[Value.map (some mb),.int .i64 n,.map (some gb),.int .i64 0]
 m:∃c,c≤k∧MapI Tryz.prog 3 wr mb c (lnP lb k)
 g:MapI Tryz.prog 3 wr gb 0 (fun _=>none)
 l:∀j,j<k→LnAt wr (lb j) (wy j) 0 (List.replicate (j % 2+1) cgo0)
 inj:∀i j,i<k→j<k→i≠j→lb i≠lb j∧wy i≠wy j
 lo:∀j,j<k→w.heap.size≤lb j∧w.heap.size≤wy j
 bel:Below w.heap.size w wr
 lw:w.heap.size≤wb∧w.heap.size≤mb∧w.heap.size≤gb∧gb≠mb
theorem WnI.below {w:World} {wb mb gb n k:Nat} {lb wy:Nat→Nat} {wr w':World} (h:WnI w wb mb gb n k lb wy wr) (hb:Below wr.heap.size wr w'):WnI w wb mb gb n k lb wy w':=by
 obtain⟨c,hc,hm⟩:=h.m
 exact⟨(hb.block _ h.b.lt).trans h.b,⟨c,hc,hm.keep (hb.block _ hm.lt)⟩,h.g.keep (hb.block _ h.g.lt),fun j hj=>(h.l j hj).keep (hb.block _ (h.l j hj).b.lt) (hb.block _ (h.l j hj).g.lt),h.inj,h.lo,h.bel.trans (hb.mono h.bel.size),h.lw⟩
theorem WnI.put {w:World} {wb mb gb n k:Nat} {lb wy:Nat→Nat} {wr w':World} (h:WnI w wb mb gb n k lb wy wr) (hk:k<64) (hb:Below wr.heap.size wr w') {b g:Nat} (h1:wr.heap.size≤b) (h2:wr.heap.size≤g) (hl:LnAt w' b g 0 (List.replicate (k % 2+1) cgo0)) :
 ∃w'',(Instr.mapUpdate 167 (.map (some mb)) (.int .i64 k) (.pointer (some ⟨b,0,none⟩))).run Tryz.prog w'=.ok () w''∧WnI w wb mb gb n (k+1) (fun j=>if j=k then b else lb j) (fun j=>if j=k then g else wy j) w'':=by
 have h':=h.below hb
 obtain⟨c,hc,hm⟩:=h'.m
 obtain⟨w'',hrun,hm2,hg2⟩:=hm.put (t:=167) (e:=175) (by kernel_rfl) (by kernel_rfl) (by unfold maxLen;omega) (i:=(k:Int)) (by simp [Lit.wf,IntKind.min,IntKind.max,IntKind.signed,IntKind.bits];omega) (.pointer (some ⟨b,0,none⟩))
 have hbk:∀{g:Nat} {t:TypeId} {cs:Array Value},Blk w' g t cs→w''.heap[g]? =w'.heap[g]?:=fun {g t cs} hq=>hg2.block g hq.lt (by intro e;injection e with e;exact hm.ne_blk hq e.symm)
 refine⟨w'',hrun,⟨(hbk h'.b).trans h'.b,⟨c+1,by omega,hm2.congr fun i=> ?_⟩,h'.g.keep (hg2.block _ h'.g.lt (by intro e;injection e with e;exact h.lw.2.2.2 e)),fun j hj=> ?_,fun i j hi hj hij=> ?_,fun j hj=> ?_,h'.bel.grown hg2 h'.bel.size (fun q hq=>by cases hq;exact h.lw.2.1),h.lw⟩⟩
 ·unfold lnP
  by_cases hik:i=(k:Int)
  ·subst hik
   rw [if_pos rfl,if_pos ⟨by omega,by omega⟩]
   simp
  ·rw [if_neg hik]
   by_cases hi:0≤i∧i<(k:Int)
   ·rw [if_pos hi,if_pos ⟨by omega,by omega⟩]
    simp only [if_neg (show i.toNat≠k by omega)]
   ·rw [if_neg hi,if_neg (by omega)]
 ·by_cases hjk:j=k
  ·subst hjk
   simp only [if_true]
   exact hl.keep (hbk hl.b) (hbk hl.g)
  ·simp only [if_neg hjk]
   have:=h'.l j (by omega)
   exact this.keep (hbk this.b) (hbk this.g)
 ·have key:∀i,i<k→lb i≠b∧wy i≠g:=fun i hi=>by
   have:=(h.l i hi).b.lt
   have:=(h.l i hi).g.lt
   omega
  by_cases hik:i=k
  ·subst hik
   simp only [if_true,if_neg (show j≠i from fun e=>hij e.symm)]
   exact⟨(key j (by omega)).1.symm,(key j (by omega)).2.symm⟩
  ·by_cases hjk:j=k
   ·subst hjk
    simp only [if_true,if_neg hik]
    exact key i (by omega)
   ·simp only [if_neg hik,if_neg hjk]
    exact h.inj i j (by omega) (by omega) hij
 ·by_cases hjk:j=k
  ·subst hjk
   simp only [if_true]
   have:=h.bel.size
   omega
  ·simp only [if_neg hjk]
   exact h.lo j (by omega)
def WnewP (n:Nat) (w:World) (e:Ending) (w':World):Prop:=∃wb mb gb lb wy,e=.returned (.tuple #[.pointer (some ⟨wb,0,none⟩),.int .i64 0])∧WrAt w' wb mb gb lb wy n 0 0 (fun k=>List.replicate (k % 2+1) cgo0) (gvF fun _=>none)∧gb≠mb∧
 (∀j k,j<4*n→k<4*n→j≠k→lb j≠lb k∧wy j≠wy k)∧(w.heap.size≤wb∧w.heap.size≤mb∧w.heap.size≤gb∧∀k,k<4*n→w.heap.size≤lb k∧w.heap.size≤wy k)∧Below w.heap.size w w'
set_option maxRecDepth 100000 in
set_option maxHeartbeats 1000000 in
theorem wnew_any (n:Nat) (h4:4≤n) (h16:n≤16) (w:World) (hs:SgW w):Calls Tryz.prog 22 #[.int .i64 n] w (WnewP n w):=by
 have h1:¬(n:Int)<4:=by omega
 have h2:¬(16:Int)<n:=by omega
 have w5:IntKind.i64.wrap (4*(n:Int))=4*(n:Int):=IntWalk.i64_in _ (by omega)
 have HS:=Lib.hid hs
 have hI:WnI w (w.heap.size+1+1) w.heap.size (w.heap.size+1) n 0 (fun _=>0) (fun _=>0) (((w.alloc (.map #[] 0)).alloc (.map #[] 0)).alloc (.cells #[Value.map (some w.heap.size),.int .i64 n,.map (some (w.heap.size+1)),.int .i64 0] 171)):=by
  have e1:(w.alloc (.map #[] 0)).heap.size=w.heap.size+1:=by simp
  have e2:((w.alloc (.map #[] 0)).alloc (.map #[] 0)).heap.size=w.heap.size+1+1:=by simp
  have b1:=balP (Below.refl (w.alloc (.map #[] 0)).heap.size (w.alloc (.map #[] 0))) (.map #[] 0)
  have b2:=balP (Below.refl ((w.alloc (.map #[] 0)).alloc (.map #[] 0)).heap.size ((w.alloc (.map #[] 0)).alloc (.map #[] 0))) (.cells #[Value.map (some w.heap.size),.int .i64 n,.map (some (w.heap.size+1)),.int .i64 0] 171)
  have m1:=MapI.made Tryz.prog 3 w
  have m2:=MapI.made Tryz.prog 3 (w.alloc (.map #[] 0))
  have k3:=Blk.new ((w.alloc (.map #[] 0)).alloc (.map #[] 0)) 171 #[Value.map (some w.heap.size),.int .i64 n,.map (some (w.heap.size+1)),.int .i64 0]
  rw [e1] at m2
  rw [e2] at k3
  have m1':=(m1.keep (b1.block _ m1.lt)).keep (b2.block _ (by rw [e2];omega))
  refine⟨k3,⟨0,Nat.le_refl _,m1'.congr fun i=> ?_⟩,m2.keep (b2.block _ (by rw [e2];omega)),by omega,by omega,by omega,(((Below.refl _ _).alloc (Nat.le_refl _) _).alloc (by simp) _).alloc (by simp;omega) _,by omega⟩
  unfold lnP
  rw [if_neg (by omega)]
 have HI:=Lib.hid hI
 clear hI hs
 go_enter Tryz.func22,Tryz.ntmps22
 go_wp2_with fail
 generalize ((w.alloc (.map #[] 0)).alloc (.map #[] 0)).alloc (.cells #[Value.map (some w.heap.size),.int .i64 n,.map (some (w.heap.size+1)),.int .i64 0] 171)=w1 at HI ⊢
 obtain⟨mb,hmb⟩:∃mb,Hid (mb=w.heap.size):=⟨_,Lib.hid rfl⟩
 obtain⟨gb,hgb⟩:∃gb,Hid (gb=mb+1):=⟨_,Lib.hid rfl⟩
 obtain⟨wb,hwb⟩:∃wb,Hid (wb=gb+1):=⟨_,Lib.hid rfl⟩
 rw [←hmb.out] at ⊢
 have HI2:Hid (WnI w wb mb gb n 0 (fun _=>0) (fun _=>0) w1):=Lib.hid (by
  have:=HI.out
  rw [←hmb.out,←hgb.out,←hwb.out] at this
  exact this)
 rw [←hgb.out,←hwb.out]
 clear HI
 go_loopw [24] (fun i wr=> ∃k:Nat,k≤4*n∧i=.int .i64 k∧∃lb wy,Hid (WnI w wb mb gb n k lb wy wr)) (fun i _=>4*n - (intOf i).toNat)
 case atStart=>exact⟨0,by omega,rfl,_,_,HI2⟩
 case round=>
  obtain⟨k,hk,rfl,lb,wy,HW⟩:=hrel
  clear HI2
  by_cases hlt:k<4*n
  ·have hlt':(k:Int)<4*(n:Int):=by omega
   have HEn:=Lib.hid (ends_any n k wr (HS.out.below HW.out.bel) (by omega) (by omega) hlt')
   go_wp2_with fail
   (with_reducible refine HEn.out.mono ?_)
   rintro e w2 ⟨⟨v,rfl⟩,hb2⟩
   have HB2:=Lib.hid hb2
   have HW2:=Lib.hid (HW.out.below hb2)
   clear hb2 HEn
   obtain⟨q,hq⟩:∃q,q=k / 4:=⟨_,rfl⟩
   obtain⟨d,hd⟩:∃d,d=k % 4 / 2:=⟨_,rfl⟩
   obtain⟨o,ho⟩:∃o,o=k % 2+1:=⟨_,rfl⟩
   rw [←hq,←hd,←ho]
   have HNw:Hid (∀w',Calls Tryz.prog 38 #[.int .i64 o] w' fun e w''=> ∃b g,e=.returned (.tuple #[.pointer (some ⟨b,0,none⟩),.int .i64 0])∧w'.heap.size≤b∧w'.heap.size≤g∧LnAt w'' b g 0 (List.replicate o cgo0)∧Below w'.heap.size w' w''):=Lib.hid fun w'=>lnew_any o (by omega) w'
   have HO:=Lib.hid ho
   clear hq hd ho HW
   go_upto_region 8 with fail
   have c0:w2.cell? ⟨wb,0,none⟩=some (.map (some mb)):=HW2.out.b.cell 0
   go_region_law (first
    | (go_simp;go_at_call 38;(with_reducible refine (HNw.out _).mono ?_);rintro e w3 ⟨b,g,rfl,hb,hg,hl,hb3⟩;have hb3':=Below.trans ((Below.refl w2.heap.size w2).drew) hb3;obtain⟨w4,hmu,hw4⟩:=HW2.out.put (by omega) hb3' hb hg (by rw [←HO.out];exact hl);have HW4:=Lib.hid hw4;have c3:w3.cell? ⟨wb,0,none⟩=some (.map (some mb)):=(HW2.out.below hb3').b.cell 0;clear hw4 hb hg hl hb3 hb3'))
   all_goals go_wp2_with fail
   all_goals exact⟨⟨k+1,by omega,by go_num,_,_,HW4⟩,by simp [intOf];omega⟩
  ·obtain rfl:k=4*n:=by omega
   go_wp2_with fail
   go_ret2
   have h:=HW.out
   obtain⟨c,hc,hm⟩:=h.m
   rw [lnP_all] at hm
   exact⟨_,_,_,lb,wy,rfl,⟨h.b,⟨c,hm⟩,by rw [gvF_none];exact h.g,h.l⟩,h.lw.2.2.2,h.inj,⟨h.lw.1,h.lw.2.1,h.lw.2.2.1,h.lo⟩,h.bel⟩
end Go.Proofs.YtdilbjikeilhbaaGreatDoor
