import Derived.Test.YtdilbjikeilhbaaGreatDoorGn46
namespace Go.Proofs.YtdilbjikeilhbaaGreatDoor
open Go.RowKit
set_option linter.unusedVariables false
set_option linter.unusedSimpArgs false
theorem mk_lists:MakeOk Tryz.prog 95 102 [.slice none 0 0]:=⟨Tryz.underlying95,by kernel_rfl,by simp⟩
theorem mk_ons:MakeOk Tryz.prog 51 4 [.bool false]:=⟨Tryz.underlying51,by kernel_rfl,by simp⟩
section
variable (ρ:Operand→Value) (d:Option Tmp) (x y z u:Operand) (ty:TypeId) (s:String) (af:Array Edge) (g:Option (Nat×Bool)) (w:World)
@[go_sem ↓] theorem ms_lists (h:madeOk (ρ x) (ρ y)=true) :
 (execOp ρ { dst:=d,op:=.makeSlice 95 x y,type:=ty,pos:=s,after:=af,guard:=g }).run Tryz.prog w =
   .ok (.value (.slice (some ⟨w.heap.size,0,none⟩) (lenV (ρ x)) (lenV (ρ x)))) (w.alloc (.cells (zrep [.slice none 0 0] (lenV (ρ x))).toArray 102)):=exec_make mk_lists ρ d x y ty s af g w h
@[go_sem ↓] theorem ms_ons (h:madeOk (ρ x) (ρ y)=true) :
 (execOp ρ { dst:=d,op:=.makeSlice 51 x y,type:=ty,pos:=s,after:=af,guard:=g }).run Tryz.prog w =
   .ok (.value (.slice (some ⟨w.heap.size,0,none⟩) (lenV (ρ x)) (lenV (ρ x)))) (w.alloc (.cells (zrep [.bool false] (lenV (ρ x))).toArray 4)):=exec_make mk_ons ρ d x y ty s af g w h
end
def setV (cv:List Value):List Value:=cv++ [.slice none 0 0,.int .i64 (-1),.int .i64 (-1),.slice none 0 0]
structure Nw1 (w:World) (p n b og lst:Nat) (wx:World):Prop where
 kb:Blk wx b 56 #[Value.pointer (some ⟨p,0,none⟩),.slice none 0 0,.slice (some ⟨og,0,none⟩) n n,.pointer none,.pointer none,.int .i64 (-1),.map (some lst),.int .i64 0]
 ko:Blk wx og 4 (zrep [.bool false] n).toArray
 l:MapI Tryz.prog 3 wx lst 0 (fun _=>none)
 lt:w.heap.size≤b∧w.heap.size≤og∧w.heap.size≤lst
 bel:Below w.heap.size w wx
def NwCut (w:World) (p n:Nat) (s9:Value) (wx:World):Prop:=∃wc b og lst,wc=wx∧s9=.pointer (some ⟨b,0,none⟩)∧Nw1 w p n b og lst wc
theorem nw_a (w:World) (p n:Nat):NwCut w p n (.pointer (some ⟨w.heap.size+1+1,0,none⟩)) (((w.alloc (.cells (zrep [.bool false] n).toArray 4)).alloc (.map #[] 0)).alloc (.cells #[.pointer (some ⟨p,0,none⟩),.slice none 0 0,.slice (some ⟨w.heap.size,0,none⟩) n n,.pointer none,.pointer none,.int .i64 (-1),.map (some (w.heap.size+1)),.int .i64 0] 56)):=by
 have e1:(w.alloc (.cells (zrep [.bool false] n).toArray 4)).heap.size=w.heap.size+1:=by simp
 have e2:((w.alloc (.cells (zrep [.bool false] n).toArray 4)).alloc (.map #[] 0)).heap.size=w.heap.size+1+1:=by simp
 have k1:=((Blk.new w 4 (zrep [.bool false] n).toArray).alloc (.map #[] 0)).alloc (.cells #[.pointer (some ⟨p,0,none⟩),.slice none 0 0,.slice (some ⟨w.heap.size,0,none⟩) n n,.pointer none,.pointer none,.int .i64 (-1),.map (some (w.heap.size+1)),.int .i64 0] 56)
 have m1:=MapI.made Tryz.prog 3 (w.alloc (.cells (zrep [.bool false] n).toArray 4))
 have k3:=Blk.new ((w.alloc (.cells (zrep [.bool false] n).toArray 4)).alloc (.map #[] 0)) 56 #[.pointer (some ⟨p,0,none⟩),.slice none 0 0,.slice (some ⟨w.heap.size,0,none⟩) n n,.pointer none,.pointer none,.int .i64 (-1),.map (some (w.heap.size+1)),.int .i64 0]
 rw [e1] at m1
 rw [e2] at k3
 exact⟨_,_,_,_,rfl,rfl,⟨k3,k1,m1.keep (Below.heap_alloc _ _ _ (by rw [e2];omega)),by omega,(((Below.refl _ _).alloc (Nat.le_refl _) _).alloc (by rw [e1];omega) _).alloc (by rw [e2];omega) _⟩⟩
theorem nw_b (w:World) (p n:Nat):NwCut w p n (.pointer (some ⟨w.heap.size+1+1,0,none⟩)) (((w.alloc (.map #[] 0)).alloc (.cells (zrep [.bool false] n).toArray 4)).alloc (.cells #[.pointer (some ⟨p,0,none⟩),.slice none 0 0,.slice (some ⟨w.heap.size+1,0,none⟩) n n,.pointer none,.pointer none,.int .i64 (-1),.map (some w.heap.size),.int .i64 0] 56)):=by
 have e1:(w.alloc (.map #[] 0)).heap.size=w.heap.size+1:=by simp
 have e2:((w.alloc (.map #[] 0)).alloc (.cells (zrep [.bool false] n).toArray 4)).heap.size=w.heap.size+1+1:=by simp
 have k1:=(Blk.new (w.alloc (.map #[] 0)) 4 (zrep [.bool false] n).toArray).alloc (.cells #[.pointer (some ⟨p,0,none⟩),.slice none 0 0,.slice (some ⟨w.heap.size+1,0,none⟩) n n,.pointer none,.pointer none,.int .i64 (-1),.map (some w.heap.size),.int .i64 0] 56)
 have m1:=MapI.made Tryz.prog 3 w
 have k3:=Blk.new ((w.alloc (.map #[] 0)).alloc (.cells (zrep [.bool false] n).toArray 4)) 56 #[.pointer (some ⟨p,0,none⟩),.slice none 0 0,.slice (some ⟨w.heap.size+1,0,none⟩) n n,.pointer none,.pointer none,.int .i64 (-1),.map (some w.heap.size),.int .i64 0]
 rw [e1] at k1
 rw [e2] at k3
 exact⟨_,_,_,_,rfl,rfl,⟨k3,k1,(m1.keep (Below.heap_alloc _ _ _ m1.lt)).keep (Below.heap_alloc _ _ _ (by rw [e2];omega)),by omega,(((Below.refl _ _).alloc (Nat.le_refl _) _).alloc (by rw [e1];omega) _).alloc (by rw [e2];omega) _⟩⟩
theorem NwCut.drew {w:World} {p n:Nat} {s9:Value} {wx:World} (h:NwCut w p n s9 wx):NwCut w p n s9 wx.drew:=by
 obtain⟨wc,b,og,lst,rfl,rfl,h1⟩:=h
 exact⟨wc.drew,b,og,lst,rfl,rfl,⟨h1.kb,h1.ko,h1.l.keep rfl,h1.lt,h1.bel.drew⟩⟩
theorem app_nd:AppOk Tryz.prog 50 69 1:=appOk_of Tryz.underlying50 (by kernel_rfl)
def ptrsN (nb:Nat→Nat) (k:Nat):List Value:=(List.range k).map fun i=>ptrN (nb i)
theorem ptrsN_succ (nb:Nat→Nat) (k:Nat):ptrsN nb (k+1)=ptrsN nb k++ [ptrN (nb k)]:=by simp [ptrsN,List.range_succ]
theorem ptrsN_congr {nb nb':Nat→Nat} {k:Nat} (h:∀i,i<k→nb' i=nb i):ptrsN nb' k=ptrsN nb k:=by
 unfold ptrsN
 refine List.map_congr_left fun i hi=> ?_
 rw [h i (List.mem_range.1 hi)]
theorem ptrsN_at {nb:Nat→Nat} {k i:Nat} (h:i<k):(ptrsN nb k)[i]? =some (.pointer (some ⟨nb i,0,none⟩)):=by simp [ptrsN,h,ptrN]
theorem zrep_on (n:Nat):zrep [.bool false] n=onN n (fun _=>false):=by
 unfold zrep onN
 induction n with
 | zero=>rfl
 | succ n ih=>rw [List.replicate_succ',List.flatten_append,ih,List.range_succ,List.map_append];rfl
structure NwI (A1:CfA) (q:Nat) (c:Cfg) (p n b og lst wb mb:Nat) (W7:World) (tag0:Nat→Nat) (k:Nat) (nb:Nat→Nat) (v:Value) (tg:Nat→Nat) (wr:World):Prop where
 ex:Ext W7 tag0 tg
 kb:Blk wr b 56 #[Value.pointer (some ⟨p,0,none⟩),v,.slice (some ⟨og,0,none⟩) n n,.pointer (some ⟨wb,0,none⟩),.pointer (some ⟨mb,0,none⟩),.int .i64 (-1),.map (some lst),.int .i64 0]
 own:wr.ownsRow W7.heap.size 69 1 v k (ptrsN nb k)
 vt:∀g,v.ownBlock=some g→tg g=1
 nx:∀i,i<k→NdF A1 q (NdK.new c i) (nb i) p (i+10) (NdS.new c i) tg wr
 ch:Chg (· =b) W7 wr
 net:NetAt (Snp tg wr) wr p A1 q c
 lb:b<W7.heap.size∧tag0 b=1
theorem NwI.step {A1:CfA} {q:Nat} {c:Cfg} {p n b og lst wb mb:Nat} {W7:World} {tag0:Nat→Nat} {k:Nat} {nb:Nat→Nat} {v:Value} {tg:Nat→Nat} {wr w':World} (h:NwI A1 q c p n b og lst wb mb W7 tag0 k nb v tg wr) (hk:k<16) {P:NP} {D:NPd} (hP:P.p=p)
 (hx:NdX (fun b=>Snp tg wr b∧b<wr.heap.size) (fun b=>wr.heap.size≤b∧b<w'.heap.size) A1 q (NdK.new c k) w' P D (NdS.new c k) w') (hb:Below wr.heap.size wr w') :
 (∀i,i<k+1→NdF A1 q (NdK.new c i) (if i=k then P.nb else nb i) p (i+10) (NdS.new c i) (extT wr.heap.size tg fun _=>k+10) w')∧NetAt (Snp (extT wr.heap.size tg fun _=>k+10) w') w' p A1 q c:=by
 have hE:=extT_ext wr tg fun _=>k+10
 refine⟨fun i hi=> ?_,NetTab.mono (NetAt.below h.net hb) fun b _ hb'=>hb'.ext hb.size hE⟩
 by_cases hik:i=k
 ·subst hik
  rw [if_pos rfl]
  exact NdF.of (by omega) rfl hP hx (fun b _ hb'=>(hE _ hb'.1.2).trans hb'.1.1) (fun b hl e=>extT_new _ _ (by
   rcases e with e | e
   ·exact e.1
   ·omega))
 ·rw [if_neg hik]
  exact (h.nx i (by omega)).keep (by omega) hb.size (fun b hl _=>hb.block b hl) hE
theorem NwI.push {A1:CfA} {q:Nat} {c:Cfg} {p n b og lst wb mb:Nat} {W7:World} {tag0:Nat→Nat} {k:Nat} {nb:Nat→Nat} {v:Value} {tg:Nat→Nat} {wr w' w1:World} (h:NwI A1 q c p n b og lst wb mb W7 tag0 k nb v tg wr) (hk:k<16) {P:NP} {D:NPd} (hP:P.p=p)
 (hx:NdX (fun b=>Snp tg wr b∧b<wr.heap.size) (fun b=>wr.heap.size≤b∧b<w'.heap.size) A1 q (NdK.new c k) w' P D (NdS.new c k) w') (hb:Below wr.heap.size wr w') {v':Value}
 (ho:w1.ownsRow W7.heap.size 69 1 v' (k+1) (ptrsN nb k++ [ptrN P.nb])) (hg:(w'.alloc (.cells #[ptrN P.nb] 69)).grownBy w1 v.ownBlock) (hl:∀g,v'.ownBlock=some g→v.ownBlock=some g∨(w'.alloc (.cells #[ptrN P.nb] 69)).heap.size≤g) :
 w1.cell? ⟨b,1,none⟩=some v∧w1.frozen? ⟨b,1,none⟩=false∧NwI A1 q c p n b og lst wb mb W7 tag0 (k+1) (fun i=>if i=k then P.nb else nb i) v' (extT w'.heap.size (extT wr.heap.size tg fun _=>k+10) fun _=>1) (w1.setCell ⟨b,1,none⟩ v'):=by
 have hE1:=extT_ext wr tg fun _=>k+10
 have hE2:=extT_ext w' (extT wr.heap.size tg fun _=>k+10) fun _=>1
 obtain⟨hn,hnet⟩:=h.step hk hP hx hb
 have hc7:=h.ch.size
 have hbs:=hb.size
 have hgs:=hg.size
 have hasz:(w'.alloc (.cells #[ptrN P.nb] 69)).heap.size=w'.heap.size+1:=by simp
 have hvo:∀g,v.ownBlock=some g→W7.heap.size≤g∧g<wr.heap.size∧tg g=1:=fun g e=>⟨(h.own.lt g e).1,(h.own.lt g e).2,h.vt g e⟩
 -- blocks that stay from w' on
 have hst:∀x,x<w'.heap.size→v.ownBlock≠some x→w1.heap[x]? =w'.heap[x]?:=fun x hx' hne=>(hg.block x (by omega) (fun e=>hne e.symm)).trans (Below.heap_alloc _ _ _ hx')
 have hbl:b<wr.heap.size:=Nat.lt_of_lt_of_le h.lb.1 hc7
 have hbv:v.ownBlock≠some b:=fun e=>by have:=(hvo b e).1;have:=h.lb.1;omega
 have hkb:Blk w1 b 56 #[Value.pointer (some ⟨p,0,none⟩),v,.slice (some ⟨og,0,none⟩) n n,.pointer (some ⟨wb,0,none⟩),.pointer (some ⟨mb,0,none⟩),.int .i64 (-1),.map (some lst),.int .i64 0]:=(hst b (by omega) hbv).trans (h.kb.below hb hbl)
 have hz:w1.heap.size≤(w1.setCell ⟨b,1,none⟩ v').heap.size:=by simp
 have hsc:∀x,x≠b→(w1.setCell ⟨b,1,none⟩ v').heap[x]? =w1.heap[x]?:=fun x hx'=>Below.heap_setCell _ _ _ _ hx'
 have htb:tg b=1:=(h.ex _ h.lb.1).trans h.lb.2
 have ht1:∀x,x<wr.heap.size→(extT wr.heap.size tg fun _=>k+10) x=tg x:=fun x hx'=>hE1 x hx'
 -- what is not of number 1 stays
 have hkeep:∀x,x<w'.heap.size→(extT wr.heap.size tg fun _=>k+10) x≠1→(w1.setCell ⟨b,1,none⟩ v').heap[x]? =w'.heap[x]?:=fun x hx' hne=>by
  have hxb:x≠b:=by rintro rfl;exact hne ((ht1 _ hbl).trans htb)
  refine (hsc x hxb).trans (hst x hx' fun e=> ?_)
  have:=hvo x e
  exact hne ((ht1 _ this.2.1).trans this.2.2)
 have hz2:w'.heap.size≤(w1.setCell ⟨b,1,none⟩ v').heap.size:=by simp;omega
 refine⟨hkb.cell 1,hkb.frozen 1,⟨(h.ex.trans hc7 hE1).trans (Nat.le_trans hc7 hbs) hE2,by simpa using hkb.set_ 1 v',?_,fun g e=> ?_,fun i hi=> ?_,?_,?_,h.lb⟩⟩
 ·have hpc:ptrsN (fun i=>if i=k then P.nb else nb i) (k+1)=ptrsN nb k++ [ptrN P.nb]:=by
   rw [ptrsN_succ]
   simp only [if_true]
   congr 1
   exact ptrsN_congr fun i hi=>by simp only [if_neg (show i≠k by omega)]
  rw [hpc]
  refine own_block ho fun g e=>hsc g ?_
  rintro rfl
  rcases hl _ e with e' | e'
  ·exact hbv e'
  ·omega
 ·rcases hl g e with e' | e'
  ·have:=hvo g e'
   exact (hE2 g (by omega)).trans ((ht1 g this.2.1).trans this.2.2)
  ·exact extT_new _ _ (by omega)
 ·exact (hn i hi).keep (by omega) hz2 (fun x hx' e=>hkeep x hx' (by omega)) hE2
 ·refine chgW h.ch (S':=fun x=>x=b∨W7.heap.size≤x) ⟨?_,?_,?_,by omega,fun x hx' hne=> ?_⟩ fun x hx' e=> ?_
  ·exact (hg.os.trans hb.os)
  ·exact (hg.tape.trans hb.tape)
  ·exact (hg.output.trans hb.output)
  ·refine (hsc x fun e=>hne (.inl e)).trans ((hst x (by omega) fun e=>hne (.inr (hvo x e).1)).trans (hb.block x hx'))
  ·rcases e with e | e
   ·exact e
   ·omega
 ·exact NetTab.mono (NetTab.keep hnet hz2 fun x hx' _=>hkeep x hx'.2 (by rw [hx'.1];omega)) fun x _ hx'=>hx'.ext hz2 hE2
def New31 (c:Cfg) (n:Nat) (tagc:Nat→Nat) (w:World) (e:Ending) (w':World):Prop:=∃(A:NtP) (A1:CfA) (q:Nat) (nb:Nat→Nat) (tg:Nat→Nat) (mb tm lm:Nat) (a:Option Addr) (cap:Nat),
 e=.returned (.tuple #[.pointer (some ⟨A.b,0,none⟩),.int .i64 0])∧A.wrong= -1∧NbX tg w' n mb nb A 0 (fun _=>false)∧WrX tg w' n 0 A.wr 0 (fun k=>List.replicate (k % 2+1) poZ) (fun _=>none)∧(MoB w' mb n (-1) (-1) (.slice a 0 cap) tm lm∧tg mb=3)∧
 (∀i,i<n→NdF A1 q (NdK.new c i) (nb i) A.p (i+10) (NdS.new c i) tg w')∧LaX tg w' n 0 A.lst (fun _=>none)∧Ext w tagc tg∧Below w.heap.size w w'∧NetAt (Snp tg w') w' A.p A1 q c
open Classical in
noncomputable def tagW (tagc:Nat→Nat) (sz b og mb lst g ge:Nat) (W:WrP) (n:Nat) (x:Nat):Nat:=
 if x<sz then tagc x else if x=b∨x=og then 1 else if x=mb then 3 else if x=lst then 4 else if x=g∨x=ge then 98 else if x=W.wb∨x=W.mb∨x=W.gb∨LnB W.lb W.wy n x then 2 else 0
theorem tagW_lo {tagc:Nat→Nat} {sz b og mb lst g ge:Nat} {W:WrP} {n x:Nat} (h:x<sz):tagW tagc sz b og mb lst g ge W n x=tagc x:=if_pos h
theorem tagW_1 {tagc:Nat→Nat} {sz b og mb lst g ge:Nat} {W:WrP} {n x:Nat} (h:sz≤x) (h1:x=b∨x=og):tagW tagc sz b og mb lst g ge W n x=1:=by
 unfold tagW;rw [if_neg (by omega),if_pos h1]
theorem tagW_3 {tagc:Nat→Nat} {sz b og mb lst g ge:Nat} {W:WrP} {n x:Nat} (h:sz≤x) (h1:x≠b∧x≠og) (h2:x=mb):tagW tagc sz b og mb lst g ge W n x=3:=by
 unfold tagW;rw [if_neg (by omega),if_neg (by omega),if_pos h2]
theorem tagW_4 {tagc:Nat→Nat} {sz b og mb lst g ge:Nat} {W:WrP} {n x:Nat} (h:sz≤x) (h1:x≠b∧x≠og) (h2:x≠mb) (h3:x=lst):tagW tagc sz b og mb lst g ge W n x=4:=by
 unfold tagW;rw [if_neg (by omega),if_neg (by omega),if_neg h2,if_pos h3]
theorem tagW_2 {tagc:Nat→Nat} {sz b og mb lst g ge:Nat} {W:WrP} {n x:Nat} (h:sz≤x) (h1:x≠b∧x≠og) (h2:x≠mb) (h3:x≠lst) (h4:x≠g∧x≠ge) (h5:x=W.wb∨x=W.mb∨x=W.gb∨LnB W.lb W.wy n x):tagW tagc sz b og mb lst g ge W n x=2:=by
 unfold tagW;rw [if_neg (by omega),if_neg (by omega),if_neg h2,if_neg h3,if_neg (by omega),if_pos h5]
theorem tagW_0 {tagc:Nat→Nat} {sz b og mb lst g ge:Nat} {W:WrP} {n x:Nat} (h:sz≤x) (h1:x≠b∧x≠og) (h2:x≠mb) (h3:x≠lst) (h4:x≠g∧x≠ge) (h5:¬(x=W.wb∨x=W.mb∨x=W.gb∨LnB W.lb W.wy n x)):tagW tagc sz b og mb lst g ge W n x=0:=by
 unfold tagW;rw [if_neg (by omega),if_neg (by omega),if_neg h2,if_neg h3,if_neg (by omega),if_neg h5]
set_option maxRecDepth 100000 in
set_option maxHeartbeats 4000000 in
theorem new31_any (S:Nat→Prop) (A:CfA) (c:Cfg) (w:World) (h:CfR S w A c) (hsg:SgW w) (hok:RefOk c) (hst:c.St=[]) (n:Nat) (hn:c.N=n) (tagc:Nat→Nat) (htc:tagc 0=0) :
 Calls Tryz.prog 7 #[.agg (setV (cfV A c)).toArray] w (New31 c n tagc w):=by
 obtain⟨cv,hcv⟩:∃cv,Hid (cv=cfV A c):=⟨_,Lib.hid rfl⟩
 have hcvl:cv.length=9:=by rw [hcv.out];rfl
 obtain⟨sv,hsv⟩:∃sv,Hid (sv=setV cv):=⟨_,Lib.hid rfl⟩
 have hsvl:sv.length=13:=by rw [hsv.out];simp [setV,hcvl]
 rw [←hcv.out,←hsv.out]
 have hsg0:=hsg.lt
 have hsg1:=hsg
 have hB0:=balP (Below.refl w.heap.size w) (.cells sv.toArray 31)
 have k0:=Blk.new w 31 sv.toArray
 have HC:=Lib.hid (newYes_any S A c _ (h.below hB0) (hsg.below hB0) hok)
 rw [←hcv.out] at HC
 have HB0:=Lib.hid (And.intro hB0 (And.intro k0 (hsg.below hB0)))
 have HSG:=Lib.hid (And.intro hsg0 hsg1)
 clear h hsg hB0 hsg0 hsg1
 go_enter Tryz.func7,Tryz.ntmps7
 go_upto_region 1 with fail
 generalize w.alloc (.cells sv.toArray 31)=w0 at HB0 k0 HC ⊢
 obtain⟨g,hg⟩:∃g,Hid (g=w.heap.size):=⟨_,Lib.hid rfl⟩
 rw [←hg.out] at HB0 k0 ⊢
 obtain⟨r1,r2,-⟩:=k0.whole hsvl
 obtain⟨r3,r4⟩:=row_part r1 r2 0 9 (by omega)
 rw [hsv.out] at r4
 rw [show ((setV cv).drop 0).take 9=cv by rw [List.drop_zero];unfold setV;rw [←hcvl,List.take_left]] at r4
 clear r1 r2 k0
 go_wp2_with fail
 (with_reducible refine HC.out.mono ?_)
 rintro e w1 ⟨p,A1,q,rfl,hn1,hb1⟩
 have HN1:=Lib.hid (And.intro hn1 hb1)
 have cn1:w1.cell? ⟨p,0,none⟩=some (.int .i64 n):=by rw [hn1.blk.cell,←hn];rfl
 have hn4:4≤n∧n≤16:=by have:=hok.n;omega
 have hn5:n≤1048576:=by omega
 have HB1:=Lib.hid (And.intro (hb1.mono (Nat.le_refl _)) (HB0.out.2.1.below hb1 HB0.out.2.1.lt))
 clear hn1 hb1 r3 r4
 go_upto_region 5 with fail
 have hb2:=balP (Below.refl w1.heap.size w1) (.cells (zrep [.slice none 0 0] n).toArray 102)
 have kl:=Blk.new w1 102 (zrep [.slice none 0 0] n).toArray
 have hn2:=HN1.out.1.below hb2
 have k1:=HB1.out.2.below hb2 HB1.out.2.lt
 generalize w1.alloc (.cells (zrep [.slice none 0 0] n).toArray 102)=w2 at hb2 kl hn2 k1 ⊢
 obtain⟨ge,hge⟩:∃ge,Hid (ge=w1.heap.size):=⟨_,Lib.hid rfl⟩
 rw [←hge.out] at kl ⊢
 have cn:w2.cell? ⟨p,0,none⟩=some (.int .i64 n):=by rw [hn2.blk.cell,←hn];rfl
 have s9:w2.cell? ⟨g,9,none⟩=some (.slice none 0 0):=by
  rw [k1.cell,hsv.out]
  simp [setV,hcvl]
 have s10:w2.cell? ⟨g,10,none⟩=some (.int .i64 (-1)):=by
  rw [k1.cell,hsv.out]
  simp [setV,hcvl]
 have HF:Hid (∀w',Below w2.heap.size w2 w'→w'.cell? ⟨p,0,none⟩=some (.int .i64 n)∧hasRow w' ⟨g,10,none⟩ 3=true∧rowOf w' ⟨g,10,none⟩ 3=[.int .i64 (-1),.int .i64 (-1),.slice none 0 0]):=Lib.hid fun w' hb=>by
  obtain⟨q1,q2,-⟩:=(k1.below hb k1.lt).whole hsvl
  obtain⟨q3,q4⟩:=row_part q1 q2 10 3 (by omega)
  rw [hsv.out] at q4
  have e10:((setV cv).drop 10).take 3=[.int .i64 (-1),.int .i64 (-1),.slice none 0 0]:=by
   have e:cv.drop 10=[]:=List.drop_eq_nil_of_le (by omega)
   unfold setV
   rw [List.drop_append,e,hcvl]
   rfl
  rw [e10] at q4
  simp only [Nat.zero_add] at q3 q4
  exact⟨(hb.cell (p:=⟨p,0,none⟩) hn2.blk.lt).trans cn,q3,q4⟩
 have HN2:=Lib.hid (And.intro hn2 (And.intro hb2 (And.intro kl k1)))
 have HB2:=Lib.hid (Below.refl w2.heap.size w2)
 have hgl:g<w2.heap.size:=k1.lt
 have hpl:p<w2.heap.size:=hn2.blk.lt
 clear hn2 hb2 kl k1 cn1
 go_wp2_with fail
 go_loopw [32] (fun i wr=>i=.int .i64 0∧wr=w2) (fun _ _=>0)
 case atStart=>exact⟨rfl,rfl⟩
 case round=>
  obtain⟨rfl,hw⟩:=hrel
  rw [hw]
  clear hw
  go_upto_region 12 with fail
  go_cut [9] from 72 to 84 (fun s9 wx=>NwCut w2 p n s9 wx)
  case first=>
   go_region_law (first | fail)
   all_goals go_wp2_with fail
   all_goals go_meet
   all_goals first | exact (nw_a w2 p n).drew | exact (nw_b w2 p n).drew
  case rest=>
   obtain⟨wc,b,og,lst,rfl,rfl,h1⟩:=hcut
   have H1:=Lib.hid h1
   have hb3:Below w2.heap.size w2 wc:=h1.bel
   obtain⟨f1,f2,f3⟩:=HF.out wc hb3
   have HFN:Hid (Calls Tryz.prog 21 #[.int .i64 n,.agg #[.int .i64 (-1),.int .i64 (-1),.slice none 0 0]] wc.drew (FNewYes n (-1) (-1) [] wc.drew)):=Lib.hid (fnew_yes (fun _=>True) n (-1) (-1) none 0 0 [] wc.drew (by omega) (by omega) ⟨by omega,by omega,by omega⟩ (RdF.nil _ _ _ _))
   have HFd:=Lib.hid (HF.out _ hb3.drew)
   clear h1 hb3 s10 s9 cn
   go_upto_region 13 with fail
   go_region_held3 (fun w'=>w'.cell? ⟨p,0,none⟩=some (.int .i64 n)∧hasRow w' ⟨g,10,none⟩ 3=true∧rowOf w' ⟨g,10,none⟩ 3=[.int .i64 (-1),.int .i64 (-1),.slice none 0 0])
    (with_reducible (first | exact HFd.out | exact HF4.out | exact HF5.out))
    ((first
      | (go_at_call 21;(with_reducible (refine (HFN.out.mono ?_)));rintro e w4 ⟨mb,tm,lm,a4,cap4,rfl,hmb,htm,hlm,hmo,ht0,hl0,htl,-,hb4⟩;have hb4':=Below.trans ((Below.refl wc.heap.size wc).drew) hb4;have hb24:=H1.out.bel.trans (hb4'.mono H1.out.bel.size);have HF4:=Lib.hid (HF.out _ hb24);have HF5:=Lib.hid (HF.out (w4.setCell ⟨b,4,none⟩ (.pointer (some ⟨mb,0,none⟩))) (hb24.setCell (p:=⟨b,4,none⟩) H1.out.lt.1 _));have kb4:=H1.out.kb.below hb4' H1.out.kb.lt;have z4:w4.cell? ⟨b,4,none⟩=some (.pointer none):=kb4.cell 4;have y4:w4.frozen? ⟨b,4,none⟩=false:=kb4.frozen 4;have H4:=Lib.hid (And.intro hb4' (And.intro hmo (And.intro hmb kb4)));clear hb4 hb4' hb24 kb4 hmo hmb htm hlm ht0 hl0 htl)))
   have kb5:Blk (w4.setCell ⟨b,4,none⟩ (.pointer (some ⟨mb,0,none⟩))) b 56 #[Value.pointer (some ⟨p,0,none⟩),.slice none 0 0,.slice (some ⟨og,0,none⟩) n n,.pointer none,.pointer (some ⟨mb,0,none⟩),.int .i64 (-1),.map (some lst),.int .i64 0]:=by simpa using H4.out.2.2.2.set_ 4 (.pointer (some ⟨mb,0,none⟩))
   have hb25:Below w2.heap.size w2 (w4.setCell ⟨b,4,none⟩ (.pointer (some ⟨mb,0,none⟩))):=(H1.out.bel.trans (H4.out.1.mono H1.out.bel.size)).setCell (p:=⟨b,4,none⟩) H1.out.lt.1 _
   have hbc5:∀x,x<w4.heap.size→x≠b→(w4.setCell ⟨b,4,none⟩ (.pointer (some ⟨mb,0,none⟩))).heap[x]? =w4.heap[x]?:=fun x _ hx=>Below.heap_setCell _ _ _ _ hx
   have hz5:(w4.setCell ⟨b,4,none⟩ (.pointer (some ⟨mb,0,none⟩))).heap.size=w4.heap.size:=by simp
   have HW5:Hid (∀x,x<wc.heap.size→x≠b→(w4.setCell ⟨b,4,none⟩ (.pointer (some ⟨mb,0,none⟩))).heap[x]? =wc.heap[x]?):=Lib.hid fun x hx hne=>(hbc5 x (Nat.lt_of_lt_of_le hx H4.out.1.size) hne).trans (H4.out.1.block x hx)
   have hmo5:MoB (w4.setCell ⟨b,4,none⟩ (.pointer (some ⟨mb,0,none⟩))) mb n (-1) (-1) (.slice a4 0 cap4) tm lm:=(hbc5 mb H4.out.2.1.lt (by intro e;have:=H4.out.2.2.1;have:=H1.out.kb.lt;have e2:wc.drew.heap.size=wc.heap.size:=rfl;omega)).trans H4.out.2.1
   obtain⟨f1',f2',f3'⟩:=HF.out _ hb25
   generalize w4.setCell ⟨b,4,none⟩ (.pointer (some ⟨mb,0,none⟩))=w5 at kb5 hb25 HW5 hmo5 hz5 f1' f2' f3' ⊢
   have hsz5:wc.heap.size≤w5.heap.size:=by rw [hz5];exact H4.out.1.size
   have H5:=Lib.hid (And.intro kb5 (And.intro hb25 (And.intro hmo5 (And.intro hsz5 H4.out.2.2.1))))
   clear f1 f2 f3 z4 y4 hbc5 hz5 H4 HF4 HF5 HFd HFN kb5 hb25 hmo5 hsz5 f2' f3'
   -- the wires
   have hsg5:SgW w5:=((HB0.out.2.2.below HN1.out.2).below HN2.out.2.1).below H5.out.2.1
   have HWn:=Lib.hid (wnew_any n hn4.1 hn4.2 w5 hsg5)
   have HSg:=Lib.hid hsg5
   clear hsg5
   go_wp2_with fail
   (with_reducible refine HWn.out.mono ?_)
   rintro e w6 ⟨wb,mb',gb,lb,wy,rfl,hw6,hgm,hinj,hlo,hb6⟩
   have z3:w6.cell? ⟨b,3,none⟩=some (.pointer none):=(H5.out.1.below hb6 H5.out.1.lt).cell 3
   have y3:w6.frozen? ⟨b,3,none⟩=false:=(H5.out.1.below hb6 H5.out.1.lt).frozen 3
   have H6:=Lib.hid (And.intro hw6 (And.intro hgm (And.intro hinj (And.intro hlo hb6))))
   clear hw6 hgm hinj hlo hb6 HWn
   go_upto_region 17 with fail
   have kb7:Blk (w6.setCell ⟨b,3,none⟩ (.pointer (some ⟨wb,0,none⟩))) b 56 #[Value.pointer (some ⟨p,0,none⟩),.slice none 0 0,.slice (some ⟨og,0,none⟩) n n,.pointer (some ⟨wb,0,none⟩),.pointer (some ⟨mb,0,none⟩),.int .i64 (-1),.map (some lst),.int .i64 0]:=by simpa using (H5.out.1.below H6.out.2.2.2.2 H5.out.1.lt).set_ 3 (.pointer (some ⟨wb,0,none⟩))
   have hk6:∀x,x≠b→(w6.setCell ⟨b,3,none⟩ (.pointer (some ⟨wb,0,none⟩))).heap[x]? =w6.heap[x]?:=fun x hx=>Below.heap_setCell _ _ _ _ hx
   have hz7:(w6.setCell ⟨b,3,none⟩ (.pointer (some ⟨wb,0,none⟩))).heap.size=w6.heap.size:=by simp
   have hB27:Below w2.heap.size w2 (w6.setCell ⟨b,3,none⟩ (.pointer (some ⟨wb,0,none⟩))):=(H5.out.2.1.trans (H6.out.2.2.2.2.mono H5.out.2.1.size)).setCell (p:=⟨b,3,none⟩) H1.out.lt.1 _
   obtain⟨hw6,hgm,hinj,hlo,hb6⟩:=H6.out
   have hb5b:b<wc.heap.size:=H1.out.kb.lt
   have hsz56:=hb6.size
   have hsz5:=H5.out.2.2.2.1
   have hmolt:=H5.out.2.2.1.lt
   have hmb5:wc.heap.size≤mb:=H5.out.2.2.2.2
   have hmb56:mb≠b:=by omega
   have hw7:WrAt (w6.setCell ⟨b,3,none⟩ (.pointer (some ⟨wb,0,none⟩))) wb mb' gb lb wy n 0 0 (fun k=>List.replicate (k % 2+1) cgo0) (gvF fun _=>none):=hw6.keep fun x _ hx=>hk6 x (by
    rcases hx with rfl | rfl | rfl | ⟨k,hk,rfl | rfl⟩
    ·have:=hlo.1;omega
    ·have:=hlo.2.1;omega
    ·have:=hlo.2.2.1;omega
    ·have:=(hlo.2.2.2 k hk).1;omega
    ·have:=(hlo.2.2.2 k hk).2;omega)
   have hmo7:MoB (w6.setCell ⟨b,3,none⟩ (.pointer (some ⟨wb,0,none⟩))) mb n (-1) (-1) (.slice a4 0 cap4) tm lm:=(hk6 mb hmb56).trans (H5.out.2.2.1.below hb6 hmolt)
   have hk7:∀x,x<wc.heap.size→x≠b→(w6.setCell ⟨b,3,none⟩ (.pointer (some ⟨wb,0,none⟩))).heap[x]? =wc.heap[x]?:=fun x hx hne=>(hk6 x hne).trans ((hb6.block x (by omega)).trans (HW5.out x hx hne))
   generalize w6.setCell ⟨b,3,none⟩ (.pointer (some ⟨wb,0,none⟩))=w7 at kb7 hz7 hB27 hw7 hmo7 hk7 ⊢
   have H7:=Lib.hid (And.intro kb7 (And.intro hB27 (And.intro hw7 (And.intro hmo7 (And.intro hk7 hz7)))))
   obtain⟨WP,hWP⟩:∃WP:WrP,Hid (WP=⟨wb,mb',gb,lb,wy⟩):=⟨_,Lib.hid rfl⟩
   obtain⟨tg0,htg0⟩:∃t,Hid (t=tagW tagc w.heap.size b og mb lst g ge WP n):=⟨_,Lib.hid rfl⟩
   -- sizes
   have s0:g<w0.heap.size:=HB0.out.2.1.lt
   have s1:=HN1.out.2.size
   have s2:ge<w2.heap.size:=HN2.out.2.2.1.lt
   have s3:=H1.out.lt
   have s4:og<wc.heap.size:=H1.out.ko.lt
   have s5:lst<wc.heap.size:=H1.out.l.lt
   have HSz:Hid (w.heap.size=g∧g<w0.heap.size∧w0.heap.size≤ge∧ge<w2.heap.size∧(w2.heap.size≤b∧w2.heap.size≤og∧w2.heap.size≤lst)∧(b<wc.heap.size∧og<wc.heap.size∧lst<wc.heap.size)∧wc.heap.size≤mb∧mb<w5.heap.size∧(w5.heap.size≤wb∧w5.heap.size≤mb'∧w5.heap.size≤gb)∧w5.heap.size≤w7.heap.size∧w2.heap.size≤w7.heap.size∧w1.heap.size=ge):=Lib.hid (by
    have h1:=hg.out
    have h2:=hge.out
    have h3:=hlo
    have h4:=hB27.size
    refine⟨h1.symm,s0,by omega,s2,s3,⟨hb5b,s4,s5⟩,hmb5,hmolt,⟨h3.1,h3.2.1,h3.2.2.1⟩,by omega,h4,h2.symm⟩)
   have HLn:Hid (∀k,k<4*n→w5.heap.size≤lb k∧w5.heap.size≤wy k):=Lib.hid hlo.2.2.2
   clear hw6 hgm hinj hlo hb6 hb5b hsz56 hsz5 hmolt hmb5 hmb56 hw7 hmo7 hk7 hk6 s0 s1 s2 s3 s4 s5 hB27 z3 y3
   have HT0:Hid (∀x,w0.heap.size≤x→x<w1.heap.size→tg0 x=0):=Lib.hid fun x h1 h2=>by
    obtain⟨q1,q2,q3,q4,q5,q6,q7,q8,q9,q10,q11,q12⟩:=HSz.out
    rw [htg0.out]
    refine tagW_0 (by omega) (by omega) (by omega) (by omega) (by omega) ?_
    rw [hWP.out]
    rintro (e | e | e | ⟨k,hk,e | e⟩)
    ·replace e:x=wb:=e;omega
    ·replace e:x=mb':=e;omega
    ·replace e:x=gb:=e;omega
    ·have:=(HLn.out k hk).1;replace e:x=lb k:=e;omega
    ·have:=(HLn.out k hk).2;replace e:x=wy k:=e;omega
   have HI:Hid (NwI A1 q c p n b og lst wb mb w7 tg0 0 (fun _=>0) (.slice none 0 0) tg0 w7):=Lib.hid (by
    obtain⟨q1,q2,q3,q4,q5,q6,q7,q8,q9,q10,q11,q12⟩:=HSz.out
    refine⟨Ext.refl _ _,H7.out.1,World.ownsRow_nil _ _ _ _,fun g e=>by (cases e),fun i hi=>by omega,Chg.refl _ _,?_,H7.out.1.lt,?_⟩
    ·have h1:NetAt (fun x=>w0.heap.size≤x∧x<w1.heap.size) w1 p A1 q c:=NetTab.mono HN1.out.1 fun x hl hx=>⟨hx,hl⟩
     have h2:NetAt (fun x=>w0.heap.size≤x∧x<w1.heap.size) w7 p A1 q c:=NetTab.keep h1 (by omega) fun x hx _=>((H7.out.2.2.2.2.1 x (by omega) (by omega)).trans (H1.out.bel.block x (by omega))).trans (HN2.out.2.1.block x hx.2)
     exact NetTab.mono h2 fun x hl hx=>⟨HT0.out x hx.1 hx.2,hl⟩
    ·rw [htg0.out]
     exact tagW_1 (by omega) (.inl rfl))
   have kl7:Hid (∀k,k<n→w7.cell? ⟨ge,k,none⟩=some (.slice none 0 0)):=Lib.hid fun k hk=>by
    obtain⟨q1,q2,q3,q4,q5,q6,q7,q8,q9,q10,q11,q12⟩:=HSz.out
    have hkl:Blk w7 ge 102 (zrep [.slice none 0 0] n).toArray:=((H7.out.2.2.2.2.1 ge (by have:=H1.out.bel.size;omega) (by omega)).trans (H1.out.bel.block ge q4)).trans HN2.out.2.2.1
    rw [hkl.cell,List.getElem?_toArray,zrep_at (by simp) n k (by simpa using hk)]
    simp [Nat.mod_one]
   go_wp2_with fail
   go_loopw [116] (fun i wr=> ∃(k:Nat) (nb:Nat→Nat) (v:Value) (tg:Nat→Nat),k≤n∧i=.int .i64 k∧Hid (NwI A1 q c p n b og lst wb mb w7 tg0 k nb v tg wr)) (fun i _=>n - (intOf i).toNat)
   case atStart=>exact⟨0,_,_,_,by omega,rfl,HI⟩
   case round=>
    obtain⟨k,nb,v,tg,hk,rfl,HK⟩:=hrel
    by_cases hlt:k<n
    ·have d9:wr.cell? ⟨ge,k,none⟩=some (.slice none 0 0):=by
      obtain⟨q1,q2,q3,q4,q5,q6,q7,q8,q9,q10,q11,q12⟩:=HSz.out
      exact (HK.out.ch.cell (p:=⟨ge,k,none⟩) (by show ge<w7.heap.size;omega) (by show ge≠b;omega)).trans (kl7.out k hlt)
     have HNw:=Lib.hid (nnew_any (Snp tg wr) p A1 q c k wr HK.out.net hok (by omega) hst)
     go_wp2_with fail
     (with_reducible refine HNw.out.mono ?_)
     rintro e w8 ⟨P,D,rfl,hPp,hPm,hx,hb8⟩
     have HX:=Lib.hid (And.intro hPp (And.intro hx hb8))
     simp only [ptrN]
     have d1:w8.cell? ⟨b,1,none⟩=some v:=(HK.out.kb.below hb8 HK.out.kb.lt).cell 1
     have hown:(w8.alloc (.cells #[ptrN P.nb] 69)).ownsRow w7.heap.size 69 1 v k (ptrsN nb k):=own_block HK.out.own fun x hx=>(Below.heap_alloc _ _ _ (Nat.lt_of_lt_of_le (HK.out.own.lt x hx).2 hb8.size)).trans (hb8.block x (HK.out.own.lt x hx).2)
     have HOw:=Lib.hid hown
     have hsz8:w7.heap.size≤(w8.alloc (.cells #[ptrN P.nb] 69)).heap.size:=by simp;have:=HK.out.ch.size;have:=hb8.size;omega
     have HSz8:=Lib.hid hsz8
     have hk1:k+1≤1000000000:=by omega
     have hk16:k<16:=by omega
     clear hPp hPm hx hb8 hown hsz8 HNw
     go_wp2_with (at_builtin;refine wpList_lies app_nd (by rfl) (.tmp 132) (.tmp 134) (by rfl) w7.heap.size v k (ptrsN nb k) (by rfl) HOw.out ⟨w8.heap.size,0,none⟩ 1 1 [ptrN P.nb] (by rfl) (by simp) (hasRow_new w8 _ _ 0 1 (by simp)) ((rowOf_new w8 _ _ 0 1 (by simp)).trans rfl) (by rfl) Nat.zero_lt_one hk1 HSz8.out ?_;intro gg cpp w9 hown9 hgr9 hlie9;obtain⟨z1,z2,z3⟩:=HK.out.push hk16 HX.out.1 HX.out.2.1 HX.out.2.2 hown9 hgr9 (fun g e=>by (cases e;exact hlie9.imp id (fun h=>Nat.le_of_eq h.symm)));have H9:=Lib.hid z3;clear hown9 hgr9 hlie9 z3)
     exact⟨⟨k+1,_,_,_,by omega,by go_num,H9⟩,by simp [intOf];omega⟩
    ·obtain rfl:k=n:=by omega
     go_wp2_with fail
     go_ret2
     obtain⟨q1,q2,q3,q4,q5,q6,q7,q8,q9,q10,q11,q12⟩:=HSz.out
     have hK:=HK.out
     have hc7:=hK.ch.size
     obtain⟨gl,lc,cur,rfl,o1,o2,o3,o4,o5,o6⟩:∃gl lc cur,v=Value.slice (some ⟨gl,0,none⟩) k lc∧w7.heap.size≤gl∧wr.heap[gl]? =some (.cells cur 69 (0,0))∧k≤lc∧lc≤maxLen∧cur.size=lc*1∧cur.toList.take (k*1)=ptrsN nb k:=by
      rcases hK.own.2 with ⟨-,h⟩ | ⟨g,cap,cur,h⟩
      ·omega
      ·exact⟨g,cap,cur,h⟩
     have hwr:∀x,x<w7.heap.size→x≠b→wr.heap[x]? =w7.heap[x]?:=fun x hx hne=>hK.ch.block x hx hne
     have htg:∀x,x<w7.heap.size→tg x=tg0 x:=hK.ex
     have hwc:∀x,x<wc.heap.size→x<w7.heap.size:=fun x hx=>by have:=H5.out.2.2.2.1;omega
     have hwn:wb<w7.heap.size∧mb'<w7.heap.size∧gb<w7.heap.size∧∀j,j<4*k→lb j<w7.heap.size∧wy j<w7.heap.size:=by
      have h7:=H7.out.2.2.1
      obtain⟨cc,hm⟩:=h7.m
      exact⟨h7.b.lt,hm.lt,h7.g.lt,fun j hj=>⟨(h7.l j hj).b.lt,(h7.l j hj).g.lt⟩⟩
     have htW:∀x,w5.heap.size≤x→x<w7.heap.size→(x=WP.wb∨x=WP.mb∨x=WP.gb∨LnB WP.lb WP.wy k x)→tg x=2:=fun x h1 h2 h3=>by
      have:=H5.out.2.2.2.1
      rw [htg x h2,htg0.out]
      exact tagW_2 (by omega) (by omega) (by omega) (by omega) (by omega) h3
     have hlst:lst≠b∧lst≠og:=⟨H1.out.l.ne_blk H1.out.kb,H1.out.l.ne_blk H1.out.ko⟩
     obtain⟨hsw,hsg1⟩:=HSG.out
     have hb02:Below w.heap.size w w2:=by
      have e1:Below w.heap.size w w0:=by rw [q1];exact HB0.out.1
      exact (e1.trans (HN1.out.2.mono e1.size)).trans (HN2.out.2.1.mono (by omega))
     have hbw7:Below w.heap.size w w7:=hb02.trans (H7.out.2.1.mono hb02.size)
     have hbel:Below w.heap.size w wr:=hbw7.trans (hK.ch.below (by omega) (fun x e=>by rw [e];omega))
     refine⟨⟨b,p,gl,lc,og,lst,WP,-1⟩,A1,q,nb,tg,mb,tm,lm,a4,cap4,rfl,rfl,⟨?_,?_,?_,⟨cur,o2,by omega,fun i hi=> ?_⟩,⟨o3,o4⟩,?_,⟨(htg b (by omega)).trans hK.lb.2,hK.vt gl rfl,?_,hK.net.sp.1,?_⟩⟩,⟨⟨fun k=>List.replicate (k % 2+1) cgo0,fun _=>none,?_,fun j hj=>⟨?_,?_,fun i c p' e1 e2=> ?_⟩,fun j hj=>trivial,fun j hj=>rfl⟩,⟨?_,?_,?_,fun j hj=>⟨?_,?_⟩⟩,?_,?_⟩,⟨?_,?_⟩,hK.nx,⟨⟨fun _=>none,?_,fun j hj=>trivial,fun j hj=>rfl⟩,?_⟩,fun x hx=> ?_,hbel,hK.net⟩
     ·rw [hWP.out];exact hK.kb
     ·rw [hK.net.blk.cell,←hn];rfl
     ·exact hsg1.below hbel
     ·have h:=ptrsN_at (nb:=nb) hi
      rw [←o6,List.getElem?_take,if_pos (by omega)] at h
      simpa using h
     ·rw [←zrep_on]
      exact (hwr og (hwc og q6.2.1) (by have:=H1.out.ko.ne_ H1.out.kb (by decide);exact this)).trans ((H7.out.2.2.2.2.1 og q6.2.1 (H1.out.ko.ne_ H1.out.kb (by decide))).trans H1.out.ko)
     ·rw [htg og (hwc og q6.2.1),htg0.out]
      exact tagW_1 (by omega) (.inr rfl)
     ·rw [htg _ (by omega),htg0.out,tagW_lo hsw]
      exact htc
     ·rw [hWP.out]
      exact H7.out.2.2.1.keep fun x hl hx=>hwr x hl (by
       rcases hx with rfl | rfl | rfl | ⟨j,hj,rfl | rfl⟩
       ·omega
       ·omega
       ·omega
       ·have:=(HLn.out j hj).1;have:=H5.out.2.2.2.1;omega
       ·have:=(HLn.out j hj).2;have:=H5.out.2.2.2.1;omega)
     ·simp
     ·simp
     ·have h1:c=cgo0:=List.eq_of_mem_replicate (List.mem_of_getElem? e1)
      have h2:p'=poZ:=List.eq_of_mem_replicate (List.mem_of_getElem? e2)
      rw [h1,h2]
      exact PoAt.zero _ _
     ·exact htW _ (by rw [hWP.out];exact q9.1) (by rw [hWP.out];exact hwn.1) (.inl rfl)
     ·exact htW _ (by rw [hWP.out];exact q9.2.1) (by rw [hWP.out];exact hwn.2.1) (.inr (.inl rfl))
     ·exact htW _ (by rw [hWP.out];exact q9.2.2) (by rw [hWP.out];exact hwn.2.2.1) (.inr (.inr (.inl rfl)))
     ·exact htW _ (by rw [hWP.out];exact (HLn.out j hj).1) (by rw [hWP.out];exact (hwn.2.2.2 j hj).1) (.inr (.inr (.inr ⟨j,hj,.inl rfl⟩)))
     ·exact htW _ (by rw [hWP.out];exact (HLn.out j hj).2) (by rw [hWP.out];exact (hwn.2.2.2 j hj).2) (.inr (.inr (.inr ⟨j,hj,.inr rfl⟩)))
     ·rw [hWP.out];exact H6.out.2.1
     ·rw [hWP.out];exact H6.out.2.2.1
     ·exact (hwr mb (by omega) (by omega)).trans H7.out.2.2.2.1
     ·rw [htg mb (by omega),htg0.out]
      exact tagW_3 (by omega) (by omega) rfl
     ·rw [gvF_none]
      exact H1.out.l.keep ((hwr lst (hwc lst q6.2.2) hlst.1).trans (H7.out.2.2.2.2.1 lst q6.2.2 hlst.1))
     ·rw [htg lst (hwc lst q6.2.2),htg0.out]
      exact tagW_4 (by omega) hlst (by omega) rfl
     ·rw [htg x (by omega),htg0.out]
      exact tagW_lo hx
end Go.Proofs.YtdilbjikeilhbaaGreatDoor
