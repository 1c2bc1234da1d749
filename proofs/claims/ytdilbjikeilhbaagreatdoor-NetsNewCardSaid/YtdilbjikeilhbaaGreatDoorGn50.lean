import Derived.Test.YtdilbjikeilhbaaGreatDoorGn37
import Derived.Test.YtdilbjikeilhbaaGreatDoorGn38
import Derived.Test.YtdilbjikeilhbaaGreatDoorGn47
namespace Go.Proofs.YtdilbjikeilhbaaGreatDoor
open Go.RowKit
set_option linter.unusedVariables false
set_option linter.unusedSimpArgs false
set_option maxRecDepth 100000
theorem firstE_all:∀{l:List Int},firstE l=0→∀z ∈ l,z=0
 | [],_=>by simp
 | x :: r,h=>by
   rw [firstE] at h
   split at h
   ·rename_i h0
    intro z hz
    rcases List.mem_cons.1 hz with rfl | hz
    ·exact h0
    ·exact firstE_all h z hz
   ·rename_i h0
    exact absurd h h0
theorem eachE_all {lo hi:Int}:∀{l:List Int},eachE lo hi l=0→∀z ∈ l,lo≤z∧z≤hi
 | [],_=>by simp
 | x :: r,h=>by
   rw [eachE] at h
   split at h
   ·rename_i h0
    intro z hz
    rcases List.mem_cons.1 hz with rfl | hz
    ·exact withE_zero h0
    ·exact eachE_all h z hz
   ·rename_i h0
    exact absurd h h0
theorem mustE_zero {b:Bool} (h:mustE b=0):b=true:=by cases b <;> simp [mustE] at h ⊢
theorem refOk_of {c:Cfg} (h:firstE (cfE c)=0):RefOk c:=by
 have ha:=firstE_all h
 simp only [cfE,List.mem_cons,List.not_mem_nil,or_false,forall_eq_or_imp,forall_eq] at ha
 obtain⟨h1,h2,h3,h4,h5,h6,h7,h8,h9,h10⟩:=ha
 have g1:=withE_zero h1
 have g2:=withE_zero h2
 have g3:=(pairOk_iff g1.1 g1.2).1 (mustE_zero h3)
 have g4:=withE_zero h4
 have g5:=slotsOk_iff.1 (mustE_zero h5)
 have g6:=withE_zero h6
 have g7:=firstE_all (l:=[mustE (decide (((c.B.length:Nat):Int)=c.N)),eachE 0 4096 c.B]) h7
 simp only [List.mem_cons,List.not_mem_nil,or_false,forall_eq_or_imp,forall_eq] at g7
 have g8:=withE_zero h8
 have g9:=firstE_all (l:=c.St.map (stP c)) h9
 have g10:=eachE_all (l:=[c.mi,c.go,c.fr]) h10
 refine⟨g1,by omega,g3,by omega,g5.1,g5.2,g6,of_decide_eq_true (mustE_zero g7.1),eachE_all g7.2,by omega,fun s hs=> ?_,g10 _ (by simp),g10 _ (by simp),g10 _ (by simp)⟩
 have hs0:=firstE_all (l:=[mustE (decide (0≤s.1)&&decide (s.1<c.N)),withE s.2.2 1 100]) (g9 _ (List.mem_map_of_mem hs))
 simp only [List.mem_cons,List.not_mem_nil,or_false,forall_eq_or_imp,forall_eq] at hs0
 have e1:=mustE_zero hs0.1
 have e2:=withE_zero hs0.2
 simp at e1
 exact⟨e1.1,e1.2,e2⟩
structure EnJ (w2:World) (ge n:Nat) (X:List (Int×List Value)) (vs:Nat→Value) (wr:World):Prop where
 tab:Blk wr ge 102 ((List.range n).map vs).toArray
 own:∀k,k<n→wr.ownsRow w2.heap.size 99 6 (vs k) (ownE k X).length (ownE k X).flatten
 ne:∀i j,i<n→j<n→i≠j→∀b,(vs i).ownBlock=some b→(vs j).ownBlock≠some b
 c:Chg (· =ge) w2 wr
section
variable {w2 wr wm w1:World} {ge n:Nat} {X:List (Int×List Value)} {vs:Nat→Value}
theorem EnJ.below (h:EnJ w2 ge n X vs wr) (hb:Below wr.heap.size wr w1):EnJ w2 ge n X vs w1:=
 ⟨h.tab.below hb h.tab.lt,fun k hk=>own_block (h.own k hk) fun q hq=>hb.block q ((h.own k hk).lt q hq).2,h.ne,h.c.trans (Chg.of_below hb _)⟩
theorem EnJ.at_ (h:EnJ w2 ge n X vs wr) {y:Nat} (hy:y<n):wr.cell? ⟨ge,y,none⟩=some (vs y)∧wr.frozen? ⟨ge,y,none⟩=false:=
 ⟨(h.tab.cell y).trans (by rw [List.getElem?_toArray,List.getElem?_map,List.getElem?_range hy];rfl),h.tab.frozen y⟩
theorem EnJ.push {q:Nat} (h:EnJ w2 ge n (X.take q) vs wr) (h2:ge<w2.heap.size) {y:Nat} (hy:y<n) {e:List Value} (hx:X[q]? =some ((y:Int),e)) (hm:Below wr.heap.size wr wm) {g cap:Nat}
 (ho:w1.ownsRow w2.heap.size 99 6 (.slice (some ⟨g,0,none⟩) ((ownE y (X.take q)).length+1) cap) ((ownE y (X.take q)).length+1) ((ownE y (X.take q)).flatten++e)) (hg:wm.grownBy w1 (vs y).ownBlock) (hl:(vs y).ownBlock=some g∨g=wm.heap.size) :
 w1.cell? ⟨ge,y,none⟩=some (vs y)∧w1.frozen? ⟨ge,y,none⟩=false∧(∀b,b<wr.heap.size→(vs y).ownBlock≠some b→w1.heap[b]? =wr.heap[b]?)∧
 EnJ w2 ge n (X.take (q+1)) (fun k=>if k=y then .slice (some ⟨g,0,none⟩) ((ownE y (X.take q)).length+1) cap else vs k) (w1.setCell ⟨ge,y,none⟩ (.slice (some ⟨g,0,none⟩) ((ownE y (X.take q)).length+1) cap)):=by
 have hms:=hm.size
 have hc5:=h.c.size
 have hyo:=h.own y hy
 have hk0:∀b,b<wr.heap.size→(vs y).ownBlock≠some b→w1.heap[b]? =wr.heap[b]?:=fun b hb hne=>(hg.block b (by omega) (fun e=>hne e.symm)).trans (hm.block b hb)
 have hk1:∀b,b<w2.heap.size→w1.heap[b]? =wr.heap[b]?:=fun b hb=>hk0 b (by omega) fun e=>by have:=(hyo.lt b e).1;omega
 have hb1:Blk w1 ge 102 ((List.range n).map vs).toArray:=(hk1 _ h2).trans h.tab
 refine⟨(hb1.cell y).trans (by rw [List.getElem?_toArray,List.getElem?_map,List.getElem?_range hy];rfl),hb1.frozen y,hk0,?_,fun k hk=> ?_,fun i j hi hj hij b hbi hbj=> ?_,?_⟩
 ·have:=hb1.set_ y (.slice (some ⟨g,0,none⟩) ((ownE y (X.take q)).length+1) cap)
  rw [List.setIfInBounds_toArray] at this
  refine (congrArg (fun l:List Value=>Blk _ ge _ l.toArray) ?_).mp this
  apply List.ext_getElem?
  intro i
  rw [List.getElem?_set]
  by_cases hin:i<n
  ·simp only [List.getElem?_map,List.getElem?_range hin,Option.map_some]
   by_cases hiy:y=i
   ·subst hiy;simp [hin]
   ·rw [if_neg hiy];simp [show ¬i=y from fun e=>hiy e.symm]
  ·have e1:¬y=i:=by omega
   rw [if_neg e1];simp [hin]
 ·by_cases hky:k=y
  ·subst hky
   rw [if_pos rfl,ownE_hit hx]
   refine own_block (w:=w1) (by simpa using ho) fun b hb=> ?_
   exact Below.heap_setCell _ _ _ _ (by have:=(ho.lt b hb).1;show b≠ge;omega)
  ·rw [if_neg hky,ownE_miss hx (by omega)]
   refine own_block (h.own k hk) fun b hb=> ?_
   have hlt:=(h.own k hk).lt b hb
   exact (Below.heap_setCell _ _ _ _ (by show b≠ge;omega)).trans (hk0 b hlt.2 (h.ne k y hk hy hky b hb))
 ·by_cases hiy:i=y
  ·rw [if_pos hiy] at hbi
   have hjy:¬j=y:=fun e=>hij (hiy.trans e.symm)
   rw [if_neg hjy] at hbj
   obtain rfl:g=b:=by simpa [Value.ownBlock] using hbi
   rcases hl with hl | hl
   ·exact h.ne y j hy hj (fun e=>hjy e.symm) g hl hbj
   ·have:=((h.own j hj).lt g hbj).2;omega
  ·rw [if_neg hiy] at hbi
   by_cases hjy:j=y
   ·rw [if_pos hjy] at hbj
    obtain rfl:g=b:=by simpa [Value.ownBlock] using hbj
    rcases hl with hl | hl
    ·exact h.ne i y hi hy hiy g hbi hl
    ·have:=((h.own i hi).lt g hbi).2;omega
   ·rw [if_neg hjy] at hbj
    exact h.ne i j hi hj hij b hbi hbj
 ·have hc1:Chg (· =ge) w2 w1:=⟨hg.os.trans (hm.os.trans h.c.os),hg.tape.trans (hm.tape.trans h.c.tape),hg.output.trans (hm.output.trans h.c.output),by have:=hg.size;omega,fun i hi hn=>(hk1 i hi).trans (h.c.block i hi hn)⟩
  exact hc1.set_at y _
end
theorem ag_hent:aggOf Tryz.prog 99 6=true:=by kernel_rfl
section
variable (ρ:Operand→Value) (d:Option Tmp) (x:Operand) (ty:TypeId) (s:String) (af:Array Edge) (g:Option (Nat×Bool)) (w:World)
@[go_sem ↓] theorem ld_hent (h:hasRowV w 6 (ρ x)=true):(execOp ρ { dst:=d,op:=.load 99 x,type:=ty,pos:=s,after:=af,guard:=g }).run Tryz.prog w=.ok (.value (.agg (rowV w 6 (ρ x)).toArray)) w:=exec_load ag_hent ρ d x ty s af g w h
@[go_sem ↓] theorem bs_hent (h:lenC (ρ x) 6=true):(execOp ρ { dst:=d,op:=.buildSlice 102 1 #[(0,x)],type:=ty,pos:=s,after:=af,guard:=g }).run Tryz.prog w=.ok (.value (.slice (some ⟨w.heap.size,0,none⟩) 1 1)) (w.alloc (.cells (cellsL (ρ x)).toArray 99)):=by
 have:=exec_bslice (n:=6) Tryz.underlying102 (by kernel_rfl) ρ d 1 [x] #[(0,x)] ty s af g w (by simp [iparts]) rfl (by omega) (by omega) (by simp [h])
 simpa using this
end
theorem zrep_map (v:Value) (n:Nat):zrep [v] n=(List.range n).map fun _=>v:=by
 apply List.ext_getElem?
 intro k
 have hl:(zrep [v] n).length=n:=by rw [len_zrep];simp
 by_cases hk:k<n
 ·rw [zrep_at (by simp) n k (by simpa using hk),List.getElem?_map,List.getElem?_range hk]
  simp [Nat.mod_one]
 ·rw [List.getElem?_eq_none (by omega),List.getElem?_eq_none (by simp;omega)]
theorem ownE_take (z:Int) (X:List (Int×List Value)) (k:Nat):(ownE z (X.take k)).length≤(ownE z X).length:=by
 have:ownE z X=ownE z (X.take k)++ownE z (X.drop k):=by
  unfold ownE
  rw [←List.map_append,←List.filter_append,List.take_append_drop]
 rw [this,List.length_append]
 omega
def n31V (p:Nat) (v on wi mo:Value) (nd:Int) (lst:Nat):List Value:=[.pointer (some ⟨p,0,none⟩),v,on,wi,mo,.int .i64 nd,.map (some lst),.int .i64 0]
def NxCut (w:World) (p n:Nat) (nd:Int) (s9:Value) (wx:World):Prop:=∃(wc:World) (b og lst:Nat),wc=wx∧s9=.pointer (some ⟨b,0,none⟩)∧Blk wc b 56 (n31V p (.slice none 0 0) (.slice (some ⟨og,0,none⟩) n n) (.pointer none) (.pointer none) nd lst).toArray∧w.heap.size≤b∧Below w.heap.size w wc
theorem nx_a (w:World) (p n:Nat) (nd:Int):NxCut w p n nd (.pointer (some ⟨w.heap.size+1+1,0,none⟩)) (((w.alloc (.cells (zrep [.bool false] n).toArray 4)).alloc (.map #[] 0)).alloc (.cells #[.pointer (some ⟨p,0,none⟩),.slice none 0 0,.slice (some ⟨w.heap.size,0,none⟩) n n,.pointer none,.pointer none,.int .i64 nd,.map (some (w.heap.size+1)),.int .i64 0] 56)).drew:=by
 have h1:=balP (balP (Below.refl w.heap.size w) (.cells (zrep [.bool false] n).toArray 4)) (.map #[] 0)
 have e:((w.alloc (.cells (zrep [.bool false] n).toArray 4)).alloc (.map #[] 0)).heap.size=w.heap.size+1+1:=by simp
 have k:=Blk.new ((w.alloc (.cells (zrep [.bool false] n).toArray 4)).alloc (.map #[] 0)) 56 #[.pointer (some ⟨p,0,none⟩),.slice none 0 0,.slice (some ⟨w.heap.size,0,none⟩) n n,.pointer none,.pointer none,.int .i64 nd,.map (some (w.heap.size+1)),.int .i64 0]
 rw [e] at k
 exact⟨_,_,_,_,rfl,rfl,k,by omega,(balP h1 _).drew⟩
theorem nx_b (w:World) (p n:Nat) (nd:Int):NxCut w p n nd (.pointer (some ⟨w.heap.size+1+1,0,none⟩)) (((w.alloc (.map #[] 0)).alloc (.cells (zrep [.bool false] n).toArray 4)).alloc (.cells #[.pointer (some ⟨p,0,none⟩),.slice none 0 0,.slice (some ⟨w.heap.size+1,0,none⟩) n n,.pointer none,.pointer none,.int .i64 nd,.map (some w.heap.size),.int .i64 0] 56)).drew:=by
 have h1:=balP (balP (Below.refl w.heap.size w) (.map #[] 0)) (.cells (zrep [.bool false] n).toArray 4)
 have e:((w.alloc (.map #[] 0)).alloc (.cells (zrep [.bool false] n).toArray 4)).heap.size=w.heap.size+1+1:=by simp
 have k:=Blk.new ((w.alloc (.map #[] 0)).alloc (.cells (zrep [.bool false] n).toArray 4)) 56 #[.pointer (some ⟨p,0,none⟩),.slice none 0 0,.slice (some ⟨w.heap.size+1,0,none⟩) n n,.pointer none,.pointer none,.int .i64 nd,.map (some w.heap.size),.int .i64 0]
 rw [e] at k
 exact⟨_,_,_,_,rfl,rfl,k,by omega,(balP h1 _).drew⟩
structure NeI (w3:World) (b k p:Nat) (on wi mo:Value) (nd:Int) (lst:Nat) (v:Value) (wr:World):Prop where
 own:∃vs,wr.ownsRow w3.heap.size 69 1 v k vs
 kb:Blk wr b 56 (n31V p v on wi mo nd lst).toArray
 c:Chg (· =b) w3 wr
section
variable {w3 wr wm w1:World} {b k p lst:Nat} {nd:Int} {on wi mo v:Value}
theorem NeI.below (h:NeI w3 b k p on wi mo nd lst v wr) (hb:Below wr.heap.size wr w1):NeI w3 b k p on wi mo nd lst v w1:=by
 obtain⟨⟨vs,h1⟩,h2,h3⟩:=h
 exact⟨⟨vs,own_block h1 fun q hq=>hb.block q (h1.lt q hq).2⟩,h2.below hb h2.lt,h3.trans (Chg.of_below hb _)⟩
theorem NeI.push (h:NeI w3 b k p on wi mo nd lst v wr) (h3:b<w3.heap.size) (hm:Below wr.heap.size wr wm) {g cap:Nat} {xs:List Value}
 (ho:w1.ownsRow w3.heap.size 69 1 (.slice (some ⟨g,0,none⟩) (k+1) cap) (k+1) xs) (hg:wm.grownBy w1 v.ownBlock) :
 w1.cell? ⟨b,1,none⟩=some v∧w1.frozen? ⟨b,1,none⟩=false∧NeI w3 b (k+1) p on wi mo nd lst (.slice (some ⟨g,0,none⟩) (k+1) cap) (w1.setCell ⟨b,1,none⟩ (.slice (some ⟨g,0,none⟩) (k+1) cap)):=by
 obtain⟨⟨vs,h1⟩,h2,h5⟩:=h
 have hms:=hm.size
 have hc5:=h5.size
 have hk1:∀q,q<w3.heap.size→w1.heap[q]? =wr.heap[q]?:=fun q hb=>(hg.block q (by omega) (fun e=>by have:=(h1.lt q e.symm).1;omega)).trans (hm.block q (by omega))
 have hb1:Blk w1 b 56 (n31V p v on wi mo nd lst).toArray:=(hk1 _ h3).trans h2
 refine⟨hb1.cell 1,hb1.frozen 1,⟨xs,own_block ho fun q hq=> ?_⟩,?_,?_⟩
 ·have:=(ho.lt q hq).1
  exact Below.heap_setCell _ _ _ _ (by show q≠b;omega)
 ·have:=hb1.set_ 1 (.slice (some ⟨g,0,none⟩) (k+1) cap)
  rw [List.setIfInBounds_toArray] at this
  exact this
 ·have hc1:Chg (· =b) w3 w1:=⟨hg.os.trans (hm.os.trans h5.os),hg.tape.trans (hm.tape.trans h5.tape),hg.output.trans (hm.output.trans h5.output),by have:=hg.size;omega,fun i hi hn=>(hk1 i hi).trans (h5.block i hi hn)⟩
  exact hc1.set_at 1 _
end
def NNew31 (c:Cfg) (X:List (Int×List Value)) (nd lk:Int) (m:Nat) (w:World) (e:Ending) (w':World):Prop:=∃(v:Option Addr) (k:Int),e=.returned (.tuple #[.pointer v,.int .i64 k])∧NetE c X nd lk m k∧(v=none↔k≠0)∧Below w.heap.size w w'
set_option maxHeartbeats 4000000 in
theorem nnew31_any (S:Nat→Prop) (A:CfA) (c:Cfg) (w:World) (h:CfR S w A c) (hsg:SgW w) (R:Nat→Prop) (ea:Option Addr) (en ec:Nat) (X:List (Int×List Value)) (hX:RdE R w ea en X) (hen:en≤200) (nd lk:Int) (R2:Nat→Prop) (sa:Option Addr) (sn sc:Nat) (L:List (List Value)) (hL:RdF R2 w sa sn 5 L) (hsn:sn≤100) :
 Calls Tryz.prog 7 #[.agg (stpV (cfV A c) ea en ec nd lk sa sn sc).toArray] w (NNew31 c X nd lk sn w):=by
 obtain⟨cv,hcv⟩:∃cv,Hid (cv=cfV A c):=⟨_,Lib.hid rfl⟩
 have hcvl:cv.length=9:=by rw [hcv.out];rfl
 have hcva:cv.all cell1=true:=by rw [hcv.out];rfl
 rw [←hcv.out]
 obtain⟨sv,hsv⟩:∃sv,Hid (sv=stpV cv ea en ec nd lk sa sn sc):=⟨_,Lib.hid rfl⟩
 rw [←hsv.out]
 have hsvl:sv.length=13:=by rw [hsv.out];simp [stpV,hcvl]
 have hb0:=balP (Below.refl w.heap.size w) (.cells sv.toArray 31)
 have k0:=Blk.new w 31 sv.toArray
 have HX:=Lib.hid hX
 have HXL:Hid (X.length=en):=Lib.hid (by have:=hX.2.1;simpa using this)
 have HSP:=Lib.hid hL
 have HB:=Lib.hid (And.intro hb0 (And.intro k0 (hsg.below hb0)))
 have HCF:=Lib.hid (h.below hb0)
 clear h hsg hX hL hb0 k0
 go_enter Tryz.func7,Tryz.ntmps7
 go_upto_region 1 with fail
 generalize w.alloc (.cells sv.toArray 31)=w0 at HB HCF ⊢
 have HS:Hid (∀w',Below w0.heap.size w0 w'→w'.cell? ⟨w.heap.size,9,none⟩=some (.slice ea en ec)∧w'.cell? ⟨w.heap.size,10,none⟩=some (.int .i64 nd)∧hasRow w' ⟨w.heap.size,10,none⟩ 3=true∧rowOf w' ⟨w.heap.size,10,none⟩ 3=[.int .i64 nd,.int .i64 lk,.slice sa sn sc]):=Lib.hid fun w' hb=>by
  have k:=HB.out.2.1.below hb HB.out.2.1.lt
  obtain⟨q1,q2,-⟩:=k.whole hsvl
  obtain⟨q3,q4⟩:=row_part q1 q2 10 3 (by omega)
  refine⟨?_,?_,by simpa using q3,?_⟩
  ·rw [k.cell,hsv.out];simp [stpV,hcvl]
  ·rw [k.cell,hsv.out];simp [stpV,hcvl]
  ·have:(sv.drop 10).take 3=[.int .i64 nd,.int .i64 lk,.slice sa sn sc]:=by
    rw [hsv.out,stpV,List.drop_append,List.drop_eq_nil_of_le (by omega),hcvl];rfl
   rw [←this];simpa using q4
 obtain⟨r1,r2,-⟩:=HB.out.2.1.whole hsvl
 obtain⟨r3,r4⟩:=row_part r1 r2 0 9 (by omega)
 rw [hsv.out] at r4
 rw [show ((stpV cv ea en ec nd lk sa sn sc).drop 0).take 9=cv by rw [List.drop_zero];unfold stpV;rw [←hcvl,List.take_left]] at r4
 clear r1 r2
 by_cases h0:firstE (cfE c)=0
 ·have hok:=refOk_of h0
  have HC:=Lib.hid (newYes_any S A c w0 HCF.out HB.out.2.2 hok)
  rw [←hcv.out] at HC
  have HH0:=Lib.hid h0
  have HOk:=Lib.hid hok
  obtain⟨n,hn⟩:∃n:Nat,Hid (c.N=n):=⟨c.N.toNat,Lib.hid (by have:=hok.n;omega)⟩
  have hn4:4≤n∧n≤16:=by have:=hok.n;have:=hn.out;omega
  clear h0 hok
  go_wp2_with fail
  (with_reducible refine HC.out.mono ?_)
  rintro e w1 ⟨p,A1,q,rfl,hn1,hb1⟩
  have cn1:w1.cell? ⟨p,0,none⟩=some (.int .i64 n):=by rw [hn1.blk.cell,←hn.out];rfl
  have hn5:n≤1048576:=by omega
  have HN1:Hid (NetAt (fun b=>b<w1.heap.size) w1 p A1 q c∧Below w0.heap.size w0 w1):=Lib.hid ⟨hn1.mono fun b hb _=>hb,hb1⟩
  have hpl:p<w1.heap.size:=hn1.blk.lt
  clear hn1 hb1 r3 r4
  go_upto_region 5 with fail
  have hb2:=balP (Below.refl w1.heap.size w1) (.cells (zrep [.slice none 0 0] n).toArray 102)
  have kl:=Blk.new w1 102 (zrep [.slice none 0 0] n).toArray
  generalize w1.alloc (.cells (zrep [.slice none 0 0] n).toArray 102)=w2 at hb2 kl ⊢
  obtain⟨ge,hge⟩:∃ge,Hid (ge=w1.heap.size):=⟨_,Lib.hid rfl⟩
  rw [←hge.out] at kl ⊢
  have HG:Hid (w1.heap.size=ge∧ge<w2.heap.size∧w.heap.size≤ge∧w1.heap.size≤w2.heap.size):=Lib.hid ⟨hge.out.symm,kl.lt,by have:=hge.out;have:=HB.out.1.size;have:=HN1.out.2.size;omega,hb2.size⟩
  have HB02:Hid (Below w0.heap.size w0 w2):=Lib.hid (HN1.out.2.trans (hb2.mono HN1.out.2.size))
  have HI0:Hid (EnJ w2 ge n (X.take 0) (fun _=> .slice none 0 0) w2):=Lib.hid ⟨by rw [←zrep_map];exact kl,fun k hk=>⟨by simp [ownE],.inl ⟨rfl,by simp [ownE]⟩⟩,fun i j _ _ _ b e=>(by cases e),Chg.refl _ _⟩
  -- wherever the walk is: the setup,the net,the entries,the spells
  have HW:Hid (∀w',Chg (· =ge) w2 w'→Below w0.heap.size w0 w'∧NetAt (fun b=>b<w1.heap.size) w' p A1 q c):=Lib.hid fun w' hc=>⟨HB02.out.trans (hc.below (B:=w0.heap.size) HB02.out.size (by rintro x rfl;have:=HG.out;have:=HN1.out.2.size;omega)),NetTab.keep (NetTab.at_ HN1.out.1 (hb2)) hc.size fun b hb hl=>hc.block b hl (by have:=HG.out.1;show ¬b=ge;omega)⟩
  have HBad:Hid (¬EntOk c.N X→∀w',Below w.heap.size w w'→NNew31 c X nd lk sn w (.returned (.tuple #[.pointer none,.int .i64 1])) w'):=Lib.hid fun hb w' hw=>⟨none,1,rfl,⟨fun e=>absurd HH0.out e,fun _ _=>rfl,fun _ e=>absurd e hb,fun _ e=>absurd e hb⟩,⟨fun _=>by decide,fun _=>rfl⟩,hw⟩
  have c9:=(HS.out w2 HB02.out).1
  clear hb2 kl cn1
  go_wp2_with fail
  go_loopw [32] (fun i wr=> ∃k:Nat,∃vs:Nat→Value,k≤en∧i=.int .i64 k∧Hid (EnJ w2 ge n (X.take k) vs wr∧(∀x ∈ X.take k,0≤x.1∧x.1<c.N)∧∀z:Nat,z<n→(ownE z (X.take k)).length≤64)) (fun i _=>en - (intOf i).toNat)
  case atStart=>exact⟨0,_,by omega,rfl,Lib.hid ⟨HI0.out,by simp,by simp [ownE]⟩⟩
  case round=>
   obtain⟨k,vs,hk,rfl,HK⟩:=hrel
   obtain⟨hbw,hnet⟩:=HW.out wr HK.out.1.c
   have HBw:=Lib.hid hbw
   have cn:wr.cell? ⟨p,0,none⟩=some (.int .i64 n):=by rw [hnet.blk.cell,←hn.out];rfl
   clear c9 hbw hnet
   by_cases hlt:k<en
   ·obtain⟨b,off,z,e,rfl,-,hbl,hx,he1,he2,-,hr1,hr2,-⟩:=(HX.out.below (HB.out.1.trans (HBw.out.mono HB.out.1.size))).row hlt
    have hlt':(k:Int)<en:=by omega
    have hk0:(0:Int)≤k:=by omega
    have HZ:=Lib.hid hx
    obtain⟨e0,e1,e2,e3,e4,e5,rfl⟩:=six he1
    have ha1:(cell1 e0&&(cell1 e1&&(cell1 e2&&(cell1 e3&&(cell1 e4&&cell1 e5)))))=true:=by simpa using he2
    simp only [List.all_cons,List.all_nil,Bool.and_true,Bool.and_eq_true] at he2
    obtain⟨d0,d1,d2,d3,d4,d5⟩:=he2
    have hb2:=balP (Below.refl wr.heap.size wr) (.cells #[Value.int .i64 z,e0,e1,e2,e3,e4,e5] 101)
    have k2:=Blk.new wr 101 [Value.int .i64 z,e0,e1,e2,e3,e4,e5].toArray
    have hpw:p<wr.heap.size:=by have:=HK.out.1.c.size;have:=HG.out;omega
    go_upto_region 8 with fail
    generalize wr.alloc (.cells #[Value.int .i64 z,e0,e1,e2,e3,e4,e5] 101)=w6 at hb2 k2 ⊢
    have g0:w6.cell? ⟨wr.heap.size,0,none⟩=some (.int .i64 z):=k2.cell 0
    have cn6:=(hb2.cell (p:=⟨p,0,none⟩) hpw).trans cn
    have H6:=Lib.hid (And.intro (HK.out.1.below hb2) (And.intro hb2 k2))
    have HB6:Hid (∀q,Below w.heap.size w (w6.drewN q)):=Lib.hid fun q=>HB.out.1.trans ((HBw.out.mono HB.out.1.size).trans ((hb2.mono (Nat.le_trans HB.out.1.size HBw.out.size)).trans ((belowD w6 q).mono (Nat.le_trans HB.out.1.size (Nat.le_trans HBw.out.size hb2.size)))))
    have HNo:Hid (¬(0≤z∧z<c.N)→¬EntOk c.N X):=Lib.hid fun hh he=>hh (he.1 _ (List.mem_of_getElem? HZ.out))
    clear hb2 k2 hr1 hr2 cn hx
    by_cases hz0:z<0
    ·go_quiet (fail)
     go_wp2_with fail
     go_ret2
     exact HBad.out (HNo.out fun e=>by omega) _ (HB6.out _)
    ·obtain⟨y,rfl⟩:∃y:Nat,z=y:=⟨z.toNat,by omega⟩
     by_cases hzn:(n:Int)≤y
     ·have hzn':n≤y:=by omega
      go_quiet (fail)
      go_wp2_with fail
      go_ret2
      exact HBad.out (HNo.out fun e=>by have:=hn.out;omega) _ (HB6.out _)
     ·have hyn:y<n:=by omega
      have hyn':¬n≤y:=by omega
      obtain⟨ay,cy,hvy⟩:=own_slice (H6.out.1.own y hyn)
      have gt:=(H6.out.1.at_ hyn).1
      rw [hvy] at gt
      have HVY:=Lib.hid hvy
      obtain⟨ln,hln⟩:∃ln,Hid (ln=(ownE y (X.take k)).length):=⟨_,Lib.hid rfl⟩
      rw [←hln.out] at gt
      clear hvy
      by_cases h64:ln=64
      ·subst h64
       go_quiet (fail)
       go_wp2_with fail
       go_ret2
       refine HBad.out (fun he=> ?_) _ (HB6.out _)
       have h1:=he.2 y (by omega) (by have:=hn.out;omega)
       have h2:=ownE_take y X (k+1)
       rw [ownE_hit HZ.out,List.length_append,←hln.out] at h2
       simp at h2
       omega
      ·have h64':((ln:Int)==64)=false:=by simp;omega
       have h64n:(ln==64)=false:=by simpa using h64
       go_quiet (fail)
       go_upto_region 10 with fail
       have hdq:=belowD w6 nq
       have HE7:=Lib.hid (H6.out.1.below hdq)
       have k7:=H6.out.2.2.below hdq H6.out.2.2.lt
       generalize w6.drewN nq=w7 at HE7 k7 ⊢
       obtain⟨r8,hr8⟩:∃r8,Hid (r8=wr.heap.size):=⟨_,Lib.hid rfl⟩
       rw [←hr8.out] at k7 g0 ⊢
       have HR8:=Lib.hid k7
       have HF:Hid (∀w',Below w7.heap.size w7 w'→w'.cell? ⟨r8,0,none⟩=some (.int .i64 y)∧w'.cell? ⟨ge,y,none⟩=some (.slice ay ln cy)∧hasRow w' ⟨r8,1,none⟩ 6=true∧rowOf w' ⟨r8,1,none⟩ 6=[e0,e1,e2,e3,e4,e5]):=Lib.hid fun w' hb=>by
        have k:=HR8.out.below hb HR8.out.lt
        obtain⟨q1,q2,-⟩:=k.whole (n:=7) rfl
        obtain⟨q3,q4⟩:=row_part q1 q2 1 6 (by omega)
        have t:=((HE7.out.below hb).at_ hyn).1
        rw [HVY.out,←hln.out] at t
        exact⟨k.cell 0,t,by simpa using q3,by simpa using q4⟩
       have HO:Hid (∀w',Below w7.heap.size w7 w'→w'.ownsRow w2.heap.size 99 6 (.slice ay ln cy) ln (ownE y (X.take k)).flatten):=Lib.hid fun w' hb=>by
        have:=(HE7.out.below hb).own y hyn
        rwa [HVY.out,←hln.out] at this
       have hle:ln+1≤1000000000:=by
        have:=ownE_le y (X.take k)
        have h3:=hln.out
        simp only [List.length_take] at this
        omega
       have HSz:Hid (∀w',Below w7.heap.size w7 w'→w2.heap.size≤w'.heap.size):=Lib.hid fun w' hb=>by have:=HE7.out.c.size;have:=hb.size;omega
       have HP:Hid (∀wm g cap w8,Below w7.heap.size w7 wm→w8.ownsRow w2.heap.size 99 6 (.slice (some ⟨g,0,none⟩) (ln+1) cap) (ln+1) ((ownE y (X.take k)).flatten++ [e0,e1,e2,e3,e4,e5])→wm.grownBy w8 (Value.slice ay ln cy).ownBlock→((Value.slice ay ln cy).ownBlock=some g∨g=wm.heap.size)→
        w8.cell? ⟨ge,y,none⟩=some (.slice ay ln cy)∧w8.frozen? ⟨ge,y,none⟩=false∧w8.cell? ⟨r8,0,none⟩=some (.int .i64 y)∧EnJ w2 ge n (X.take (k+1)) (fun i=>if i=y then .slice (some ⟨g,0,none⟩) (ln+1) cap else vs i) (w8.setCell ⟨ge,y,none⟩ (.slice (some ⟨g,0,none⟩) (ln+1) cap))):=Lib.hid fun wm g cap w8 hm ho hg hl=>by
        have e1':=hln.out
        have e2':=HVY.out
        rw [←e1'] at e2'
        rw [←e2'] at hg hl
        rw [e1'] at ho
        obtain⟨z1,z2,z3,z4⟩:=HE7.out.push HG.out.2.1 hyn HZ.out hm ho hg hl
        refine⟨z1.trans (by rw [e2']),z2,?_,by rw [e1'];exact z4⟩
        exact (World.cell?_of_block (a:=⟨r8,0,none⟩) (z3 r8 HR8.out.lt (own_not (HE7.out.own y hyn) HR8.out (by decide)))).trans (HR8.out.cell 0)
       have a6:[e0,e1,e2,e3,e4,e5].all cell1=true:=by simp only [List.all_cons,List.all_nil,d0,d1,d2,d3,d4,d5];rfl
       obtain⟨f1,f2,f3,f4⟩:=HF.out w7 (Below.refl _ _)
       obtain⟨f5,f6,f7,f8⟩:=HF.out _ (balP (Below.refl w7.heap.size w7) (.cells #[e0,e1,e2,e3,e4,e5] 99))
       clear g0 gt cn6 k7 hdq
       go_region_law (first
        | (refine step_appL app_ent (by rfl) (.tmp 65) (.tmp 68) (by rfl) w2.heap.size _ _ _ (by rfl) (HO.out _ (by first | exact (balP (Below.refl w7.heap.size w7) _) | exact (balP (Below.refl w7.heap.size w7).drew _) | exact (balP (Below.refl w7.heap.size w7) _).drew)) ⟨w7.heap.size,0,none⟩ 1 1 [e0,e1,e2,e3,e4,e5] (by rfl) (by simp) (hasRow_new w7 _ _ 0 6 (by simp)) ((rowOf_new w7 _ _ 0 6 (by simp)).trans (List.take_of_length_le (by simp))) a6 Nat.zero_lt_one hle (HSz.out _ (by first | exact (balP (Below.refl w7.heap.size w7) _) | exact (balP (Below.refl w7.heap.size w7).drew _) | exact (balP (Below.refl w7.heap.size w7) _).drew)) ?_;intro g cap w8 ho hg hl;obtain⟨z1,z2,z3,z4⟩:=HP.out _ g cap w8 (by first | exact (balP (Below.refl w7.heap.size w7) _) | exact (balP (Below.refl w7.heap.size w7).drew _) | exact (balP (Below.refl w7.heap.size w7) _).drew) ho hg hl;have H8:=Lib.hid z4;clear ho hg hl z4))
       all_goals go_wp2_with fail
       all_goals refine⟨⟨k+1,_,by omega,by go_num,Lib.hid ⟨H8.out,fun x hx=> ?_,fun z hz=> ?_⟩⟩,by simp [intOf];omega⟩
       all_goals first
        | (rw [List.take_add_one,HZ.out,Option.toList_some,List.mem_append,List.mem_singleton] at hx
           rcases hx with hx | rfl
           ·exact HK.out.2.1 x hx
           ·have:=hn.out
            exact⟨by show (0:Int)≤(y:Int);omega,by show (y:Int)<c.N;omega⟩)
        | (by_cases hzy:z=y
           ·subst hzy
            rw [ownE_hit HZ.out,List.length_append,←hln.out]
            have h5:=HK.out.2.2 z hz
            rw [←hln.out] at h5
            simp
            omega
           ·rw [ownE_miss HZ.out (by omega)]
            exact HK.out.2.2 z hz)
   ·obtain rfl:en=k:=by omega
    have hlt':¬(en:Int)<en:=by omega
    have hK:=HK.out
    rw [List.take_of_length_le (by rw [HXL.out];exact Nat.le_refl _)] at hK
    have HEo:Hid (EntOk c.N X):=Lib.hid ⟨hK.2.1,fun z h0 hzn=>by
     obtain⟨y,rfl⟩:∃y:Nat,z=y:=⟨z.toNat,by omega⟩
     exact hK.2.2 y (by have:=hn.out;omega)⟩
    have HEJ:=Lib.hid hK.1
    obtain⟨hbw,hnet⟩:=HW.out wr hK.1.c
    have HNL:=Lib.hid hnet
    obtain⟨wL,rfl⟩:∃wL,wL=wr:=⟨_,rfl⟩
    have HBL:=Lib.hid (HB.out.1.trans (HBw.out.mono HB.out.1.size))
    have hLs:w2.heap.size≤wL.heap.size:=hK.1.c.size
    have HSL:Hid (∀w',Below wL.heap.size wL w'→w'.cell? ⟨p,0,none⟩=some (.int .i64 n)∧hasRow w' ⟨w.heap.size,10,none⟩ 3=true∧rowOf w' ⟨w.heap.size,10,none⟩ 3=[.int .i64 nd,.int .i64 lk,.slice sa sn sc]):=Lib.hid fun w' hb=>by
     obtain⟨-,-,s3,s4⟩:=HS.out w' (HBw.out.trans (hb.mono HBw.out.size))
     exact⟨(hb.cell (p:=⟨p,0,none⟩) (by have:=HG.out;show p<wL.heap.size;omega)).trans cn,s3,s4⟩
    have s10:=(HS.out wL HBw.out).2.1
    have hgl:w.heap.size<wL.heap.size:=by have:=HG.out;omega
    have hpL:p<wL.heap.size:=by have:=HG.out;omega
    clear hK hnet hbw HK HI0
    go_upto_region 12 with fail
    go_cut [9] from 72 to 84 (fun s9 wx=>NxCut wL p n nd s9 wx)
    case first=>
     go_region_law (first | fail)
     all_goals go_wp2_with fail
     all_goals go_meet
     all_goals first | exact nx_a wL p n nd | exact nx_b wL p n nd
    case rest=>
     obtain⟨wc,b,og,lst,rfl,rfl,hkb,hlb,hbc⟩:=hcut
     have HKB:=Lib.hid (And.intro hkb (And.intro hlb hbc))
     obtain⟨f1,f2,f3⟩:=HSL.out wc hbc
     have HFd:=Lib.hid (HSL.out _ hbc.drew)
     have hbs:b<wc.heap.size:=hkb.lt
     clear hkb hlb hbc s10 cn
     by_cases hf:fOk n nd lk sn
     ·have HFN:=Lib.hid (fnew_yes R2 n nd lk sa sn sc L wc.drew (by omega) (by omega) hf ((HSP.out.below (HBL.out.trans (HKB.out.2.2.mono HBL.out.size)).drew)))
      have HF:=Lib.hid hf
      clear hf
      go_upto_region 13 with fail
      go_region_held3 (fun w'=>w'.cell? ⟨p,0,none⟩=some (.int .i64 n)∧hasRow w' ⟨w.heap.size,10,none⟩ 3=true∧rowOf w' ⟨w.heap.size,10,none⟩ 3=[.int .i64 nd,.int .i64 lk,.slice sa sn sc])
       (with_reducible (first | exact HFd.out | exact HF4.out | exact HF5.out))
       ((first
         | (go_at_call 21;(with_reducible (refine (HFN.out.mono ?_)));rintro e w4 ⟨mb,tm,lm,a4,cap4,rfl,-,-,-,-,-,-,-,-,hb4⟩;have hb4':=bw1 hb4;have H4:=Lib.hid (HKB.out.2.2.trans (hb4'.mono HKB.out.2.2.size));have HF4:=Lib.hid (HSL.out w4 H4.out);have HF5:=Lib.hid (HSL.out _ (H4.out.setCell (p:=⟨b,4,none⟩) HKB.out.2.1 (.pointer (some ⟨mb,0,none⟩))));have kb4:=HKB.out.1.below hb4' hbs;have z4:w4.cell? ⟨b,4,none⟩=some (.pointer none):=kb4.cell 4;have y4:w4.frozen? ⟨b,4,none⟩=false:=kb4.frozen 4;have HK4:=Lib.hid kb4;clear hb4 hb4' kb4)))
      have kb5:Blk (w4.setCell ⟨b,4,none⟩ (.pointer (some ⟨mb,0,none⟩))) b 56 (n31V p (.slice none 0 0) (.slice (some ⟨og,0,none⟩) n n) (.pointer none) (.pointer (some ⟨mb,0,none⟩)) nd lst).toArray:=by
       have:=HK4.out.set_ 4 (.pointer (some ⟨mb,0,none⟩))
       rw [List.setIfInBounds_toArray] at this
       exact this
      have hb5:Below wL.heap.size wL (w4.setCell ⟨b,4,none⟩ (.pointer (some ⟨mb,0,none⟩))):=H4.out.setCell (p:=⟨b,4,none⟩) HKB.out.2.1 _
      generalize w4.setCell ⟨b,4,none⟩ (.pointer (some ⟨mb,0,none⟩))=w5 at kb5 hb5 ⊢
      obtain⟨f1',-,-⟩:=HSL.out w5 hb5
      have H5:=Lib.hid (And.intro kb5 hb5)
      have HWn:=Lib.hid (wnew_any n hn4.1 hn4.2 w5 (HB.out.2.2.below (HBw.out.trans (hb5.mono HBw.out.size))))
      clear f1 f2 f3 z4 y4 kb5 hb5 HF4 HF5 HFd HFN H4 HK4
      go_wp2_with fail
      (with_reducible refine HWn.out.mono ?_)
      rintro e w6 ⟨wb,mb',gb,lb,wy,rfl,-,-,-,-,hb6⟩
      have kb6:=H5.out.1.below hb6 H5.out.1.lt
      have z3:w6.cell? ⟨b,3,none⟩=some (.pointer none):=kb6.cell 3
      have y3:w6.frozen? ⟨b,3,none⟩=false:=kb6.frozen 3
      have H6:=Lib.hid (And.intro kb6 (H5.out.2.trans (hb6.mono H5.out.2.size)))
      clear hb6 HWn kb6
      go_upto_region 17 with fail
      have kb7:Blk (w6.setCell ⟨b,3,none⟩ (.pointer (some ⟨wb,0,none⟩))) b 56 (n31V p (.slice none 0 0) (.slice (some ⟨og,0,none⟩) n n) (.pointer (some ⟨wb,0,none⟩)) (.pointer (some ⟨mb,0,none⟩)) nd lst).toArray:=by
       have:=H6.out.1.set_ 3 (.pointer (some ⟨wb,0,none⟩))
       rw [List.setIfInBounds_toArray] at this
       exact this
      have hb7:Below wL.heap.size wL (w6.setCell ⟨b,3,none⟩ (.pointer (some ⟨wb,0,none⟩))):=H6.out.2.setCell (p:=⟨b,3,none⟩) HKB.out.2.1 _
      generalize w6.setCell ⟨b,3,none⟩ (.pointer (some ⟨wb,0,none⟩))=w7 at kb7 hb7 ⊢
      have H7:=Lib.hid (And.intro kb7.lt hb7)
      obtain⟨wi,hwi⟩:∃v,Hid (v=Value.pointer (some ⟨wb,0,none⟩)):=⟨_,Lib.hid rfl⟩
      obtain⟨mo,hmo⟩:∃v,Hid (v=Value.pointer (some ⟨mb,0,none⟩)):=⟨_,Lib.hid rfl⟩
      obtain⟨on,hon⟩:∃v,Hid (v=Value.slice (some ⟨og,0,none⟩) n n):=⟨_,Lib.hid rfl⟩
      rw [←hwi.out,←hmo.out,←hon.out] at kb7
      have HN0:Hid (NeI w7 b 0 p on wi mo nd lst (.slice none 0 0) w7):=Lib.hid ⟨⟨[],rfl,.inl ⟨rfl,rfl⟩⟩,kb7,Chg.refl _ _⟩
      clear kb7 hb7 z3 y3 H6 H5 f1'
      go_wp2_with fail
      go_loopw [116] (fun i wr=> ∃k:Nat,∃v,k≤n∧i=.int .i64 k∧Hid (NeI w7 b k p on wi mo nd lst v wr)) (fun i _=>n - (intOf i).toNat)
      case atStart=>exact⟨0,_,by omega,rfl,HN0⟩
      case round=>
       obtain⟨k,v,hk,rfl,HI⟩:=hrel
       have hbr:Below wL.heap.size wL wr:=H7.out.2.trans (HI.out.c.below (B:=wL.heap.size) H7.out.2.size (by rintro q rfl;exact HKB.out.2.1))
       have HBr:=Lib.hid hbr
       by_cases hkn:k<n
       ·have hkn':(k:Int)<n:=by omega
        have hk0:(0:Int)≤k:=by omega
        have HEk:=Lib.hid (HEJ.out.below hbr)
        obtain⟨ak,ck,hvk,hrk,-,-⟩:=own_rdf (ownE_flat HX.out.1) rfl (HEk.out.own k hkn)
        have gk:=(HEk.out.at_ hkn).1
        rw [hvk] at gk
        have HCa:Hid (Calls Tryz.prog 23 #[.pointer (some ⟨p,0,none⟩),.int .i64 k,.slice ak (ownE k X).length ck] wr (NodeNewG _ A1 q c p k (ownE k X) wr)):=Lib.hid (nnewG_any _ p A1 q c k wr (NetTab.at_ HNL.out hbr) HOk.out (by have:=hn.out;omega) _ ak _ ck (ownE k X) hrk (HEo.out.2 k (by omega) (by have:=hn.out;omega)))
        obtain⟨ln,hln⟩:∃ln,Hid (ln=(ownE k X).length):=⟨_,Lib.hid rfl⟩
        rw [←hln.out] at HCa gk
        clear hvk hrk hbr
        go_wp2_with fail
        (with_reducible refine HCa.out.mono ?_)
        rintro e w8 ⟨P,D,ps,bx,a8,cap8,rfl,-,-,-,hb8,-⟩
        have HI8:=Lib.hid (HI.out.below hb8)
        have y1:w8.cell? ⟨b,1,none⟩=some v:=HI8.out.kb.cell 1
        obtain⟨xs,hown⟩:=HI8.out.own
        have HO:=Lib.hid hown
        have hle:k+1≤1000000000:=by omega
        have hsz:w7.heap.size≤(w8.alloc (.cells #[Value.pointer (some ⟨P.nb,0,none⟩)] 69)).heap.size:=by
         have:=HI8.out.c.size
         simp;omega
        have HP:Hid (∀g cap w9 xs,w9.ownsRow w7.heap.size 69 1 (.slice (some ⟨g,0,none⟩) (k+1) cap) (k+1) xs→(w8.alloc (.cells #[Value.pointer (some ⟨P.nb,0,none⟩)] 69)).grownBy w9 v.ownBlock→w9.cell? ⟨b,1,none⟩=some v∧w9.frozen? ⟨b,1,none⟩=false∧NeI w7 b (k+1) p on wi mo nd lst (.slice (some ⟨g,0,none⟩) (k+1) cap) (w9.setCell ⟨b,1,none⟩ (.slice (some ⟨g,0,none⟩) (k+1) cap))):=Lib.hid fun g cap w9 xs ho hg=>HI8.out.push H7.out.1 (balN (Below.refl w8.heap.size w8) _) ho hg
        obtain⟨nb,hnb⟩:∃nb,nb=P.nb:=⟨_,rfl⟩
        simp only [ptrN]
        rw [←hnb] at HP hsz ⊢
        clear hb8 hown gk hnb
        go_wp2_with (at_builtin;refine wpList_lies app_nd (by rfl) (.tmp 132) (.tmp 134) (by rfl) w7.heap.size _ _ _ (by rfl) (HO.out.alloc _) ⟨w8.heap.size,0,none⟩ 1 1 [Value.pointer (some ⟨nb,0,none⟩)] (by rfl) (by simp) (hasRow_new w8 _ _ 0 1 (by simp)) ((rowOf_new w8 _ _ 0 1 (by simp)).trans rfl) (by simp [cell1]) Nat.zero_lt_one hle hsz ?_;intro g cap w9 ho hg hl;obtain⟨z1,z2,z3⟩:=HP.out g cap w9 _ ho hg;have H9:=Lib.hid z3;clear ho hg hl z3 y1)
        all_goals go_wp2_with fail
        all_goals exact⟨⟨k+1,_,by omega,by go_num,H9⟩,by simp [intOf];omega⟩
       ·obtain rfl:n=k:=by omega
        have hkn':¬(n:Int)<n:=by omega
        have HE:Hid (NNew31 c X nd lk sn w (.returned (.tuple #[.pointer (some ⟨b,0,none⟩),.int .i64 0])) wr):=Lib.hid ⟨_,0,rfl,⟨fun e=>absurd HH0.out e,fun _ e=>absurd HEo.out e,fun _ _ e=>absurd (by rw [hn.out];exact HF.out) e,fun _ _ _=>rfl⟩,⟨fun e=>(by cases e),fun e=>absurd rfl e⟩,HBL.out.trans (HBr.out.mono HBL.out.size)⟩
        clear hbr
        go_wp2_with fail
        go_ret2
        exact HE.out
     ·have HFN:=Lib.hid (fnew_no n nd lk sa sn sc wc.drew (by omega) (by omega) (by omega) hf)
      have HE1:Hid (∀w',Below w.heap.size w w'→NNew31 c X nd lk sn w (.returned (.tuple #[.pointer none,.int .i64 1])) w'):=Lib.hid fun w' hw=>⟨none,1,rfl,⟨fun e=>absurd HH0.out e,fun _ _=>rfl,fun _ _ _=>rfl,fun _ _ e=>absurd e (by rw [hn.out];exact hf)⟩,⟨fun _=>by decide,fun _=>rfl⟩,hw⟩
      clear hf
      go_upto_region 13 with fail
      go_region_held3 (fun w'=>w'.cell? ⟨p,0,none⟩=some (.int .i64 n)∧hasRow w' ⟨w.heap.size,10,none⟩ 3=true∧rowOf w' ⟨w.heap.size,10,none⟩ 3=[.int .i64 nd,.int .i64 lk,.slice sa sn sc])
       (with_reducible (first | exact HFd.out | exact HF4.out | exact HF5.out))
       ((first
         | (go_at_call 21;(with_reducible (refine (HFN.out.mono ?_)));rintro e w4 ⟨rfl,hb4⟩;have hb4':=bw1 hb4;have H4:=Lib.hid (HKB.out.2.2.trans (hb4'.mono HKB.out.2.2.size));have HF4:=Lib.hid (HSL.out w4 H4.out);have HF5:=Lib.hid (HSL.out _ (H4.out.setCell (p:=⟨b,4,none⟩) HKB.out.2.1 (.pointer none)));have kb4:=HKB.out.1.below hb4' hbs;have z4:w4.cell? ⟨b,4,none⟩=some (.pointer none):=kb4.cell 4;have y4:w4.frozen? ⟨b,4,none⟩=false:=kb4.frozen 4;clear hb4 hb4' kb4)))
      have hb5:=H4.out.setCell (p:=⟨b,4,none⟩) HKB.out.2.1 (.pointer none)
      have HB5:=Lib.hid (HBL.out.trans (hb5.mono HBL.out.size))
      clear hb5 f1 f2 f3
      go_wp2_with fail
      go_ret2
      exact HE1.out _ HB5.out
 ·have HC:=Lib.hid (newNo_any S A c w0 HCF.out HB.out.2.2 h0)
  rw [←hcv.out] at HC
  obtain⟨E0,hE0⟩:∃E0,Hid (E0=firstE (cfE c)):=⟨_,Lib.hid rfl⟩
  unfold NewNo at HC
  rw [←hE0.out] at HC h0
  go_wp2_with fail
  (with_reducible refine HC.out.mono ?_)
  rintro e w1 ⟨rfl,hb⟩
  have HE:Hid (NNew31 c X nd lk sn w (.returned (.tuple #[.pointer none,.int .i64 E0])) w1):=Lib.hid ⟨none,_,rfl,⟨fun _=>hE0.out,fun e=>absurd (hE0.out.trans e) h0,fun e=>absurd (hE0.out.trans e) h0,fun e=>absurd (hE0.out.trans e) h0⟩,⟨fun _=>h0,fun _=>rfl⟩,HB.out.1.trans (hb.mono HB.out.1.size)⟩
  clear hb
  go_wp2_with fail
  go_ret2
  exact HE.out
end Go.Proofs.YtdilbjikeilhbaaGreatDoor
