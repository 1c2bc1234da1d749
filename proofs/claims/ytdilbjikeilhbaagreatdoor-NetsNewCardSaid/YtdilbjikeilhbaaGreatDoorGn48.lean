import Derived.Test.YtdilbjikeilhbaaGreatDoorGn46
import Derived.Test.YtdilbjikeilhbaaGreatDoorGn47
namespace Go.Proofs.YtdilbjikeilhbaaGreatDoor
open Go.RowKit
set_option linter.unusedVariables false
set_option linter.unusedSimpArgs false
set_option maxRecDepth 100000
theorem has31_any (b:Nat) (ga:Option Addr) (n lc:Nat) (i:Int) (w:World) (h:w.cell? ⟨b,1,none⟩=some (.slice ga n lc)):Calls Tryz.prog 28 #[.pointer (some ⟨b,0,none⟩),.int .i64 i] w fun e w'=>e=.returned (.bool (decide (0≤i)&&decide (i<(n:Int))))∧Below w.heap.size w w':=by
 have HB:=Lib.hid (Below.refl w.heap.size w)
 go_enter Tryz.func28,Tryz.ntmps28
 by_cases h0:0≤i
 ·by_cases h1:i<(n:Int)
  ·go_wp2
   go_ret
   exact⟨by simp [h0,h1],HB.out⟩
  ·go_wp2
   go_ret
   exact⟨by simp [h0,h1],HB.out⟩
 ·go_wp2
  go_ret
  have h9:¬0≤i:=by omega
  exact⟨by rw [show decide (0≤i)=false from decide_eq_false h9];rfl,HB.out⟩
theorem ticks31_any (b:Nat) (t:Int) (w:World) (h:w.cell? ⟨b,7,none⟩=some (.int .i64 t)):Calls Tryz.prog 14 #[.pointer (some ⟨b,0,none⟩)] w fun e w'=>e=.returned (.int .i64 t)∧Below w.heap.size w w':=by
 have HB:=Lib.hid (Below.refl w.heap.size w)
 go_enter Tryz.func14,Tryz.ntmps14
 go_wp2
 go_ret
 exact⟨rfl,HB.out⟩
def NoI (w:World) (v:Value) (i:Int):Prop:=v=.pointer none∨∃b ga n lc,v=.pointer (some ⟨b,0,none⟩)∧w.cell? ⟨b,1,none⟩=some (.slice ga n lc)∧¬(0≤i∧i<(n:Int))
theorem NoI.below {w w':World} {v:Value} {i:Int} (h:NoI w v i) (hb:Below w.heap.size w w'):NoI w' v i:=by
 rcases h with rfl | ⟨b,ga,n,lc,rfl,h1,h2⟩
 ·exact .inl rfl
 ·exact .inr ⟨b,ga,n,lc,rfl,(hb.cell (p:=⟨b,1,none⟩) (World.block_lt_of_cell? w _ h1)).trans h1,h2⟩
theorem node31_yes (b gl n lc i nd:Nat) (w:World) (h:w.cell? ⟨b,1,none⟩=some (.slice (some ⟨gl,0,none⟩) n lc)) (hi:i<n) (h2:w.cell? ⟨gl,i,none⟩=some (.pointer (some ⟨nd,0,none⟩))):Calls Tryz.prog 15 #[.pointer (some ⟨b,0,none⟩),.int .i64 i] w fun e w'=>e=.returned (.pointer (some ⟨nd,0,none⟩))∧Below w.heap.size w w':=by
 have HH:=Lib.hid (has31_any b _ n lc (i:Int) w h)
 have H0:=Lib.hid (And.intro h h2)
 have hd:(decide ((0:Int)≤(i:Int))&&decide ((i:Int)<(n:Int)))=true:=by simp;omega
 rw [hd] at HH
 clear h h2 hd
 have hi':(i:Int)<n:=by omega
 go_enter Tryz.func15,Tryz.ntmps15
 go_wp2_with fail
 (with_reducible refine HH.out.mono ?_)
 rintro e w1 ⟨rfl,hb⟩
 have h1:=(hb.cell (p:=⟨b,1,none⟩) (World.block_lt_of_cell? w _ H0.out.1)).trans H0.out.1
 have h3:=(hb.cell (p:=⟨gl,i,none⟩) (World.block_lt_of_cell? w _ H0.out.2)).trans H0.out.2
 have HB:=Lib.hid hb
 clear hb
 go_wp2
 go_ret
 exact⟨rfl,HB.out⟩
theorem onN_set {n:Nat} {on:Nat→Bool} {i:Nat} (v:Bool):(onN n on).set i (.bool v)=onN n (fun j=>if j=i then v else on j):=by
 refine List.ext_getElem? fun j=> ?_
 rw [List.getElem?_set]
 by_cases hj:j<n
 ·rw [onN_at hj]
  by_cases hij:i=j
  ·subst hij
   rw [if_pos rfl,if_pos (by rw [onN_len];exact hj),onN_at hj,if_pos rfl]
  ·rw [if_neg hij,onN_at hj,if_neg (fun e=>hij e.symm)]
 ·rw [List.getElem?_eq_none (by rw [onN_len];omega),List.getElem?_eq_none (by rw [onN_len];omega)]
  split <;> simp [onN_len]
  omega
section
variable {n:Nat} {N:NodeSp n} {M:MouthSp n} {tag:Nat→Nat} {w:World} {A:NtP} {T:NtS N.σ M.μ}
theorem NtAt.onSet (h:NtAt N M tag w A T) {i:Nat} (hi:i<n) (v:Bool):NtAt N M tag (w.setCell ⟨A.og,i,none⟩ (.bool v)) A { T with on:=fun j=>if j=i then v else T.on j }:=by
 have tg:=h.bx.tg
 have hs:∀b,b≠A.og→(w.setCell ⟨A.og,i,none⟩ (.bool v)).heap[b]? =w.heap[b]?:=fun b hb=>Below.heap_setCell _ _ _ _ hb
 have hz:w.heap.size≤(w.setCell ⟨A.og,i,none⟩ (.bool v)).heap.size:=by simp
 have hk:∀j,j≠1→∀b,b<w.heap.size→tag b=j∨tag b=0→(w.setCell ⟨A.og,i,none⟩ (.bool v)).heap[b]? =w.heap[b]?:=fun j hj b _ hb=>hs b (by
  rintro rfl
  have:=tg.2.2.1
  omega)
 have hb:=h.bx
 obtain⟨cur,g1,g2,g3⟩:=hb.gl
 refine⟨⟨?_,?_,?_,?_,hb.lc,?_,tg⟩,h.wx.keep hz (hk 2 (by omega)) (Ext.refl _ _),M.keep h.mx hz (hk 3 (by omega)) (Ext.refl _ _),fun i hi=>N.keep hi (h.nx i hi) hz (hk (i+10) (by omega)) (Ext.refl _ _),h.lx.keep hz (hk 4 (by omega)) (Ext.refl _ _)⟩
 ·exact hb.b.far (p:=⟨A.og,i,none⟩) (hb.b.ne_ hb.og (by decide)) _
 ·rw [World.cell?_of_block (a:=⟨A.p,0,none⟩) (hs A.p (by intro e;have:=tg.2.2.1;rw [←e] at this;omega))];exact hb.c
 ·exact hb.sg.keep_ (hs _ (by intro e;have:=tg.2.2.1;rw [←e] at this;omega))
 ·exact⟨cur,g1.far (p:=⟨A.og,i,none⟩) (g1.ne_ hb.og (by decide)) _,g2,g3⟩
 ·have:=hb.og.set_ i (.bool v)
  simpa [onN_set] using this
theorem power31_any (h:NtAt N M tag w A T) {i:Nat} (hi:i<n) (hn:n≤16) (v:Bool):Calls Tryz.prog 12 #[.pointer (some ⟨A.b,0,none⟩),.int .i64 i,.bool v] w fun e w'=>e=.returned (.int .i64 0)∧NtAt N M (extT w.heap.size tag fun _=>98) w' A { T with on:=fun j=>if j=i then v else T.on j }∧Chg (fun b=>tag b=1) w w':=by
 have HH:=Lib.hid (has31_any A.b (some ⟨A.gl,0,none⟩) n A.lc (i:Int) w (h.bx.b.cell 1))
 have hd:(decide ((0:Int)≤(i:Int))&&decide ((i:Int)<(n:Int)))=true:=by simp;omega
 rw [hd] at HH
 have c0:w.cell? ⟨A.b,0,none⟩=some (.pointer (some ⟨A.p,0,none⟩)):=h.bx.b.cell 0
 have HX:=Lib.hid h
 clear h hd
 have hi':(i:Int)<n:=by omega
 go_enter Tryz.func12,Tryz.ntmps12
 go_wp2_with fail
 (with_reducible refine HH.out.mono ?_)
 rintro e w1 ⟨rfl,hb⟩
 have hx1:=HX.out.below hb (extT_ext w tag fun _=>98)
 have c2:w1.cell? ⟨A.b,2,none⟩=some (.slice (some ⟨A.og,0,none⟩) n n):=hx1.bx.b.cell 2
 have c3:w1.cell? ⟨A.og,i,none⟩=some (.bool (T.on i)):=by rw [hx1.bx.og.cell,List.getElem?_toArray];exact onN_at hi
 have c4:w1.frozen? ⟨A.og,i,none⟩=false:=hx1.bx.og.frozen i
 have HX1:=Lib.hid (And.intro hx1 hb)
 clear hb hx1
 go_wp2
 go_ret
 refine⟨rfl,HX1.out.1.onSet hi v,?_⟩
 have hc:Chg (fun b=>tag b=1) w w1:=Chg.of_below HX1.out.2 _
 exact hc.setCell (.inl HX.out.bx.tg.2.2.1) _
end
theorem ag_set31:aggOf Tryz.prog 31 13=true:=by kernel_rfl
def setZ31:List Value:=cfZ++ [.slice none 0 0,.int .i64 0,.int .i64 0,.slice none 0 0]
@[go_sem] theorem len_setZ31:setZ31.length=13:=(rfl)
theorem bt_set31:buildT Tryz.prog 31 setZ31 [(0,9),(9,1),(10,3)]:=⟨by kernel_rfl,by kernel_rfl⟩
theorem bt_fault31:buildT Tryz.prog 29 [.int .i64 0,.int .i64 0,.slice none 0 0] [(0,1),(1,1),(2,1)]:=⟨by kernel_rfl,by kernel_rfl⟩
section
variable (ρ:Operand→Value) (d:Option Tmp) (x y z u:Operand) (ty:TypeId) (s:String) (af:Array Edge) (g:Option (Nat×Bool)) (w:World)
@[go_sem ↓] theorem al_set31:(execOp ρ { dst:=d,op:=.alloc 31,type:=ty,pos:=s,after:=af,guard:=g }).run Tryz.prog w=.ok (.value (.pointer (some ⟨w.heap.size,0,none⟩))) (w.alloc (.cells setZ31.toArray 31)):=exec_alloc (by unfold zeroIs;kernel_rfl) ρ d ty s af g w
@[go_sem ↓] theorem ld_set31 (h:hasRowV w 13 (ρ x)=true):(execOp ρ { dst:=d,op:=.load 31 x,type:=ty,pos:=s,after:=af,guard:=g }).run Tryz.prog w=.ok (.value (.agg (rowV w 13 (ρ x)).toArray)) w:=exec_load ag_set31 ρ d x ty s af g w h
@[go_sem ↓] theorem bd_fault31 (h0:lenC (ρ x) 1=true) (h1:lenC (ρ y) 1=true):(execOp ρ { dst:=d,op:=.build 29 #[(0,x),(1,y)],type:=ty,pos:=s,after:=af,guard:=g }).run Tryz.prog w=.ok (.value (.agg (cellsL (ρ x)++(cellsL (ρ y)++ [Value.slice none 0 0])).toArray)) w:=exec_build2of bt_fault31 rfl rfl rfl rfl ρ d x y ty s af g w h0 h1
@[go_sem ↓] theorem bd_set31 (h0:lenC (ρ x) 9=true) (h1:lenC (ρ y) 3=true):(execOp ρ { dst:=d,op:=.build 31 #[(0,x),(2,y)],type:=ty,pos:=s,after:=af,guard:=g }).run Tryz.prog w=.ok (.value (.agg (cellsL (ρ x)++(Value.slice none 0 0 :: cellsL (ρ y))).toArray)) w:=by
 have h2:(cellsL (ρ x)).length=9:=by simpa [lenC] using h0
 have h3:(cellsL (ρ y)).length=3:=by simpa [lenC] using h1
 refine exec_build ρ d _ ty s af g w ?_
 simp only [List.map_toArray,List.map_cons,List.map_nil]
 rw [built_of bt_set31,fill_one _ _ 0 0 9 _ _ rfl h2 (by simp [setZ31,cfZ]),fill_one _ _ 2 10 3 _ _ rfl h3 (by simp [spl,h2,setZ31,cfZ]),fill_nil]
 have e1:List.take 10 (cellsL (ρ x)++ [Value.slice none 0 0,Value.int .i64 0,Value.int .i64 0,Value.slice none 0 0])=cellsL (ρ x)++ [Value.slice none 0 0]:=by rw [List.take_append,List.take_of_length_le (by omega),h2];rfl
 have e2:List.drop 13 (cellsL (ρ x)++ [Value.slice none 0 0,Value.int .i64 0,Value.int .i64 0,Value.slice none 0 0])=[]:=List.drop_eq_nil_of_le (by simp [h2])
 simp [spl,h2,h3,setZ31,cfZ,e1,e2]
end
theorem rdz_lit31 {w w':World} {g:Nat} {t:TypeId} {l:List Int} (h:Blk w' g t (ints l).toArray) (hg:w.heap.size≤g):RdZ (w.heap.size≤·) w' (some ⟨g,0,none⟩) l.length l:=
 ⟨rfl,fun k z hz=>⟨g,0,rfl,hg,h.lt,by rw [h.cell,List.getElem?_toArray,ints,List.getElem?_map,Nat.zero_add,hz];rfl⟩⟩
def liveA31 (g:Nat):CfA:=⟨some ⟨g,0,none⟩,2,2,some ⟨g+1,0,none⟩,2,2,some ⟨g+2,0,none⟩,4,4,none,0,0⟩
theorem small31_w (w:World) (X:List Value) (hX:X.length=13) :
 hasRow (((((w.alloc (.cells X.toArray 31)).alloc (.cells #[Value.int .i64 0,.int .i64 2] 3)).alloc (.cells #[Value.int .i64 0,.int .i64 1] 3)).alloc (.cells #[Value.int .i64 0,.int .i64 0,.int .i64 0,.int .i64 0] 3)).alloc (.cells #[Value.int .i64 4,.slice (some ⟨w.heap.size+1,0,none⟩) 2 2,.slice (some ⟨w.heap.size+1+1,0,none⟩) 2 2,.int .i64 120,.slice (some ⟨w.heap.size+1+1+1,0,none⟩) 4 4,.slice none 0 0,.int .i64 3,.int .i64 3,.int .i64 3] 25)) ⟨w.heap.size,0,none⟩ 13=true∧
 rowOf (((((w.alloc (.cells X.toArray 31)).alloc (.cells #[Value.int .i64 0,.int .i64 2] 3)).alloc (.cells #[Value.int .i64 0,.int .i64 1] 3)).alloc (.cells #[Value.int .i64 0,.int .i64 0,.int .i64 0,.int .i64 0] 3)).alloc (.cells #[Value.int .i64 4,.slice (some ⟨w.heap.size+1,0,none⟩) 2 2,.slice (some ⟨w.heap.size+1+1,0,none⟩) 2 2,.int .i64 120,.slice (some ⟨w.heap.size+1+1+1,0,none⟩) 4 4,.slice none 0 0,.int .i64 3,.int .i64 3,.int .i64 3] 25)) ⟨w.heap.size,0,none⟩ 13=X∧
 CfR (w.heap.size≤·) (((((w.alloc (.cells X.toArray 31)).alloc (.cells #[Value.int .i64 0,.int .i64 2] 3)).alloc (.cells #[Value.int .i64 0,.int .i64 1] 3)).alloc (.cells #[Value.int .i64 0,.int .i64 0,.int .i64 0,.int .i64 0] 3)).alloc (.cells #[Value.int .i64 4,.slice (some ⟨w.heap.size+1,0,none⟩) 2 2,.slice (some ⟨w.heap.size+1+1,0,none⟩) 2 2,.int .i64 120,.slice (some ⟨w.heap.size+1+1+1,0,none⟩) 4 4,.slice none 0 0,.int .i64 3,.int .i64 3,.int .i64 3] 25)) (liveA31 (w.heap.size+1)) liveN∧
 Below w.heap.size w (((((w.alloc (.cells X.toArray 31)).alloc (.cells #[Value.int .i64 0,.int .i64 2] 3)).alloc (.cells #[Value.int .i64 0,.int .i64 1] 3)).alloc (.cells #[Value.int .i64 0,.int .i64 0,.int .i64 0,.int .i64 0] 3)).alloc (.cells #[Value.int .i64 4,.slice (some ⟨w.heap.size+1,0,none⟩) 2 2,.slice (some ⟨w.heap.size+1+1,0,none⟩) 2 2,.int .i64 120,.slice (some ⟨w.heap.size+1+1+1,0,none⟩) 4 4,.slice none 0 0,.int .i64 3,.int .i64 3,.int .i64 3] 25)):=by
 generalize (#[Value.int .i64 4,.slice (some ⟨w.heap.size+1,0,none⟩) 2 2,.slice (some ⟨w.heap.size+1+1,0,none⟩) 2 2,.int .i64 120,.slice (some ⟨w.heap.size+1+1+1,0,none⟩) 4 4,.slice none 0 0,.int .i64 3,.int .i64 3,.int .i64 3]:Array Value)=cv
 obtain⟨w1,e1⟩:∃w1,w1=w.alloc (.cells X.toArray 31):=⟨_,rfl⟩
 have k1:Blk w1 w.heap.size 31 X.toArray:=by rw [e1];exact Blk.new _ _ _
 have s1:w1.heap.size=w.heap.size+1:=by rw [e1];simp
 have f1:Below w.heap.size w w1:=by rw [e1];exact balN (Below.refl _ _) _
 rw [←e1]
 obtain⟨w2,e2⟩:∃w2,w2=w1.alloc (.cells #[Value.int .i64 0,.int .i64 2] 3):=⟨_,rfl⟩
 have k2:Blk w2 w1.heap.size 3 #[Value.int .i64 0,.int .i64 2]:=by rw [e2];exact Blk.new _ _ _
 have s2:w2.heap.size=w.heap.size+1+1:=by rw [e2];simp [s1]
 have f2:Below w1.heap.size w1 w2:=by rw [e2];exact balN (Below.refl _ _) _
 rw [←e2]
 obtain⟨w3,e3⟩:∃w3,w3=w2.alloc (.cells #[Value.int .i64 0,.int .i64 1] 3):=⟨_,rfl⟩
 have k3:Blk w3 w2.heap.size 3 #[Value.int .i64 0,.int .i64 1]:=by rw [e3];exact Blk.new _ _ _
 have s3:w3.heap.size=w.heap.size+1+1+1:=by rw [e3];simp [s2]
 have f3:Below w2.heap.size w2 w3:=by rw [e3];exact balN (Below.refl _ _) _
 rw [←e3]
 obtain⟨w4,e4⟩:∃w4,w4=w3.alloc (.cells #[Value.int .i64 0,.int .i64 0,.int .i64 0,.int .i64 0] 3):=⟨_,rfl⟩
 have k4:Blk w4 w3.heap.size 3 #[Value.int .i64 0,.int .i64 0,.int .i64 0,.int .i64 0]:=by rw [e4];exact Blk.new _ _ _
 have s4:w4.heap.size=w.heap.size+1+1+1+1:=by rw [e4];simp [s3]
 have f4:Below w3.heap.size w3 w4:=by rw [e4];exact balN (Below.refl _ _) _
 rw [←e4]
 have f5:=balN (Below.refl w4.heap.size w4) (.cells cv 25)
 rw [s3] at k4
 rw [s2] at k3
 rw [s1] at k2
 generalize w4.alloc (.cells cv 25)=w5 at f5 ⊢
 have g4:=f4.trans (f5.mono f4.size)
 have g3:=f3.trans (g4.mono f3.size)
 have g2:=f2.trans (g3.mono f2.size)
 obtain⟨t1,t2,-⟩:=(k1.below g2 k1.lt).whole hX
 refine⟨t1,t2,⟨rdz_lit31 (l:=[0,2]) (k2.below g3 k2.lt) (by omega),rdz_lit31 (l:=[0,1]) (k3.below g4 k3.lt) (by omega),rdz_lit31 (l:=[0,0,0,0]) (k4.below f5 k4.lt) (by omega),⟨rfl,by simp [liveN]⟩,by unfold maxLen;simp [liveA31]⟩,f1.trans (g2.mono f1.size)⟩
set_option maxRecDepth 100000 in
theorem small31_any (w:World):Calls Tryz.prog 18 #[] w fun e w'=> ∃g,w.heap.size≤g∧e=.returned (.agg (setV (cfV (liveA31 g) liveN)).toArray)∧CfR (w.heap.size≤·) w' (liveA31 g) liveN∧Below w.heap.size w w':=by
 go_enter Tryz.func18,Tryz.ntmps18
 go_wp2_with fail
 try simp only [Exit.inBlock,Exit.then]
 refine bodyPost_ret (ret_rowP (n:=13) rfl ag_set31 _ _ _ rfl ?_) rfl ?_
 ·exact (small31_w w _ (by rfl)).1
 ·refine⟨w.heap.size+1,by omega,?_,(small31_w w _ (by rfl)).2.2.1,(small31_w w _ (by rfl)).2.2.2⟩
  exact congrArg (fun l:List Value=>Ending.returned (.agg l.toArray)) ((small31_w w _ (by rfl)).2.1.trans (by rfl))
theorem live_h4:liveN.N=4:=rfl
theorem live_hB:∀z ∈ liveN.B,z=0:=by simp [liveN]
def nt0 (on:Nat→Bool):NtS Nat Unit:=⟨0,fun _=>0,on,fun k=>List.replicate (k % 2+1) poZ,fun _=>none,fun _=>none,(),0,0⟩
structure Live31 (w1:World) (A1:CfA) (q:Nat) (nb:Nat→Nat) (mb tm lm:Nat) (sv:Value) (A:NtP) (T:NtS Nat Unit) (wr:World):Prop where
 at_:∃tg,(∀b,b<w1.heap.size→tg b=0)∧NtAt (exN liveN A1 q nb A.p live_ref live_hB live_h4) (exM mb tm lm sv) tg wr A T
 bel:Below w1.heap.size w1 wr
theorem live31_new (A1:CfA) (S:Nat→Prop) (Ac:CfA) (w:World) (h:CfR S w Ac liveN) (hsg:SgW w) :
 Calls Tryz.prog 7 #[.agg (setV (cfV Ac liveN)).toArray] w fun e w'=> ∃(A:NtP) (A1:CfA) (q:Nat) (nb:Nat→Nat) (mb tm lm:Nat) (sv:Value),
  e=.returned (.tuple #[.pointer (some ⟨A.b,0,none⟩),.int .i64 0])∧Live31 w A1 q nb mb tm lm sv A (nt0 fun _=>false) w':=by
 refine (new31_any S Ac liveN w h hsg live_ref rfl 4 rfl (fun _=>0) rfl).mono ?_
 rintro e w' ⟨A,A1,q,nb,tg,mb,tm,lm,a,cap,rfl,hw,h1,h2,h3,h4,h5,h6,h7,h8⟩
 exact⟨A,A1,q,nb,mb,tm,lm,.slice a 0 cap,rfl,⟨tg,fun b hb=>h6 b hb,⟨h1,h2,h3,fun i hi=>h4 i hi,h5⟩⟩,h7⟩
section
variable {w1:World} {A1:CfA} {q:Nat} {nb:Nat→Nat} {mb tm lm:Nat} {sv:Value} {A:NtP} {T:NtS Nat Unit} {wr w':World}
theorem Live31.chg {S:Nat→Prop} {T':NtS Nat Unit} {tg tg':Nat→Nat} (hb:Below w1.heap.size w1 wr) (ht:∀b,b<w1.heap.size→tg b=0) (hc:Chg S wr w') (hS:∀b,S b→tg b≠0) (he:Ext wr tg tg') (hx:NtAt (exN liveN A1 q nb A.p live_ref live_hB live_h4) (exM mb tm lm sv) tg' w' A T'):Live31 w1 A1 q nb mb tm lm sv A T' w':=
 ⟨⟨tg',fun b hl=>(he b (Nat.lt_of_lt_of_le hl hb.size)).trans (ht b hl),hx⟩,hb.trans (hc.below hb.size fun b e=>by
   by_cases hl:b<w1.heap.size
   ·exact absurd (ht b hl) (hS b e)
   ·omega)⟩
theorem Live31.power (h:Live31 w1 A1 q nb mb tm lm sv A T wr) {i:Nat} (hi:i<4) (v:Bool):Calls Tryz.prog 12 #[.pointer (some ⟨A.b,0,none⟩),.int .i64 i,.bool v] wr fun e w'=>e=.returned (.int .i64 0)∧Live31 w1 A1 q nb mb tm lm sv A { T with on:=fun j=>if j=i then v else T.on j } w':=by
 obtain⟨⟨tg,ht,hx⟩,hb⟩:=h
 refine (power31_any hx hi (by omega) v).mono ?_
 rintro e w' ⟨rfl,hx',hc⟩
 exact⟨rfl,Live31.chg hb ht hc (fun b e=>by omega) (extT_ext _ _ _) hx'⟩
theorem Live31.run (h:Live31 w1 A1 q nb mb tm lm sv A T wr) (hT:ExT liveN 0 T):Calls Tryz.prog 13 #[.pointer (some ⟨A.b,0,none⟩),.int .i64 16] wr fun e w'=>e=.returned (.int .i64 0)∧∃T',ExT liveN 16 T'∧Live31 w1 A1 q nb mb tm lm sv A T' w':=by
 obtain⟨⟨tg,ht,hx⟩,hb⟩:=h
 refine (run31_any hx (by omega) (by omega) 16 (by omega) (fun k hk=>ex_okT _ _ _ _ _ _ _ _ _ _ _ _ (ex_run _ _ _ _ _ _ _ _ _ _ _ _ hT k (by omega)) hk) (by rw [hT.ht];omega)).mono ?_
 rintro e w' ⟨rfl,tg',he,hx',hc⟩
 exact⟨rfl,_,ex_run _ _ _ _ _ _ _ _ _ _ _ _ hT 16 (Nat.le_refl _),Live31.chg hb ht hc (fun b e=>e.1) he hx'⟩
end
section
variable {w1:World} {A1:CfA} {q:Nat} {nb:Nat→Nat} {mb tm lm:Nat} {sv:Value} {A:NtP} {T:NtS Nat Unit} {wr w':World}
theorem Live31.below (h:Live31 w1 A1 q nb mb tm lm sv A T wr) (hb:Below wr.heap.size wr w'):Live31 w1 A1 q nb mb tm lm sv A T w':=by
 obtain⟨⟨tg,ht,hx⟩,hB⟩:=h
 exact⟨⟨_,fun b hl=>(extT_ext wr tg (fun _=>98) b (Nat.lt_of_lt_of_le hl hB.size)).trans (ht b hl),hx.below hb (extT_ext _ _ _)⟩,hB.trans (hb.mono hB.size)⟩
theorem Live31.node (h:Live31 w1 A1 q nb mb tm lm sv A T wr) {i:Nat} (hi:i<4):Calls Tryz.prog 15 #[.pointer (some ⟨A.b,0,none⟩),.int .i64 i] wr fun e w'=>e=.returned (.pointer (some ⟨nb i,0,none⟩))∧Live31 w1 A1 q nb mb tm lm sv A T w':=by
 have h0:=h
 obtain⟨⟨tg,ht,hx⟩,hB⟩:=h
 obtain⟨cur,g1,g2,g3⟩:=hx.bx.gl
 refine (node31_yes A.b A.gl 4 A.lc i (nb i) wr (hx.bx.b.cell 1) hi (by rw [g1.cell];exact g3 i hi)).mono ?_
 rintro e w' ⟨rfl,hb⟩
 exact⟨rfl,h0.below hb⟩
theorem Live31.look (h:Live31 w1 A1 q nb mb tm lm sv A T wr) (hT:ExT liveN 16 T) {i:Nat} (hi:i<4):∃l:List Value,(l.length=63∧l.all cell1=true∧l[2]? =some (.int .i64 15)∧l[3]? =some (.bool true))∧Calls Tryz.prog 19 #[.pointer (some ⟨nb i,0,none⟩)] wr fun e w'=>e=.returned (.agg l.toArray)∧Live31 w1 A1 q nb mb tm lm sv A T w':=by
 have h0:=h
 obtain⟨⟨tg,ht,hx⟩,hB⟩:=h
 have hn:=hx.nx i hi
 rw [hT.hs i hi] at hn
 obtain⟨P,D,hPn,hPp,hX⟩:=hn
 have hOk:NdOk (NdK.new liveN i) (ntS liveN 16 i):=nt_ok liveN live_ref live_hB (by omega) (by show (i:Int)<4;omega)
 have hka:(lookV (ntS liveN 16 i).k).all cell1=true:=by
  show (lookV (ntK liveN 16 i)).all cell1=true
  simp only [lookV,ntK,List.all_cons,List.all_append,all_firstV]
  rfl
 obtain⟨e1,e2⟩:=ex_end liveN live_hB live_h4 rfl hi
 refine⟨lookV (ntS liveN 16 i).k,⟨lookV_len hOk.hk,hka,?_,?_⟩,?_⟩
 ·show some (Value.int .i64 (ntS liveN 16 i).k.shows)=_
  rw [e2]
 ·show some (Value.bool (ntS liveN 16 i).k.sure)=_
  rw [e1]
 ·have:=nlook_any hX hOk.hs hOk.hk hka
  rw [hPn] at this
  refine this.mono ?_
  rintro e w' ⟨rfl,hb⟩
  exact⟨rfl,h0.below hb⟩
end
theorem ext0_new:ExT liveN 0 (nt0 fun j=>decide (j<4)):=
 ⟨fun _ _=>rfl,fun i hi=>by show decide (i<4)=true;simp [hi],fun m _=>(wlB_zero liveN m).symm,rfl,rfl,rfl,fun _=>rfl⟩
theorem nt0_on (k:Nat):({ nt0 (fun j=>decide (j<k)) with on:=fun j=>if j=k then true else (nt0 fun j=>decide (j<k)).on j }:NtS Nat Unit)=nt0 fun j=>decide (j<k+1):=by
 show nt0 (fun j=>if j=k then true else decide (j<k))=_
 congr 1
 funext j
 by_cases h:j=k
 ·subst h;simp
 ·rw [if_neg h,decide_eq_decide];omega
theorem small31_new (w:World) (hsg:SgW w):Calls Tryz.prog 18 #[] w fun e w1=> ∃av:List Value,e=.returned (.agg av.toArray)∧av.length=13∧Below w.heap.size w w1∧Calls Tryz.prog 7 #[.agg av.toArray] w1 fun e w'=> ∃(A:NtP) (A1:CfA) (q:Nat) (nb:Nat→Nat) (mb tm lm:Nat) (sv:Value),
 e=.returned (.tuple #[.pointer (some ⟨A.b,0,none⟩),.int .i64 0])∧Live31 w1 A1 q nb mb tm lm sv A (nt0 fun _=>false) w':=by
 refine (small31_any w).mono ?_
 rintro e w1 ⟨g,hg,rfl,hC,hb⟩
 exact⟨_,rfl,rfl,hb,live31_new (liveA31 0) _ _ w1 hC (hsg.below hb)⟩
set_option maxRecDepth 100000 in
set_option maxHeartbeats 4000000 in
theorem lives31_any (w:World) (hsg:SgW w):Calls Tryz.prog 6 #[] w fun e w'=>e=.returned (.bool true)∧Below w.heap.size w w':=by
 have HSm:=Lib.hid (small31_new w hsg)
 clear hsg
 go_enter Tryz.func6,Tryz.ntmps6
 go_wp2_with fail
 (with_reducible refine HSm.out.mono ?_)
 rintro e w1 ⟨av,rfl,hal,hb1,hN⟩
 have HN:=Lib.hid hN
 have HB1:=Lib.hid hb1
 clear hN hb1 HSm
 go_wp2_with fail
 (with_reducible refine HN.out.mono ?_)
 rintro e w2 ⟨A,A1,q,nb,mb,tm,lm,sv,rfl,hL⟩
 have HL:Hid (Live31 w1 A1 q nb mb tm lm sv A (nt0 fun j=>decide (j<0)) w2):=Lib.hid (by
  rw [show (fun j=>decide (j<0))=(fun _:Nat=>false) by funext j;simp]
  exact hL)
 clear hL HN
 go_wp2_with fail
 go_loopw [3] (fun i wr=> ∃k:Nat,k≤4∧i=.int .i64 k∧Hid (Live31 w1 A1 q nb mb tm lm sv A (nt0 fun j=>decide (j<k)) wr)) (fun i _=>4 - (intOf i).toNat)
 case atStart=>exact⟨0,by omega,rfl,HL⟩
 case round=>
  obtain⟨k,hk,rfl,HK⟩:=hrel
  by_cases hlt:k<4
  ·have hlt':(k:Int)<4:=by omega
   have HP:=Lib.hid (HK.out.power hlt true)
   go_wp2_with fail
   (with_reducible refine HP.out.mono ?_)
   rintro e w3 ⟨rfl,h3⟩
   rw [nt0_on k] at h3
   have H3:=Lib.hid h3
   clear h3 HP
   go_wp2_with fail
   exact⟨⟨k+1,by omega,by go_num,H3⟩,by simp [intOf];omega⟩
  ·obtain rfl:k=4:=by omega
   have HR:=Lib.hid (HK.out.run ext0_new)
   go_wp2_with fail
   (with_reducible refine HR.out.mono ?_)
   rintro e w3 ⟨rfl,T',hT',h3⟩
   have HT:=Lib.hid hT'
   have H3:=Lib.hid h3
   clear h3 hT' HR HK
   go_wp2_with fail
   go_loopw [5] (fun i wr=> ∃k:Nat,k≤4∧i=.int .i64 k∧Hid (Live31 w1 A1 q nb mb tm lm sv A T' wr)) (fun i _=>4 - (intOf i).toNat)
   case atStart=>exact⟨0,by omega,rfl,H3⟩
   case round=>
    obtain⟨k,hk,rfl,HK⟩:=hrel
    by_cases hlt:k<4
    ·have hlt':(k:Int)<4:=by omega
     have HNd:=Lib.hid (HK.out.node hlt)
     go_wp2_with fail
     (with_reducible refine HNd.out.mono ?_)
     rintro e w4 ⟨rfl,h4⟩
     obtain⟨l,⟨l1,l2,l3,l4⟩,hLk⟩:=h4.look HT.out hlt
     have H4:=Lib.hid h4
     have HLk:=Lib.hid hLk
     have HLs:=Lib.hid (And.intro l3 l4)
     clear h4 hLk l3 l4 HNd
     go_wp2_with fail
     (with_reducible refine HLk.out.mono ?_)
     rintro e w5 ⟨rfl,h5⟩
     have H5:=Lib.hid h5
     clear h5 HLk
     go_upto_region 13 with fail
     have k6:=Blk.new w5 91 l.toArray
     have c2:(w5.alloc (.cells l.toArray 91)).cell? ⟨w5.heap.size,2,none⟩=some (.int .i64 15):=by rw [k6.cell,List.getElem?_toArray];exact HLs.out.1
     have c3:(w5.alloc (.cells l.toArray 91)).cell? ⟨w5.heap.size,3,none⟩=some (.bool true):=by rw [k6.cell,List.getElem?_toArray];exact HLs.out.2
     have H6:=Lib.hid (H5.out.below (balN (Below.refl _ _) (.cells l.toArray 91)))
     clear k6
     go_wp2_with fail
     exact⟨⟨k+1,by omega,by go_num,H6⟩,by simp [intOf];omega⟩
    ·obtain rfl:k=4:=by omega
     have c7:wr.cell? ⟨A.b,7,none⟩=some (.int .i64 16):=by
      obtain⟨⟨tg,ht,hx⟩,hB⟩:=HK.out
      have:=hx.bx.b.cell 7
      rw [HT.out.ht] at this
      exact this
     have HTk:=Lib.hid (ticks31_any A.b 16 wr c7)
     go_wp2_with fail
     (with_reducible refine HTk.out.mono ?_)
     rintro e w6 ⟨rfl,h6⟩
     have H6:=Lib.hid (HB1.out.trans ((HK.out.below h6).bel.mono HB1.out.size))
     clear h6 HTk
     go_wp2_with fail
     go_ret
     exact⟨rfl,H6.out⟩
end Go.Proofs.YtdilbjikeilhbaaGreatDoor
