import Derived.Test.YtdilbjikeilhbaaGreatDoorGn26
import Derived.Test.YtdilbjikeilhbaaGreatDoorGn32
namespace Go.Proofs.YtdilbjikeilhbaaGreatDoor
open Go.RowKit
set_option linter.unusedVariables false
set_option linter.unusedSimpArgs false
set_option maxRecDepth 100000
theorem bt_viewZ:buildT Tryz.prog 89 viewZ [(0,8),(8,8),(16,8),(24,8),(32,8),(40,1),(41,1)]:=by unfold buildT;exact⟨by kernel_rfl,by kernel_rfl⟩
@[go_sem ↓] theorem bd_viewZ (ρ:Operand→Value) (d:Option Tmp) (ty:TypeId) (s:String) (af:Array Edge) (g:Option (Nat×Bool)) (w:World):(execOp ρ { dst:=d,op:=.build 89 #[],type:=ty,pos:=s,after:=af,guard:=g }).run Tryz.prog w=.ok (.value (.agg viewZ.toArray)) w:=exec_build0 bt_viewZ ρ d ty s af g w
theorem all_viewZ:viewZ.all cell1=true:=rfl
def VwW (w:World) (e:Ending) (w':World):Prop:=∃v:List Value,e=.returned (.agg v.toArray)∧v.length=42∧v.all cell1=true∧Below w.heap.size w w'
structure ViL (w:World) (cv vv:List Value) (wr:World):Prop where
 l:vv.length=42
 a:vv.all cell1=true
 b:∀j,j<8→∃b:Bool,vv[j]? =some (.bool b)
 bel:Below w.heap.size w wr
 c:Blk wr w.heap.size 25 cv.toArray
 r:Blk wr (w.heap.size+1) 89 viewZ.toArray
 v:Blk wr (w.heap.size+1+1) 89 vv.toArray
theorem ViL.set {w:World} {cv vv:List Value} {wr:World} (h:ViL w cv vv wr) {k:Nat} (hk:k<8):ViL w cv (vv.set k (.bool true)) (wr.setCell ⟨w.heap.size+1+1,k,none⟩ (.bool true)):=by
 refine⟨by rw [List.length_set];exact h.l,?_,fun j hj=> ?_,h.bel.setCell (by show w.heap.size≤w.heap.size+1+1;omega) _,h.c.far (by show w.heap.size≠w.heap.size+1+1;omega) _,h.r.far (by show w.heap.size+1≠w.heap.size+1+1;omega) _,?_⟩
 ·rw [List.all_eq_true] at *
  intro x hx
  rcases List.mem_or_eq_of_mem_set hx with hx | rfl
  ·exact List.all_eq_true.1 h.a x hx
  ·rfl
 ·rw [List.getElem?_set]
  split
  ·exact⟨true,by rw [if_pos (by rw [h.l];omega)]⟩
  ·exact h.b j hj
 ·have:=h.v.set_ k (.bool true)
  rwa [List.setIfInBounds_toArray] at this
set_option maxHeartbeats 1000000 in
theorem rf22_any (A:CfA) (c:Cfg) (w:World) (hp:A.pn≤8):Calls Tryz.prog 138 #[.agg (cfV A c).toArray] w (VwW w):=by
 obtain⟨cv,hcv⟩:∃cv,Hid (cv=cfV A c):=⟨_,Lib.hid rfl⟩
 rw [←hcv.out]
 have hcvl:cv.length=9:=by rw [hcv.out];rfl
 have hva:=all_viewZ
 have hvl:viewZ.length=42:=len_viewZ
 have b1:=balP (Below.refl w.heap.size w) (.cells cv.toArray 25)
 have b2:=balP b1 (.cells viewZ.toArray 89)
 have b3:=balP b2 (.cells viewZ.toArray 89)
 have k1:=((Blk.new w 25 cv.toArray).alloc (.cells viewZ.toArray 89)).alloc (.cells viewZ.toArray 89)
 have k2:=(Blk.new (w.alloc (.cells cv.toArray 25)) 89 viewZ.toArray).alloc (.cells viewZ.toArray 89)
 have k3:=Blk.new ((w.alloc (.cells cv.toArray 25)).alloc (.cells viewZ.toArray 89)) 89 viewZ.toArray
 have hs1:(w.alloc (.cells cv.toArray 25)).heap.size=w.heap.size+1:=by simp
 have hs2:((w.alloc (.cells cv.toArray 25)).alloc (.cells viewZ.toArray 89)).heap.size=w.heap.size+1+1:=by simp
 rw [hs1] at k2
 rw [hs2] at k3
 have hcp:=(k3.whole len_viewZ).2.2
 have HK:=Lib.hid (And.intro b3 (And.intro k1 (And.intro k2 k3)))
 clear b1 b2 b3 k1 k2 k3 hs1 hs2
 go_enter Tryz.func138,Tryz.ntmps138
 go_upto_region 2 with fail
 generalize (((w.alloc (.cells cv.toArray 25)).alloc (.cells viewZ.toArray 89)).alloc (.cells viewZ.toArray 89))=w3 at HK hcp ⊢
 have H0:Hid (ViL w cv viewZ w3):=Lib.hid ⟨hvl,hva,fun j hj=>⟨false,by match j,hj with | 0,_=>rfl | 1,_=>rfl | 2,_=>rfl | 3,_=>rfl | 4,_=>rfl | 5,_=>rfl | 6,_=>rfl | 7,_=>rfl⟩,HK.out.1,HK.out.2.1,HK.out.2.2.1,HK.out.2.2.2⟩
 clear hcp hva hvl
 go_wp2_with fail
 go_loopw [4] (fun i wr=> ∃k:Nat,∃vv,k≤A.pn∧i=.int .i64 k∧Hid (ViL w cv vv wr)) (fun i _=>A.pn - (intOf i).toNat)
 case atStart=>exact⟨0,viewZ,by omega,rfl,H0⟩
 case round=>
  obtain⟨k,vv,hk,rfl,HV⟩:=hrel
  have kc:=HV.out.c
  rw [hcv.out] at kc
  obtain⟨-,c1,-⟩:=cfV_cells kc
  clear kc H0 HK
  obtain⟨pn,hpn⟩:∃pn,Hid (pn=A.pn):=⟨_,Lib.hid rfl⟩
  rw [←hpn.out] at c1 hk hp
  by_cases hlt:k<pn
  ·have hlt':(k:Int)<pn:=by omega
   have hk0:(0:Int)≤k:=by omega
   have hk8:(k:Int)<8:=by omega
   obtain⟨b,hb⟩:=HV.out.b k (by omega)
   have g1:wr.cell? ⟨w.heap.size+1+1,k,none⟩=some (.bool b):=(HV.out.v.cell k).trans (by rw [List.getElem?_toArray];exact hb)
   have g2:wr.frozen? ⟨w.heap.size+1+1,k,none⟩=false:=HV.out.v.frozen k
   have HN:=Lib.hid (HV.out.set (k:=k) (by omega))
   go_wp2_with fail
   exact⟨⟨k+1,_,by rw [←hpn.out];omega,by go_num,HN⟩,by have:=hpn.out;simp [intOf];omega⟩
  ·obtain rfl:k=pn:=by omega
   have hlt':¬(k:Int)<k:=by omega
   have hvl:=HV.out.l
   have hva:=HV.out.a
   obtain⟨r1,r2,-⟩:=HV.out.v.whole hvl
   have q3:=(HV.out.r.whole len_viewZ).2.2
   obtain⟨p1,p2,-⟩:=(HV.out.r.put_all (l:=vv) (by rw [hvl];rfl)).whole hvl
   have HE:Hid (VwW w (.returned (.agg vv.toArray)) (putRow wr ⟨w.heap.size+1,0,none⟩ vv)):=Lib.hid ⟨vv,rfl,hvl,hva,Below.put HV.out.bel (by show w.heap.size≤w.heap.size+1;omega) _⟩
   have HP:=Lib.hid (And.intro p1 p2)
   clear p1 p2
   go_wp2_with fail
   try simp only [Exit.inBlock,Exit.then]
   first | refine bodyPost_ret (ret_rowB (n:=42) rfl ag_view _ _ _ rfl ?_) rfl ?_ | refine bodyPost_end (ret_rowB (n:=42) rfl ag_view _ _ _ rfl ?_) rfl ?_
   ·exact HP.out.1
   ·rw [HP.out.2]
    exact HE.out
theorem all_spl {z l:List Value} {off:Nat} (hz:z.all cell1=true) (hl:l.all cell1=true):(spl z off l).all cell1=true:=by
 rw [List.all_eq_true] at *
 intro x hx
 simp only [spl,List.mem_append] at hx
 rcases hx with (hx | hx) | hx
 ·exact hz x (List.mem_of_mem_take hx)
 ·exact hl x hx
 ·exact hz x (List.mem_of_mem_drop hx)
def fl12Z:List Value:=cfZ++ [.int .i64 0,.int .i64 0,nilP,nilP,nilP]
theorem bt_fl12:buildT Tryz.prog 351 fl12Z [(0,9),(9,1),(10,1),(11,1),(12,2)]:=⟨by kernel_rfl,by kernel_rfl⟩
def bx19Z:List Value:=cfZ++ [.slice none 0 0]
theorem bt_bx19:buildT Tryz.prog 355 bx19Z [(0,9),(9,1)]:=⟨by kernel_rfl,by kernel_rfl⟩
def st26Z:List Value:=ac0.vals++(ac0.vals++(ac0.vals++(ac0.vals++(ac0.vals++(ac0.vals++(ac0.vals++ac0.vals))))))
def cr27Z:List Value:=cfZ++(.int .i64 0 :: .int .i64 0 :: (viewZ++(nilP :: st26Z)))
theorem bt_cr27:buildT Tryz.prog 262 cr27Z [(0,9),(9,1),(10,1),(11,42),(53,1),(54,32)]:=⟨by kernel_rfl,by kernel_rfl⟩
theorem len_cr27:cr27Z.length=86:=rfl
theorem lenC_cells {v:Value} {n:Nat} (h:lenC v n=true):(cellsL v).length=n:=by simpa [lenC] using h
section
variable (ρ:Operand→Value) (d:Option Tmp) (x0 x1 x2 x3 x4:Operand) (ty:TypeId) (s:String) (af:Array Edge) (g:Option (Nat×Bool)) (w:World)
@[go_sem ↓] theorem bd_fl12 (h0:lenC (ρ x0) 9=true) (h1:lenC (ρ x1) 1=true):(execOp ρ { dst:=d,op:=.build 351 #[(0,x0),(1,x1)],type:=ty,pos:=s,after:=af,guard:=g }).run Tryz.prog w=.ok (.value (.agg (spl (spl fl12Z 0 (cellsL (ρ x0))) 9 (cellsL (ρ x1))).toArray)) w:=
 exec_build ρ d _ ty s af g w (by
  rw [built_of bt_fl12]
  simp only [List.map_toArray,List.map_cons,List.map_nil]
  rw [fill_one _ _ 0 0 9 _ _ rfl (lenC_cells h0) (by decide),fill_one _ _ 1 9 1 _ _ rfl (lenC_cells h1) (by rw [len_spl (by rw [lenC_cells h0];decide)];decide),fill_nil])
@[go_sem ↓] theorem bd_bx19 (h0:lenC (ρ x0) 9=true):(execOp ρ { dst:=d,op:=.build 355 #[(0,x0)],type:=ty,pos:=s,after:=af,guard:=g }).run Tryz.prog w=.ok (.value (.agg (spl bx19Z 0 (cellsL (ρ x0))).toArray)) w:=exec_build1 bt_bx19 (i:=0) rfl (by decide) ρ d x0 ty s af g w h0
@[go_sem ↓] theorem bd_cr27 (h0:lenC (ρ x0) 9=true) (h1:lenC (ρ x1) 1=true) (h2:lenC (ρ x2) 1=true) (h3:lenC (ρ x3) 42=true) (h4:lenC (ρ x4) 1=true):(execOp ρ { dst:=d,op:=.build 262 #[(0,x0),(1,x1),(2,x2),(3,x3),(4,x4)],type:=ty,pos:=s,after:=af,guard:=g }).run Tryz.prog w=.ok (.value (.agg (spl (spl (spl (spl (spl cr27Z 0 (cellsL (ρ x0))) 9 (cellsL (ρ x1))) 10 (cellsL (ρ x2))) 11 (cellsL (ρ x3))) 53 (cellsL (ρ x4))).toArray)) w:=
 exec_build ρ d _ ty s af g w (by
  have e0:=lenC_cells h0;have e1:=lenC_cells h1;have e2:=lenC_cells h2;have e3:=lenC_cells h3;have e4:=lenC_cells h4
  have l0:(spl cr27Z 0 (cellsL (ρ x0))).length=86:=by rw [len_spl (by rw [e0,len_cr27];omega),len_cr27]
  have l1:(spl (spl cr27Z 0 (cellsL (ρ x0))) 9 (cellsL (ρ x1))).length=86:=by rw [len_spl (by rw [e1,l0];omega),l0]
  have l2:(spl (spl (spl cr27Z 0 (cellsL (ρ x0))) 9 (cellsL (ρ x1))) 10 (cellsL (ρ x2))).length=86:=by rw [len_spl (by rw [e2,l1];omega),l1]
  have l3:(spl (spl (spl (spl cr27Z 0 (cellsL (ρ x0))) 9 (cellsL (ρ x1))) 10 (cellsL (ρ x2))) 11 (cellsL (ρ x3))).length=86:=by rw [len_spl (by rw [e3,l2];omega),l2]
  rw [built_of bt_cr27]
  simp only [List.map_toArray,List.map_cons,List.map_nil]
  rw [fill_one _ _ 0 0 9 _ _ rfl e0 (by rw [len_cr27];omega),fill_one _ _ 1 9 1 _ _ rfl e1 (by rw [l0];omega),fill_one _ _ 2 10 1 _ _ rfl e2 (by rw [l1];omega),fill_one _ _ 3 11 42 _ _ rfl e3 (by rw [l2];omega),fill_one _ _ 4 53 1 _ _ rfl e4 (by rw [l3];omega),fill_nil])
end
set_option maxHeartbeats 1000000 in
theorem rf12_any (A:CfA) (c:Cfg) (me:Nat) (w:World) (h1:(me:Int)<c.N):Calls Tryz.prog 93 #[.agg (cfV A c).toArray,.int .i64 me] w (NewW w):=by
 obtain⟨cv,hcv⟩:∃cv,Hid (cv=cfV A c):=⟨_,Lib.hid rfl⟩
 rw [←hcv.out]
 have hcvl:cv.length=9:=by rw [hcv.out];rfl
 have hb:=balP (Below.refl w.heap.size w) (.cells cv.toArray 25)
 have k0:=Blk.new w 25 cv.toArray
 obtain⟨r1,r2,-⟩:=k0.whole hcvl
 rw [hcv.out] at k0
 obtain⟨c0,-⟩:=cfV_cells k0
 rw [←hcv.out] at c0
 obtain⟨N,hN⟩:∃N,Hid (N=c.N):=⟨_,Lib.hid rfl⟩
 rw [←hN.out] at c0 h1
 have b1:decide ((me:Int)<0)=false:=by simp
 have b2:decide (N≤(me:Int))=false:=by simp;omega
 have HB:=Lib.hid hb
 clear hb k0
 go_enter Tryz.func93,Tryz.ntmps93
 go_upto_region 1 with fail
 generalize w.alloc (.cells cv.toArray 25)=w0 at HB c0 r1 r2 ⊢
 go_wp2_with fail
 go_ret2
 exact newW_a HB.out
def CrW (w:World) (e:Ending) (w':World):Prop:=∃(g:Nat) (L:List Value),e=.returned (.pointer (some ⟨g,0,none⟩))∧Blk w' g 262 L.toArray∧L.length=86∧L.all cell1=true∧w.heap.size≤g∧Below w.heap.size w w'
theorem balN2 {w w3:World} (h:Below w.heap.size w w3) (o:Obj):Below w.heap.size w (w3.alloc o):=h.alloc h.size o
theorem bw1 {w0 w3:World} (h:Below w0.drew.heap.size w0.drew w3):Below w0.heap.size w0 w3:=(Below.refl _ _).drew.trans h
theorem bw2 {w0 w3:World} {o:Obj} (h:Below (w0.alloc o).drew.heap.size (w0.alloc o).drew w3):Below w0.heap.size w0 w3:=(balP (Below.refl _ _) o).drew.trans (h.mono (balP (Below.refl w0.heap.size w0) o).size)
theorem crW_a {w w4:World} {cv vv:List Value} {me:Int} {g k:Nat} (hk:k=w4.heap.size) (hc:cv.length=9) (hca:cv.all cell1=true) (hv:vv.length=42) (hva:vv.all cell1=true) (h:Below w.heap.size w w4):CrW w (.returned (.pointer (some ⟨k,0,none⟩))) (w4.alloc (.cells (spl (spl (spl (spl (spl cr27Z 0 cv) 9 [.int .i64 me]) 10 [.int .i64 (-1)]) 11 vv) 53 [.pointer (some ⟨g,0,none⟩)]).toArray 262)):=by
 subst hk
 have l0:(spl cr27Z 0 cv).length=86:=by rw [len_spl (by rw [hc,len_cr27];omega),len_cr27]
 have l1:(spl (spl cr27Z 0 cv) 9 [Value.int .i64 me]).length=86:=by rw [len_spl (by rw [l0];simp),l0]
 have l2:(spl (spl (spl cr27Z 0 cv) 9 [Value.int .i64 me]) 10 [Value.int .i64 (-1)]).length=86:=by rw [len_spl (by rw [l1];simp),l1]
 have l3:(spl (spl (spl (spl cr27Z 0 cv) 9 [Value.int .i64 me]) 10 [Value.int .i64 (-1)]) 11 vv).length=86:=by rw [len_spl (by rw [l2,hv];omega),l2]
 refine⟨_,_,rfl,Blk.new _ _ _,by rw [len_spl (by rw [l3];simp),l3],?_,h.size,h.alloc h.size _⟩
 exact all_spl (all_spl (all_spl (all_spl (all_spl rfl hca) rfl) rfl) hva) rfl
set_option maxHeartbeats 1000000 in
theorem rf27_any (A:CfA) (c:Cfg) (me:Nat) (w:World) (hp:A.pn≤8):Calls Tryz.prog 94 #[.agg (cfV A c).toArray,.int .i64 me] w (CrW w):=by
 have HC:=Lib.hid fun w'=>rf22_any A c w' hp
 obtain⟨cv,hcv⟩:∃cv,Hid (cv=cfV A c):=⟨_,Lib.hid rfl⟩
 rw [←hcv.out] at HC ⊢
 have hcvl:cv.length=9:=by rw [hcv.out];rfl
 have hcva:cv.all cell1=true:=by rw [hcv.out];rfl
 have hb:=balP (Below.refl w.heap.size w) (.cells cv.toArray 25)
 have k0:=Blk.new w 25 cv.toArray
 have HB:=Lib.hid (And.intro hb k0)
 clear hb k0
 go_enter Tryz.func94,Tryz.ntmps94
 go_upto_region 1 with fail
 generalize w.alloc (.cells cv.toArray 25)=w0 at HB ⊢
 have HF:Hid (∀w',Below w0.heap.size w0 w'→hasRow w' ⟨w.heap.size,0,none⟩ 9=true∧rowOf w' ⟨w.heap.size,0,none⟩ 9=cv):=Lib.hid fun w' hb=>by
  obtain⟨r1,r2,-⟩:=(HB.out.2.below hb HB.out.2.lt).whole hcvl
  exact⟨r1,r2⟩
 obtain⟨r1,r2⟩:=HF.out w0 (Below.refl _ _)
 go_region_held3 (fun w'=>hasRow w' ⟨w.heap.size,0,none⟩ 9=true∧rowOf w' ⟨w.heap.size,0,none⟩ 9=cv)
  (((with_reducible refine HF.out _ ?_);repeat' (with_reducible first | exact H3.out | exact Below.refl _ _ | refine Below.drew ?_ | refine balP ?_ _)))
  ((first
    | (go_at_call 138;(with_reducible refine (HC.out _).mono ?_);rintro e w3 ⟨vv,rfl,hvl,hva,hb3⟩;have H3:Hid (Below w0.heap.size w0 w3):=Lib.hid (by first | exact bw1 hb3 | exact bw2 hb3);clear hb3)))
 all_goals have HE:=HB.out.1.trans (H3.out.mono HB.out.1.size)
 all_goals go_wp2_with fail
 all_goals go_ret
 all_goals first | exact crW_a (by simp) hcvl hcva hvl hva (balN2 HE _) | exact crW_a rfl hcvl hcva hvl hva HE
def lk30Z:List Value:=.int .i64 0 :: .int .i64 0 :: .int .i64 0 :: .bool false :: .bool false :: .int .i64 0 :: .int .i64 0 :: .int .i64 0 :: .int .i64 0 :: (saidZ++(viewZ++saidZ))
def nd30Z:List Value:=cfZ++(.int .i64 0 :: .slice none 0 0 :: nilP :: nilP :: nilP :: nilP :: nilP :: nilP :: nilP :: .bool false :: (seenZ++lk30Z))
theorem len_nd30:nd30Z.length=132:=rfl
theorem len_lk30:lk30Z.length=63:=rfl
theorem bt_nd30:buildT Tryz.prog 196 nd30Z [(0,9),(9,1),(10,1),(11,1),(12,1),(13,1),(14,1),(15,1),(16,1),(17,1),(18,1),(19,50),(69,63)]:=⟨by kernel_rfl,by kernel_rfl⟩
theorem bt_lk30:buildT Tryz.prog 194 lk30Z [(0,1),(1,1),(2,1),(3,1),(4,1),(5,3),(8,1),(9,6),(15,42),(57,6)]:=⟨by kernel_rfl,by kernel_rfl⟩
theorem bt_sn27:buildT Tryz.prog 191 seenZ [(0,1),(1,6),(7,42),(49,1)]:=⟨by kernel_rfl,by kernel_rfl⟩
def ck06Z:List Value:=cfZ++ [.int .i64 0,.int .i64 0,.int .i64 0,.int .i64 0]
theorem bt_ck06:buildT Tryz.prog 253 ck06Z [(0,9),(9,1),(10,3)]:=⟨by kernel_rfl,by kernel_rfl⟩
theorem ag_sn27:aggOf Tryz.prog 191 50=true:=by kernel_rfl
theorem ag_lk30:aggOf Tryz.prog 194 63=true:=by kernel_rfl
section
variable (ρ:Operand→Value) (d:Option Tmp) (x0 x1 x2 x y:Operand) (ty:TypeId) (s:String) (af:Array Edge) (g:Option (Nat×Bool)) (w:World)
@[go_sem ↓] theorem bd_nd30 (h0:lenC (ρ x0) 9=true) (h1:lenC (ρ x1) 1=true) (h2:lenC (ρ x2) 1=true):(execOp ρ { dst:=d,op:=.build 196 #[(0,x0),(1,x1),(2,x2)],type:=ty,pos:=s,after:=af,guard:=g }).run Tryz.prog w=.ok (.value (.agg (spl (spl (spl nd30Z 0 (cellsL (ρ x0))) 9 (cellsL (ρ x1))) 10 (cellsL (ρ x2))).toArray)) w:=
 exec_build ρ d _ ty s af g w (by
  have e0:=lenC_cells h0;have e1:=lenC_cells h1;have e2:=lenC_cells h2
  have l0:(spl nd30Z 0 (cellsL (ρ x0))).length=132:=by rw [len_spl (by rw [e0,len_nd30];omega),len_nd30]
  have l1:(spl (spl nd30Z 0 (cellsL (ρ x0))) 9 (cellsL (ρ x1))).length=132:=by rw [len_spl (by rw [e1,l0];omega),l0]
  rw [built_of bt_nd30]
  simp only [List.map_toArray,List.map_cons,List.map_nil]
  rw [fill_one _ _ 0 0 9 _ _ rfl e0 (by rw [len_nd30];omega),fill_one _ _ 1 9 1 _ _ rfl e1 (by rw [l0];omega),fill_one _ _ 2 10 1 _ _ rfl e2 (by rw [l1];omega),fill_nil])
@[go_sem ↓] theorem bd_lk30 (h0:lenC (ρ x0) 1=true) (h1:lenC (ρ x1) 1=true) (h2:lenC (ρ x2) 42=true):(execOp ρ { dst:=d,op:=.build 194 #[(1,x0),(2,x1),(8,x2)],type:=ty,pos:=s,after:=af,guard:=g }).run Tryz.prog w=.ok (.value (.agg (spl (spl (spl lk30Z 1 (cellsL (ρ x0))) 2 (cellsL (ρ x1))) 15 (cellsL (ρ x2))).toArray)) w:=
 exec_build ρ d _ ty s af g w (by
  have e0:=lenC_cells h0;have e1:=lenC_cells h1;have e2:=lenC_cells h2
  have l0:(spl lk30Z 1 (cellsL (ρ x0))).length=63:=by rw [len_spl (by rw [e0,len_lk30];omega),len_lk30]
  have l1:(spl (spl lk30Z 1 (cellsL (ρ x0))) 2 (cellsL (ρ x1))).length=63:=by rw [len_spl (by rw [e1,l0];omega),l0]
  rw [built_of bt_lk30]
  simp only [List.map_toArray,List.map_cons,List.map_nil]
  rw [fill_one _ _ 1 1 1 _ _ rfl e0 (by rw [len_lk30];omega),fill_one _ _ 2 2 1 _ _ rfl e1 (by rw [l0];omega),fill_one _ _ 8 15 42 _ _ rfl e2 (by rw [l1];omega),fill_nil])
@[go_sem ↓] theorem bd_sn27:(execOp ρ { dst:=d,op:=.build 191 #[],type:=ty,pos:=s,after:=af,guard:=g }).run Tryz.prog w=.ok (.value (.agg seenZ.toArray)) w:=exec_build0 bt_sn27 ρ d ty s af g w
@[go_sem ↓] theorem bd_ck06 (h0:lenC (ρ x0) 9=true):(execOp ρ { dst:=d,op:=.build 253 #[(0,x0)],type:=ty,pos:=s,after:=af,guard:=g }).run Tryz.prog w=.ok (.value (.agg (spl ck06Z 0 (cellsL (ρ x0))).toArray)) w:=exec_build1 bt_ck06 (i:=0) rfl (by decide) ρ d x0 ty s af g w h0
@[go_sem ↓] theorem st_sn27 (h1:okAgg 50 (ρ y)=true) (h2:canPutV w 50 (ρ x)=true):(execOp ρ { dst:=d,op:=.store 191 x y,type:=ty,pos:=s,after:=af,guard:=g }).run Tryz.prog w=.ok .skip (putV w (ρ x) (ρ y)):=exec_store ag_sn27 ρ d x y ty s af g w h1 h2
@[go_sem ↓] theorem st_lk30 (h1:okAgg 63 (ρ y)=true) (h2:canPutV w 63 (ρ x)=true):(execOp ρ { dst:=d,op:=.store 194 x y,type:=ty,pos:=s,after:=af,guard:=g }).run Tryz.prog w=.ok .skip (putV w (ρ x) (ρ y)):=exec_store ag_lk30 ρ d x y ty s af g w h1 h2
end
def NdR (nb:Nat) (cv:List Value) (me:Int) (w:World):Prop:=∃L:List Value,Blk w nb 196 L.toArray∧L.length=132∧L.all cell1=true∧L.take 10=cv++ [.int .i64 me]
section
variable {nb:Nat} {cv:List Value} {me:Int} {w w':World} (h:NdR nb cv me w)
include h
theorem NdR.lt:nb<w.heap.size:=by obtain⟨L,h1,-⟩:=h;exact h1.lt
theorem NdR.below (hb:Below w.heap.size w w'):NdR nb cv me w':=by obtain⟨L,h1,h2⟩:=h;exact⟨L,h1.below hb h1.lt,h2⟩
theorem NdR.facts (hc:cv.length=9) {N:Int} (h0:cv[0]? =some (.int .i64 N)):w.cell? ⟨nb,0,none⟩=some (.int .i64 N)∧w.cell? ⟨nb,9,none⟩=some (.int .i64 me)∧hasRow w ⟨nb,0,none⟩ 9=true∧rowOf w ⟨nb,0,none⟩ 9=cv:=by
 obtain⟨L,h1,h2,h3,h4⟩:=h
 have e9:L[9]? =some (.int .i64 me):=by
  have:(L.take 10)[9]? =L[9]?:=by rw [List.getElem?_take,if_pos (by omega)]
  rw [←this,h4,List.getElem?_append_right (by omega),hc];rfl
 have e0:L[0]? =some (.int .i64 N):=by
  have:(L.take 10)[0]? =L[0]?:=by rw [List.getElem?_take,if_pos (by omega)]
  rw [←this,h4,List.getElem?_append_left (by omega),h0]
 obtain⟨r1,r2,-⟩:=h1.whole h2
 obtain⟨r3,r4⟩:=row_part r1 r2 0 9 (by omega)
 refine⟨(h1.cell 0).trans (by rw [List.getElem?_toArray];exact e0),(h1.cell 9).trans (by rw [List.getElem?_toArray];exact e9),r3,?_⟩
 rw [r4,List.drop_zero]
 have:L.take 9=(L.take 10).take 9:=by rw [List.take_take];rfl
 rw [this,h4,List.take_append_of_le_length (by omega),List.take_of_length_le (by omega)]
theorem NdR.at_ {i:Nat} (hi:i<132):(∃v,w.cell? ⟨nb,i,none⟩=some v)∧w.frozen? ⟨nb,i,none⟩=false:=by
 obtain⟨L,h1,h2,h3,h4⟩:=h
 exact⟨⟨L[i]'(by omega),(h1.cell i).trans (by rw [List.getElem?_toArray,List.getElem?_eq_getElem])⟩,h1.frozen i⟩
theorem NdR.set {i:Nat} (hi:10≤i) {v:Value} (hv:Go.Proofs.YtdilbjikeilhbaaGreatDoor.cell1 v=true):NdR nb cv me (w.setCell ⟨nb,i,none⟩ v):=by
 obtain⟨L,h1,h2,h3,h4⟩:=h
 refine⟨L.set i v,?_,by rw [List.length_set,h2],?_,?_⟩
 ·have:=h1.set_ i v
  rwa [List.setIfInBounds_toArray] at this
 ·rw [List.all_eq_true] at *
  intro x hx
  rcases List.mem_or_eq_of_mem_set hx with hx | rfl
  ·exact h3 x hx
  ·exact hv
 ·rw [List.take_set_of_le (by omega),h4]
theorem NdR.put {i:Nat} (hi:10≤i) {l:List Value} (hl:i+l.length≤132) (hv:l.all Go.Proofs.YtdilbjikeilhbaaGreatDoor.cell1=true):NdR nb cv me (putRow w ⟨nb,i,none⟩ l):=by
 obtain⟨L,h1,h2,h3,h4⟩:=h
 refine⟨L.take i++l++L.drop (i+l.length),h1.put i l,by simp;omega,?_,?_⟩
 ·exact all_spl (z:=L) (off:=i) h3 hv
 ·rw [List.append_assoc,List.take_append_of_le_length (by simp;omega),List.take_take,Nat.min_eq_left hi,h4]
end
def LoseP (nb:Nat) (w:World) (e:Ending) (w':World):Prop:=e=.returned (.tuple #[])∧Chg (· =nb) w w'
structure LoI (nb:Nat) (cv:List Value) (me:Int) (w wr:World):Prop where
 n:NdR nb cv me wr
 c:Chg (· =nb) w wr
theorem LoI.below {nb:Nat} {cv:List Value} {me:Int} {w wr w':World} (h:LoI nb cv me w wr) (hb:Below wr.heap.size wr w'):LoI nb cv me w w':=⟨h.n.below hb,h.c.trans (Chg.of_below hb _)⟩
theorem LoI.set {nb:Nat} {cv:List Value} {me:Int} {w wr:World} (h:LoI nb cv me w wr) {i:Nat} (hi:10≤i) {v:Value} (hv:cell1 v=true):LoI nb cv me w (wr.setCell ⟨nb,i,none⟩ v):=⟨h.n.set hi hv,h.c.set_at i v⟩
theorem LoI.put {nb:Nat} {cv:List Value} {me:Int} {w wr:World} (h:LoI nb cv me w wr) {i:Nat} (hi:10≤i) {l:List Value} (hl:i+l.length≤132) (hv:l.all cell1=true):LoI nb cv me w (putRow wr ⟨nb,i,none⟩ l):=⟨h.n.put hi hl hv,Chg.put (S:=(· =nb)) (p:=⟨nb,i,none⟩) h.c (.inl rfl) l⟩
structure LoQ (nb g:Nat) (v:List Value) (w wr:World):Prop where
 ex:∃L:List Value,Blk wr nb 196 L.toArray∧L.length=132∧L.all cell1=true∧L[17]? =some (.pointer (some ⟨g,0,none⟩))
 cr:∃L:List Value,Blk wr g 262 L.toArray∧L.length=86∧(L.drop 11).take 42=v
 c:Chg (· =nb) w wr
theorem LoI.crew {nb g:Nat} {cv:List Value} {me:Int} {w wr:World} (h:LoI nb cv me w wr) {L:List Value} (hk:Blk wr g 262 L.toArray) (hl:L.length=86):LoQ nb g ((L.drop 11).take 42) w (wr.setCell ⟨nb,17,none⟩ (.pointer (some ⟨g,0,none⟩))):=by
 have h2:=h.set (i:=17) (by decide) (v:=.pointer (some ⟨g,0,none⟩)) rfl
 obtain⟨L1,k1,k2,k3,k4⟩:=h.n
 refine⟨⟨L1.set 17 (.pointer (some ⟨g,0,none⟩)),?_,by rw [List.length_set,k2],?_,?_⟩,⟨L,hk.far (hk.ne_ k1 (by decide)) _,hl,rfl⟩,h2.c⟩
 ·have:=k1.set_ 17 (.pointer (some ⟨g,0,none⟩))
  rwa [List.setIfInBounds_toArray] at this
 ·rw [List.all_eq_true] at *
  intro x hx
  rcases List.mem_or_eq_of_mem_set hx with hx | rfl
  ·exact k3 x hx
  ·rfl
 ·rw [List.getElem?_set,if_pos rfl,if_pos (by omega)]
theorem LoQ.put {nb g:Nat} {v:List Value} {w wr:World} (h:LoQ nb g v w wr) {i:Nat} (hi:18≤i) {l:List Value} (hl:i+l.length≤132) (hv:l.all cell1=true):LoQ nb g v w (putRow wr ⟨nb,i,none⟩ l):=by
 obtain⟨⟨L,k1,k2,k3,k4⟩,⟨L2,k5,k6⟩,k7⟩:=h
 refine⟨⟨L.take i++l++L.drop (i+l.length),k1.put i l,by simp;omega,all_spl (z:=L) (off:=i) k3 hv,?_⟩,⟨L2,(putRow_other _ _ _ _ (k5.ne_ k1 (by decide))).trans k5,k6⟩,Chg.put (S:=(· =nb)) (p:=⟨nb,i,none⟩) k7 (.inl rfl) l⟩
 rw [List.append_assoc,List.getElem?_append_left (by simp;omega),List.getElem?_take,if_pos (by omega),k4]
theorem LoQ.set {nb g:Nat} {v:List Value} {w wr:World} (h:LoQ nb g v w wr) {i:Nat} (hi:18≤i) {u:Value} (hu:cell1 u=true):LoQ nb g v w (wr.setCell ⟨nb,i,none⟩ u):=by
 obtain⟨⟨L,k1,k2,k3,k4⟩,⟨L2,k5,k6⟩,k7⟩:=h
 refine⟨⟨L.set i u,?_,by rw [List.length_set,k2],?_,?_⟩,⟨L2,k5.far (k5.ne_ k1 (by decide)) _,k6⟩,k7.set_at i u⟩
 ·have:=k1.set_ i u
  rwa [List.setIfInBounds_toArray] at this
 ·rw [List.all_eq_true] at *
  intro x hx
  rcases List.mem_or_eq_of_mem_set hx with hx | rfl
  ·exact k3 x hx
  ·exact hu
 ·rw [List.getElem?_set,if_neg (by omega),k4]
theorem LoQ.facts {nb g:Nat} {v:List Value} {w wr:World} (h:LoQ nb g v w wr):wr.cell? ⟨nb,17,none⟩=some (.pointer (some ⟨g,0,none⟩))∧(hasRow wr ⟨g,11,none⟩ 42=true∧rowOf wr ⟨g,11,none⟩ 42=v)∧(∃u,wr.cell? ⟨nb,18,none⟩=some u)∧wr.frozen? ⟨nb,18,none⟩=false∧canPut wr ⟨nb,19,none⟩ 50=true∧canPut wr ⟨nb,69,none⟩ 63=true:=by
 obtain⟨⟨L,k1,k2,k3,k4⟩,⟨L2,k5,k6,k8⟩,k7⟩:=h
 obtain⟨r1,r2,-⟩:=k5.whole k6
 obtain⟨r3,r4⟩:=row_part r1 r2 11 42 (by omega)
 refine⟨(k1.cell 17).trans (by rw [List.getElem?_toArray];exact k4),⟨by simpa using r3,by rw [←k8];simpa using r4⟩,⟨L[18]'(by omega),(k1.cell 18).trans (by rw [List.getElem?_toArray,List.getElem?_eq_getElem])⟩,k1.frozen 18,?_,?_⟩ <;> rw [k1.rules.2.2.2.2] <;> simp <;> omega
set_option maxHeartbeats 2000000 in
theorem lose_any (A:CfA) (c:Cfg) (n me nb:Nat) (w:World) (hp:A.pn≤8) (hn:c.N=n) (h4:4≤n) (h16:n≤16) (hm:me<n) (h:NdR nb (cfV A c) me w):Calls Tryz.prog 47 #[.pointer (some ⟨nb,0,none⟩)] w (LoseP nb w):=by
 have HC14:=Lib.hid fun w'=>rf14_any n me h4 h16 hm w'
 have HC16:=Lib.hid fun w'=>rf16_any n h4 h16 w'
 have HC17:=Lib.hid fun w'=>rf17_any n h4 h16 w'
 have HC12:=Lib.hid fun w'=>rf12_any A c me w' (by omega)
 have HC27:=Lib.hid fun w'=>rf27_any A c me w' hp
 obtain⟨cv,hcv⟩:∃cv,Hid (cv=cfV A c):=⟨_,Lib.hid rfl⟩
 rw [←hcv.out] at HC12 HC27 h
 have hcvl:cv.length=9:=by rw [hcv.out];rfl
 have hcva:cv.all cell1=true:=by rw [hcv.out];rfl
 have HG:Hid (∀w',NdR nb cv me w'→w'.cell? ⟨nb,0,none⟩=some (.int .i64 n)∧w'.cell? ⟨nb,9,none⟩=some (.int .i64 me)∧hasRow w' ⟨nb,0,none⟩ 9=true∧rowOf w' ⟨nb,0,none⟩ 9=cv):=Lib.hid fun w' h=>h.facts hcvl (by rw [hcv.out,←hn];rfl)
 have H0:Hid (LoI nb cv me w w):=Lib.hid ⟨h,Chg.refl _ _⟩
 obtain⟨c0,c9,-⟩:=HG.out w h
 clear h hn
 go_enter Tryz.func47,Tryz.ntmps47
 go_upto_region 0 with fail
 have F0:Hid (w.drew.cell? ⟨nb,0,none⟩=some (.int .i64 n)∧w.drew.cell? ⟨nb,9,none⟩=some (.int .i64 me)):=Lib.hid ⟨c0,c9⟩
 go_region_held3 (fun w'=>w'.cell? ⟨nb,0,none⟩=some (.int .i64 n)∧w'.cell? ⟨nb,9,none⟩=some (.int .i64 me))
  (with_reducible (first | exact F2.out | exact F1.out | exact F0.out))
  ((first
    | (go_at_call 90;(with_reducible refine (HC14.out _).mono ?_);rintro e w1 ⟨g1,rfl,-,-,hb⟩;have H1:Hid (LoI nb cv me w w1):=Lib.hid (by first | exact H0.out.below (bw1 hb) | exact H0.out.below hb);obtain⟨f1,f2,-⟩:=HG.out w1 H1.out.n;have F1:=Lib.hid (And.intro f1 f2);obtain⟨⟨v1,y1⟩,y2⟩:=H1.out.n.at_ (i:=12) (by decide);have q:=HG.out _ (H1.out.set (i:=12) (by decide) (v:=.pointer (some ⟨g1,0,none⟩)) rfl).n;have F2:=Lib.hid (And.intro q.1 q.2.1);clear hb f1 f2 q)))
 have H2:=Lib.hid (H1.out.set (i:=12) (by decide) (v:=.pointer (some ⟨g1,0,none⟩)) rfl)
 generalize w1.setCell ⟨nb,12,none⟩ (.pointer (some ⟨g1,0,none⟩))=w2 at H2 ⊢
 clear c0 c9 F0 F1 F2 y1 y2 H1 H0
 obtain⟨c0,c9,r0,r1⟩:=HG.out w2 H2.out.n
 go_upto_region 2 with ((with_reducible refine (HC16.out _).mono ?_);rintro e w3 ⟨g3,rfl,-,-,hb⟩;have H3:=Lib.hid (H2.out.below hb);obtain⟨⟨v3,y1⟩,y2⟩:=H3.out.n.at_ (i:=13) (by decide);clear hb)
 have H4:=Lib.hid (H3.out.set (i:=13) (by decide) (v:=.pointer (some ⟨g3,0,none⟩)) rfl)
 generalize w3.setCell ⟨nb,13,none⟩ (.pointer (some ⟨g3,0,none⟩))=w4 at H4 ⊢
 clear c0 c9 r0 r1 y1 y2 H2 H3
 obtain⟨c0,c9,r0,r1⟩:=HG.out w4 H4.out.n
 go_upto_region 3 with ((with_reducible refine (HC17.out _).mono ?_);rintro e w5 ⟨g5,rfl,-,-,hb⟩;have H5:=Lib.hid (H4.out.below hb);obtain⟨⟨v5,y1⟩,y2⟩:=H5.out.n.at_ (i:=14) (by decide);clear hb)
 have H6:=Lib.hid (H5.out.set (i:=14) (by decide) (v:=.pointer (some ⟨g5,0,none⟩)) rfl)
 generalize w5.setCell ⟨nb,14,none⟩ (.pointer (some ⟨g5,0,none⟩))=w6 at H6 ⊢
 clear c0 c9 r0 r1 y1 y2 H4 H5
 obtain⟨c0,c9,r0,r1⟩:=HG.out w6 H6.out.n
 have H7:=Lib.hid (H6.out.below (balP (Below.refl w6.heap.size w6) (.cells (spl ck06Z 0 cv).toArray 253)))
 obtain⟨⟨v7,y1⟩,y2⟩:=H7.out.n.at_ (i:=15) (by decide)
 go_upto_region 4 with fail
 have H8:=Lib.hid (H7.out.set (i:=15) (by decide) (v:=.pointer (some ⟨w6.heap.size,0,none⟩)) rfl)
 generalize (w6.alloc (.cells (spl ck06Z 0 cv).toArray 253)).setCell ⟨nb,15,none⟩ (.pointer (some ⟨w6.heap.size,0,none⟩))=w8 at H8 ⊢
 clear c0 c9 r0 r1 y1 y2 H6 H7
 obtain⟨c0,c9,r0,r1⟩:=HG.out w8 H8.out.n
 have F0:Hid (w8.drew.cell? ⟨nb,9,none⟩=some (.int .i64 me)∧hasRow w8.drew ⟨nb,0,none⟩ 9=true∧rowOf w8.drew ⟨nb,0,none⟩ 9=cv):=Lib.hid ⟨c9,r0,r1⟩
 go_region_held3 (fun w'=>w'.cell? ⟨nb,9,none⟩=some (.int .i64 me)∧hasRow w' ⟨nb,0,none⟩ 9=true∧rowOf w' ⟨nb,0,none⟩ 9=cv)
  (with_reducible (first | exact F2.out | exact F1.out | exact F0.out))
  ((first
    | (go_at_call 93;(with_reducible refine (HC12.out _).mono ?_);rintro e w9 ⟨g9,rfl,-,-,hb⟩;have H9:Hid (LoI nb cv me w w9):=Lib.hid (by first | exact H8.out.below (bw1 hb) | exact H8.out.below hb);obtain⟨-,f2,f3,f4⟩:=HG.out w9 H9.out.n;have F1:=Lib.hid (And.intro f2 (And.intro f3 f4));obtain⟨⟨v9,y1⟩,y2⟩:=H9.out.n.at_ (i:=16) (by decide);have q:=HG.out _ (H9.out.set (i:=16) (by decide) (v:=.pointer (some ⟨g9,0,none⟩)) rfl).n;have F2:=Lib.hid q.2;clear hb f2 f3 f4 q)))
 have H10:=Lib.hid (H9.out.set (i:=16) (by decide) (v:=.pointer (some ⟨g9,0,none⟩)) rfl)
 generalize w9.setCell ⟨nb,16,none⟩ (.pointer (some ⟨g9,0,none⟩))=w10 at H10 ⊢
 clear c0 c9 r0 r1 F0 F1 F2 y1 y2 H9 H8
 go_wp2_with fail
 obtain⟨c0,c9,r0,r1⟩:=HG.out w10 H10.out.n
 have F0:Hid (w10.drew.cell? ⟨nb,9,none⟩=some (.int .i64 me)∧hasRow w10.drew ⟨nb,0,none⟩ 9=true∧rowOf w10.drew ⟨nb,0,none⟩ 9=cv):=Lib.hid ⟨c9,r0,r1⟩
 go_region_held3 (fun w'=>w'.cell? ⟨nb,9,none⟩=some (.int .i64 me)∧hasRow w' ⟨nb,0,none⟩ 9=true∧rowOf w' ⟨nb,0,none⟩ 9=cv)
  (with_reducible (first | exact F2.out | exact F1.out | exact F0.out))
  ((first
    | (go_at_call 94;(with_reducible refine (HC27.out _).mono ?_);rintro e w11 ⟨g11,L,rfl,hk,hL,hLa,-,hb⟩;have H11:Hid (LoI nb cv me w w11):=Lib.hid (by first | exact H10.out.below (bw1 hb) | exact H10.out.below hb);have HL:=Lib.hid (And.intro hk (And.intro hL hLa));obtain⟨-,f2,f3,f4⟩:=HG.out w11 H11.out.n;have F1:=Lib.hid (And.intro f2 (And.intro f3 f4));obtain⟨⟨v11,y1⟩,y2⟩:=H11.out.n.at_ (i:=17) (by decide);have q:=HG.out _ (H11.out.set (i:=17) (by decide) (v:=.pointer (some ⟨g11,0,none⟩)) rfl).n;have F2:=Lib.hid q.2;clear hb f2 f3 f4 hk hL hLa q)))
 obtain⟨vv,hvv⟩:∃vv,Hid (vv=(L.drop 11).take 42):=⟨_,Lib.hid rfl⟩
 have hvl:vv.length=42:=by rw [hvv.out];simp [HL.out.2.1]
 have hva:vv.all cell1=true:=by
  rw [hvv.out,List.all_eq_true]
  intro x hx
  exact List.all_eq_true.1 HL.out.2.2 x (List.mem_of_mem_drop (List.mem_of_mem_take hx))
 have hq:=H11.out.crew HL.out.1 HL.out.2.1
 rw [←hvv.out] at hq
 have H12:=Lib.hid hq
 generalize w11.setCell ⟨nb,17,none⟩ (.pointer (some ⟨g11,0,none⟩))=w12 at H12 hq ⊢
 obtain⟨q1,⟨q2,q3⟩,⟨u,q4⟩,q5,q6,q7⟩:=hq.facts
 clear c0 c9 r0 r1 F0 F1 F2 y1 y2 H10 H11 HL q1 q2 q3 q6 q7 hq
 have hsl:seenZ.length=50:=seenZ_len
 have hsa:seenZ.all cell1=true:=rfl
 have H13:=Lib.hid (H12.out.set (i:=18) (by decide) (u:=.bool false) rfl)
 go_upto_region 7 with fail
 generalize w12.setCell ⟨nb,18,none⟩ (.bool false)=w13 at H13 ⊢
 obtain⟨-,-,-,-,q6,q7⟩:=H13.out.facts
 have H14:=Lib.hid (H13.out.put (i:=19) (by decide) (l:=seenZ) (by rw [hsl];decide) hsa)
 clear q4 q5 q7 H12
 go_upto_region 8 with fail
 generalize putRow w13 ⟨nb,19,none⟩ seenZ=w14 at H14 ⊢
 obtain⟨q1,⟨q2,q3⟩,-,-,-,q7⟩:=H14.out.facts
 obtain⟨lv,hlv⟩:∃lv,Hid (lv=spl (spl (spl lk30Z 1 [.int .i64 (-1)]) 2 [.int .i64 (-1)]) 15 vv):=⟨_,Lib.hid rfl⟩
 have hll:(spl (spl (spl lk30Z 1 [.int .i64 (-1)]) 2 [.int .i64 (-1)]) 15 vv).length=63:=by
  rw [len_spl (by rw [len_spl (by rw [len_spl (by decide)];decide),len_spl (by decide),hvl];decide),len_spl (by rw [len_spl (by decide)];decide),len_spl (by decide)];rfl
 have hla:(spl (spl (spl lk30Z 1 [.int .i64 (-1)]) 2 [.int .i64 (-1)]) 15 vv).all cell1=true:=all_spl (all_spl (all_spl rfl rfl) rfl) hva
 have H15:=Lib.hid (H14.out.put (i:=69) (by decide) (l:=spl (spl (spl lk30Z 1 [.int .i64 (-1)]) 2 [.int .i64 (-1)]) 15 vv) (by rw [hll];decide) hla)
 clear q6 H13 hsl hsa
 go_wp2_with fail
 go_end0
 exact⟨rfl,H15.out.c⟩
theorem ndR_new {w0:World} {cv:List Value} {me:Int} {en:Value} (hc:cv.length=9) (hca:cv.all cell1=true) (hen:cell1 en=true):NdR w0.heap.size cv me (w0.alloc (.cells (spl (spl (spl nd30Z 0 cv) 9 [.int .i64 me]) 10 [en]).toArray 196)):=by
 have l0:(spl nd30Z 0 cv).length=132:=by rw [len_spl (by rw [hc,len_nd30];omega),len_nd30]
 have l1:(spl (spl nd30Z 0 cv) 9 [Value.int .i64 me]).length=132:=by rw [len_spl (by rw [l0];simp),l0]
 refine⟨_,Blk.new _ _ _,by rw [len_spl (by rw [l1];simp),l1],all_spl (all_spl (all_spl rfl hca) rfl) (by simp [hen]),?_⟩
 have e1:spl nd30Z 0 cv=cv++nd30Z.drop 9:=by simp [spl,hc]
 have e2:spl (spl nd30Z 0 cv) 9 [Value.int .i64 me]=cv++ [.int .i64 me] ++nd30Z.drop 10:=by
  rw [e1];simp only [spl]
  rw [List.take_append_of_le_length (by omega),List.take_of_length_le (by omega),List.drop_append,List.drop_eq_nil_of_le (by simp;omega),hc];rfl
 have e3:(cv++ [Value.int .i64 me] ++nd30Z.drop 10).take 10=cv++ [.int .i64 me]:=by
  rw [List.take_append_of_le_length (by simp;omega),List.take_of_length_le (by simp;omega)]
 rw [e2,spl,e3,List.append_assoc (cv++ [Value.int .i64 me]),List.take_append_of_le_length (by simp;omega),List.take_of_length_le (by simp;omega)]
set_option maxHeartbeats 2000000 in
theorem rf30_yes (S:Nat→Prop) (A:CfA) (c:Cfg) (n me:Nat) (x:Option Addr) (m cap:Nat) (w:World) (h:CfR S w A c) (hok:RefOk c) (hn:c.N=n) (hm:me<n) (hl:m≤64):Calls Tryz.prog 25 #[.agg (cfV A c).toArray,.int .i64 me,.slice x m cap] w (NewW w):=by
 have hp:A.pn≤8:=by have:=hok.p;have:=h.p.1;omega
 have h4:4≤n∧n≤16:=by have:=hok.n;omega
 have HL:Hid (∀nb w',NdR nb (cfV A c) me w'→Calls Tryz.prog 47 #[.pointer (some ⟨nb,0,none⟩)] w' (LoseP nb w')):=Lib.hid fun nb w' hh=>lose_any A c n me nb w' hp hn h4.1 h4.2 hm hh
 have hmb:me<c.B.length:=by have:=hok.bl;omega
 obtain⟨boot,hbt⟩:∃z,c.B[me]? =some z:=⟨_,List.getElem?_eq_getElem hmb⟩
 have hbr:=hok.b boot (List.mem_of_getElem? hbt)
 have HR18:=Lib.hid fun w'=>rf18_any boot hbr.1 hbr.2 w'
 obtain⟨bb,off,hba,-,hbl,hcb⟩:=h.b.2 me boot hbt
 have hlt:me<A.bn:=by have:=h.b.1;omega
 obtain⟨cv,hcv⟩:∃cv,Hid (cv=cfV A c):=⟨_,Lib.hid rfl⟩
 rw [←hcv.out] at HL ⊢
 have hcvl:cv.length=9:=by rw [hcv.out];rfl
 have hcva:cv.all cell1=true:=by rw [hcv.out];rfl
 have hb:=balP (Below.refl w.heap.size w) (.cells cv.toArray 25)
 have k0:=Blk.new w 25 cv.toArray
 have hcb0:=(hb.cell (p:=⟨bb,off+me,none⟩) hbl).trans hcb
 have HB:=Lib.hid (And.intro hb k0)
 have HCB:=Lib.hid hbl
 clear h hok hb k0 hbt hbr hmb hcb hp
 go_enter Tryz.func25,Tryz.ntmps25
 go_upto_region 1 with fail
 generalize w.alloc (.cells cv.toArray 25)=w0 at HB hcb0 ⊢
 obtain⟨r1,r2,-⟩:=HB.out.2.whole hcvl
 have kc:=HB.out.2
 rw [hcv.out] at kc
 obtain⟨c0,-,-,-,c4,-⟩:=cfV_cells kc
 rw [hba] at c4
 rw [hn] at c0
 obtain⟨bn,hbn⟩:∃bn,bn=A.bn:=⟨_,rfl⟩
 obtain⟨bc,hbc⟩:∃bc,bc=A.bc:=⟨_,rfl⟩
 rw [←hbn,←hbc] at c4
 rw [←hbn] at hlt
 clear kc hbn hbc hba hn
 have b1:decide ((me:Int)<0)=false:=by simp
 have b2:decide ((n:Int)≤(me:Int))=false:=by simp;omega
 have b3:decide ((64:Int)<(m:Int))=false:=by simp;omega
 have b4:decide (n≤me)=false:=by simp;omega
 have b5:decide (64<m)=false:=by simp;omega
 have hw0:w.heap.size<w0.heap.size:=HB.out.2.lt
 go_upto_region 4 with fail
 have HN0:NdR w0.heap.size cv me (w0.alloc (.cells (spl (spl (spl nd30Z 0 cv) 9 [.int .i64 me]) 10 [.slice x m cap]).toArray 196)):=ndR_new hcvl hcva rfl
 have hb2:=balP (Below.refl w0.heap.size w0) (.cells (spl (spl (spl nd30Z 0 cv) 9 [.int .i64 me]) 10 [.slice x m cap]).toArray 196)
 generalize w0.alloc (.cells (spl (spl (spl nd30Z 0 cv) 9 [.int .i64 me]) 10 [.slice x m cap]).toArray 196)=w2 at HN0 hb2 ⊢
 have c4':=(hb2.cell (p:=⟨w.heap.size,4,none⟩) hw0).trans c4
 have hcb2:=(hb2.cell (p:=⟨bb,off+me,none⟩) (Nat.lt_of_lt_of_le HCB.out HB.out.1.size)).trans hcb0
 have H2:=Lib.hid (And.intro HN0 hb2)
 clear HN0 hb2 c4 hcb0 r1 r2 c0 b1 b2 b3 b4 b5
 go_upto_region 5 with ((with_reducible refine (HR18.out _).mono ?_);rintro e w3 ⟨g3,rfl,-,-,hb⟩;have H3:=Lib.hid (And.intro (H2.out.1.below hb) (H2.out.2.trans (hb.mono H2.out.2.size)));obtain⟨⟨v3,y1⟩,y2⟩:=H3.out.1.at_ (i:=11) (by decide);clear hb)
 have hB4:Below w0.heap.size w0 (w3.setCell ⟨w0.heap.size,11,none⟩ (.pointer (some ⟨g3,0,none⟩))):=H3.out.2.setCell (Nat.le_refl _) _
 have H4:=Lib.hid (And.intro (H3.out.1.set (i:=11) (by decide) (v:=.pointer (some ⟨g3,0,none⟩)) rfl) hB4)
 clear hB4
 generalize w3.setCell ⟨w0.heap.size,11,none⟩ (.pointer (some ⟨g3,0,none⟩))=w4 at H4 ⊢
 clear c4' hcb2 y1 y2
 have HLo:=Lib.hid (HL.out _ w4 H4.out.1)
 go_wp2_with fail
 (with_reducible refine HLo.out.mono ?_)
 rintro e w5 ⟨rfl,hc⟩
 have HE:Hid (NewW w (.returned (.tuple #[.pointer (some ⟨w0.heap.size,0,none⟩),.int .i64 0])) w5):=Lib.hid (by
  have h5:=H4.out.1.lt
  have h6:=HB.out.1.size
  have h7:=H4.out.2.size
  have h8:=hc.size
  exact⟨_,rfl,h6,by omega,(HB.out.1.trans (H4.out.2.mono h6)).trans (hc.below (B:=w.heap.size) (by omega) (by rintro k rfl;exact h6))⟩)
 go_wp2_with fail
 go_ret2
 exact HE.out
set_option maxHeartbeats 2000000 in
theorem rf30_no (A:CfA) (c:Cfg) (n me:Nat) (x:Option Addr) (m cap:Nat) (w:World) (hn:c.N=n) (hm:me<n) (hl:64<m):Calls Tryz.prog 25 #[.agg (cfV A c).toArray,.int .i64 me,.slice x m cap] w (FNewNo w):=by
 obtain⟨cv,hcv⟩:∃cv,Hid (cv=cfV A c):=⟨_,Lib.hid rfl⟩
 rw [←hcv.out]
 have hb:=balP (Below.refl w.heap.size w) (.cells cv.toArray 25)
 have kc:=Blk.new w 25 cv.toArray
 rw [hcv.out] at kc
 obtain⟨c0,-⟩:=cfV_cells kc
 rw [←hcv.out,hn] at c0
 have HB:=Lib.hid hb
 clear kc hb hn
 have b1:decide ((me:Int)<0)=false:=by simp
 have b2:decide ((n:Int)≤(me:Int))=false:=by simp;omega
 have b3:decide ((64:Int)<(m:Int))=true:=by simp;omega
 have b4:decide (n≤me)=false:=by simp;omega
 have b5:decide (64<m)=true:=by simp;omega
 go_enter Tryz.func25,Tryz.ntmps25
 go_upto_region 1 with fail
 generalize w.alloc (.cells cv.toArray 25)=w0 at HB c0 ⊢
 go_wp2_with fail
 go_ret2
 exact⟨rfl,HB.out⟩
end Go.Proofs.YtdilbjikeilhbaaGreatDoor
