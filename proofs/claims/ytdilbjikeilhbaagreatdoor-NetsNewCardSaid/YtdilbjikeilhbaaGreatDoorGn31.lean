import Derived.Test.YtdilbjikeilhbaaGreatDoorGn30
import Derived.Test.YtdilbjikeilhbaaGreatDoorGn19
namespace Go.Proofs.YtdilbjikeilhbaaGreatDoor
open Go.RowKit
set_option linter.unusedVariables false
set_option linter.unusedSimpArgs false
@[go_sem] theorem len_firstV (c:Cfg):(firstV c).length=42:=firstK_len c 8
@[go_sem] theorem all_firstV (c:Cfg):(firstV c).all cell1=true:=firstK_all c 8
theorem len_viewZ:viewZ.length=42:=rfl
def crewV (bx:Value) (p:Nat) (n s last:Int) (v:List Value) (ps:Value):List Value:=bx :: .pointer (some ⟨p,0,none⟩) :: .int .i64 n :: .int .i64 s :: .int .i64 last :: (v++ [ps])
theorem bt_crew:buildT Tryz.prog 321 (Value.pointer none :: .pointer none :: .int .i64 0 :: .int .i64 0 :: .int .i64 0 :: (viewZ++ [Value.slice none 0 0])) [(0,1),(1,1),(2,1),(3,1),(4,1),(5,42),(47,1)]:=⟨by kernel_rfl,by kernel_rfl⟩
theorem built_crew (x0 x1 x2 x3 x4:Value) (v:List Value) (h0:(cellsL x0)=[x0]) (h1:(cellsL x1)=[x1]) (h2:(cellsL x2)=[x2]) (h3:(cellsL x3)=[x3]) (h4:(cellsL x4)=[x4]) (hv:v.length=42) :
 Tryz.prog.built 321 [(0,x0),(1,x1),(2,x2),(3,x3),(4,x4),(5,.agg v.toArray)]=some (x0 :: x1 :: x2 :: x3 :: x4 :: (v++ [Value.slice none 0 0])).toArray:=by
 rw [built_of bt_crew]
 have e5:cellsL (.agg v.toArray)=v:=cellsL_agg v
 rw [fill_one _ _ 0 0 1 _ _ rfl (by rw [h0];rfl) (by simp [len_viewZ]),h0]
 rw [fill_one _ _ 1 1 1 _ _ rfl (by rw [h1];rfl) (by rw [len_spl (by simp [len_viewZ])];simp [len_viewZ]),h1]
 rw [fill_one _ _ 2 2 1 _ _ rfl (by rw [h2];rfl) (by simp [spl,len_viewZ]),h2]
 rw [fill_one _ _ 3 3 1 _ _ rfl (by rw [h3];rfl) (by simp [spl,len_viewZ]),h3]
 rw [fill_one _ _ 4 4 1 _ _ rfl (by rw [h4];rfl) (by simp [spl,len_viewZ]),h4]
 rw [fill_one _ _ 5 5 42 _ _ rfl (by rw [e5,hv]) (by simp [spl,len_viewZ]),e5,fill_nil]
 congr 2
 simp [spl,hv,List.drop_append,len_viewZ]
def oneC (v:Value):Bool:=match v with | .pointer _=>true | .int _ _=>true | _=>false
@[go_sem] theorem oneC_ptr (a:Option Addr):oneC (.pointer a)=true:=(rfl)
@[go_sem] theorem oneC_int (k:IntKind) (n:Int):oneC (.int k n)=true:=(rfl)
theorem oneC_cells {v:Value} (h:oneC v=true):cellsL v=[v]:=by cases v <;> first | rfl | simp [oneC] at h
def viewC (v:Value):List Value:=cellsL v
@[go_sem] theorem viewC_agg (l:List Value):viewC (.agg l.toArray)=l:=(rfl)
def aggC (v:Value) (n:Nat):Bool:=match v with | .agg cs=>cs.size==n | _=>false
@[go_sem] theorem aggC_list (l:List Value) (n:Nat):aggC (.agg l.toArray) n=(l.length==n):=(rfl)
@[go_sem ↓] theorem bd_crew (ρ:Operand→Value) (d:Option Tmp) (x0 x1 x2 x3 x5:Operand) (k:Value) (ty:TypeId) (s:String) (af:Array Edge) (g:Option (Nat×Bool)) (w:World) (h0:oneC (ρ x0)=true) (h1:oneC (ρ x1)=true) (h2:oneC (ρ x2)=true) (h3:oneC (ρ x3)=true) (h4:oneC (ρ (.const k))=true) (h5:aggC (ρ x5) 42=true) :
 (execOp ρ { dst:=d,op:=.build 321 #[(0,x0),(1,x1),(2,x2),(3,x3),(4,.const k),(5,x5)],type:=ty,pos:=s,after:=af,guard:=g }).run Tryz.prog w=.ok (.value (.agg (ρ x0 :: ρ x1 :: ρ x2 :: ρ x3 :: ρ (.const k) :: (viewC (ρ x5)++ [Value.slice none 0 0])).toArray)) w:=by
 obtain⟨l,hl,hl2⟩:∃l:List Value,ρ x5=.agg l.toArray∧l.length=42:=by
  cases h:ρ x5 with
  | agg cs=>exact⟨cs.toList,by simp,by simpa [aggC,h] using h5⟩
  | _=>simp [aggC,h] at h5
 refine exec_build ρ d _ ty s af g w ?_
 simp only [List.map_toArray,List.map_cons,List.map_nil,hl,viewC_agg]
 exact built_crew _ _ _ _ _ l (oneC_cells h0) (oneC_cells h1) (oneC_cells h2) (oneC_cells h3) (oneC_cells h4) hl2
theorem crew_a {p:Nat} {fr:Int} {w2 w3:World} {e:Ending} (h:BoxNew p fr w2.drew e w3):∃bx,e=.returned (.pointer (some ⟨bx,0,none⟩))∧Blk w3 bx 402 (boxV p fr).toArray∧w2.heap.size≤bx∧Below w2.heap.size w2 w3:=by
 obtain⟨g,rfl,h1,h2,h3⟩:=h
 exact⟨g,rfl,h1,h2,(Below.refl _ _).drew.trans h3⟩
theorem crew_b {p:Nat} {fr:Int} {bx:Nat} {c:Cfg} {w2 w3 w4:World} {e:Ending} (h:Blk w3 bx 402 (boxV p fr).toArray∧w2.heap.size≤bx∧Below w2.heap.size w2 w3) (h4:FirstP c w3 e w4):e=.returned (.agg (firstV c).toArray)∧(Blk w4 bx 402 (boxV p fr).toArray∧w2.heap.size≤bx)∧Below w2.heap.size w2 w4:=by
 obtain⟨rfl,hb⟩:=h4
 exact⟨rfl,⟨h.1.below hb h.1.lt,h.2.1⟩,h.2.2.trans (hb.mono h.2.2.size)⟩
structure AcM where
 any:Bool
 seq:Int
 val:Int
 rd:Int
def AcM.vals (s:AcM):List Value:=[.bool s.any,.int .u32 s.seq,.int .u32 s.val,.int .i64 s.rd]
def ac0:AcM:=⟨false,0,0,0⟩
def postV (x:Int×AcM):List Value:=.int .i64 x.1 :: x.2.vals
def postsV (L:List (Int×AcM)):List Value:=L.flatMap postV
def posts0 (St:List (Int×Int×Int)) (me:Int):Nat→List (Int×AcM)
 | 0=>[]
 | k+1=>if (St.getD k (-1,0,0)).1=me then posts0 St me k++ [((k:Int),ac0)] else posts0 St me k
theorem posts0_le (St:List (Int×Int×Int)) (me:Int):∀k,(posts0 St me k).length≤k
 | 0=>Nat.le_refl _
 | k+1=>by
   have:=posts0_le St me k
   rw [posts0]
   split <;> simp <;> omega
theorem app_crp:AppOk Tryz.prog 319 324 5:=appOk_of Tryz.underlying319 (by kernel_rfl)
theorem bt_crp:buildT Tryz.prog 324 (postV (0,ac0)) [(0,1),(1,4)]:=⟨by kernel_rfl,by kernel_rfl⟩
section
variable (ρ:Operand→Value) (d:Option Tmp) (x:Operand) (ty:TypeId) (s:String) (af:Array Edge) (g:Option (Nat×Bool)) (w:World)
@[go_sem ↓] theorem bd_crp (h:lenC (ρ x) 1=true):(execOp ρ { dst:=d,op:=.build 324 #[(0,x)],type:=ty,pos:=s,after:=af,guard:=g }).run Tryz.prog w=.ok (.value (.agg (cellsL (ρ x)++ [Value.bool false,Value.int .u32 0,Value.int .u32 0,Value.int .i64 0]).toArray)) w:=by
 obtain⟨u,hu⟩:∃u,cellsL (ρ x)=[u]:=List.length_eq_one_iff.1 (by simpa [lenC] using h)
 rw [exec_build1 bt_crp (i:=0) rfl (by decide) ρ d x ty s af g w h,hu]
 rfl
@[go_sem ↓] theorem bs_crp (h:lenC (ρ x) 5=true):(execOp ρ { dst:=d,op:=.buildSlice 319 1 #[(0,x)],type:=ty,pos:=s,after:=af,guard:=g }).run Tryz.prog w=.ok (.value (.slice (some ⟨w.heap.size,0,none⟩) 1 1)) (w.alloc (.cells (cellsL (ρ x)).toArray 324)):=by
 have:=exec_bslice (n:=5) Tryz.underlying319 (by kernel_rfl) ρ d 1 [x] #[(0,x)] ty s af g w (by simp [iparts]) rfl (by omega) (by omega) (by simp [h])
 simpa using this
end
def CrewNew (p:Nat) (c:Cfg) (me:Int) (w:World) (e:Ending) (w':World):Prop:=∃g bx ps,e=.returned (.pointer (some ⟨g,0,none⟩))∧Blk w' g 321 (crewV (.pointer (some ⟨bx,0,none⟩)) p c.N c.Sl.length (-1) (firstV c) ps).toArray∧Blk w' bx 402 (boxV p c.fr).toArray∧w.heap.size≤bx∧w.heap.size≤g∧Below w.heap.size w w'∧
 w'.ownsRow w.heap.size 324 5 ps (posts0 c.St me c.St.length).length (postsV (posts0 c.St me c.St.length))∧(posts0 c.St me c.St.length=[]→ps=.slice none 0 0)
structure CrI (c:Cfg) (me:Int) (w4 w5:World) (H:List Value) (k:Nat) (v:Value) (wr:World):Prop where
 own:wr.ownsRow w5.heap.size 324 5 v (posts0 c.St me k).length (postsV (posts0 c.St me k))
 b:Blk wr w4.heap.size 321 (H++ [v]).toArray
 nil:posts0 c.St me k=[]→v=.slice none 0 0
 c:Chg (· =w4.heap.size) w5 wr
theorem posts0_hit {St:List (Int×Int×Int)} {me:Int} {k:Nat} {x:Int×Int×Int} (hk:St[k]? =some x) (h:x.1=me):posts0 St me (k+1)=posts0 St me k++ [((k:Int),ac0)]:=by
 rw [posts0,if_pos (by simp [List.getD_eq_getElem?_getD,hk,h])]
theorem posts0_miss {St:List (Int×Int×Int)} {me:Int} {k:Nat} {x:Int×Int×Int} (hk:St[k]? =some x) (h:¬x.1=me):posts0 St me (k+1)=posts0 St me k:=by
 rw [posts0,if_neg (by simp [List.getD_eq_getElem?_getD,hk,h])]
section
variable {c:Cfg} {me:Int} {w4 w5 wr wm w1:World} {H:List Value} {k:Nat} {v:Value}
theorem CrI.below (h:CrI c me w4 w5 H k v wr) (hb:Below wr.heap.size wr w1):CrI c me w4 w5 H k v w1:=
 ⟨own_block h.own fun q hq=>hb.block q (h.own.lt q hq).2,h.b.below hb h.b.lt,h.nil,h.c.trans (Chg.of_below hb _)⟩
theorem CrI.push (h:CrI c me w4 w5 H k v wr) (h45:w4.heap.size<w5.heap.size) (hH:H.length=47) {x:Int×Int×Int} (hk:c.St[k]? =some x) (hme:x.1=me) (hm:Below wr.heap.size wr wm) {g cap:Nat}
 (ho:w1.ownsRow w5.heap.size 324 5 (.slice (some ⟨g,0,none⟩) ((posts0 c.St me k).length+1) cap) ((posts0 c.St me k).length+1) (postsV (posts0 c.St me k)++postV ((k:Int),ac0))) (hg:wm.grownBy w1 v.ownBlock) :
 w1.cell? ⟨w4.heap.size,47,none⟩=some v∧w1.frozen? ⟨w4.heap.size,47,none⟩=false∧CrI c me w4 w5 H (k+1) (.slice (some ⟨g,0,none⟩) ((posts0 c.St me k).length+1) cap) (w1.setCell ⟨w4.heap.size,47,none⟩ (.slice (some ⟨g,0,none⟩) ((posts0 c.St me k).length+1) cap)):=by
 have hlt:=h.b.lt
 have hms:=hm.size
 have hc5:=h.c.size
 have hk1:∀b,b<w5.heap.size→w1.heap[b]? =wr.heap[b]?:=fun b hb=>(hg.block b (by omega) (fun e=>by have:=(h.own.lt b e.symm).1;omega)).trans (hm.block b (by omega))
 have hb1:Blk w1 w4.heap.size 321 (H++ [v]).toArray:=(hk1 _ h45).trans h.b
 refine⟨(hb1.cell 47).trans (by simp [hH]),hb1.frozen 47,?_,?_,fun e=>by rw [posts0_hit hk hme] at e;simp at e,?_⟩
 ·rw [posts0_hit hk hme]
  have e1:postsV (posts0 c.St me k++ [((k:Int),ac0)])=postsV (posts0 c.St me k)++postV ((k:Int),ac0):=by simp [postsV]
  rw [e1,List.length_append,List.length_singleton]
  refine own_block ho fun q hq=> ?_
  have:=(ho.lt q hq).1
  exact Below.heap_setCell _ _ _ _ (by show q≠w4.heap.size;omega)
 ·have:=hb1.set_ 47 (.slice (some ⟨g,0,none⟩) ((posts0 c.St me k).length+1) cap)
  rwa [List.setIfInBounds_toArray,List.set_append_right _ _ (by omega),hH] at this
 ·have hc1:Chg (· =w4.heap.size) w5 w1:=⟨hg.os.trans (hm.os.trans h.c.os),hg.tape.trans (hm.tape.trans h.c.tape),hg.output.trans (hm.output.trans h.c.output),by have:=hg.size;omega,fun i hi hn=>(hk1 i hi).trans (h.c.block i hi hn)⟩
  exact hc1.set_at 47 _
end
set_option maxRecDepth 100000 in
set_option maxHeartbeats 2000000 in
theorem crewnew_any (S:Nat→Prop) (p:Nat) (A:CfA) (q:Nat) (c:Cfg) (me:Int) (w:World) (h:NetAt S w p A q c) (hok:RefOk c) (h0:0≤me) (h1:me<c.N):Calls Tryz.prog 84 #[.pointer (some ⟨p,0,none⟩),.int .i64 me] w (CrewNew p c me w):=by
 have HG:=Lib.hid (given_any S p A q c w h hok)
 have HB:Hid (∀w',Below w.heap.size w w'→Calls Tryz.prog 133 #[.pointer (some ⟨p,0,none⟩)] w' (BoxNew p c.fr w')):=Lib.hid fun w' hb=>newbox_any S p A q c w' (NetTab.at_ h hb) hok
 have HF:Hid (∀w',Below w.heap.size w w'→Calls Tryz.prog 134 #[.pointer (some ⟨p,0,none⟩)] w' (FirstP c w')):=Lib.hid fun w' hb=>first22_any S p A q c w' (NetTab.at_ h hb) hok
 have h0':¬me<0:=by omega
 have HTL:=Lib.hid hok.t
 clear h hok
 go_enter Tryz.func84,Tryz.ntmps84
 go_wp2_with fail
 (with_reducible refine HG.out.mono ?_)
 rintro e w1 ⟨A2,rfl,hc2,hb1⟩
 obtain⟨cv,hcv⟩:∃cv,Hid (cv=cfV A2 c):=⟨_,Lib.hid rfl⟩
 have hcl:cv.length=9:=by rw [hcv.out];rfl
 have hca:cv.all cell1=true:=by rw [hcv.out];rfl
 rw [←hcv.out]
 have HC2:=Lib.hid (And.intro hc2 hb1)
 have HW2:Hid (Below w1.heap.size w1 (w1.alloc (.cells cv.toArray 25))∧Blk (w1.alloc (.cells cv.toArray 25)) w1.heap.size 25 cv.toArray):=Lib.hid ⟨(Below.refl _ _).alloc (Nat.le_refl _) _,Blk.new _ _ _⟩
 clear hc2 hb1
 go_upto_region 2 with fail
 generalize w1.alloc (.cells cv.toArray 25)=w2 at HW2 ⊢
 have HB2:=Lib.hid (HC2.out.2.trans (HW2.out.1.mono HC2.out.2.size))
 have hcb:=HW2.out.2
 rw [hcv.out] at hcb
 obtain⟨c0,c1,c2,c3,c4,c5,c6,c7,c8⟩:=cfV_cells hcb
 have hw2:w1.heap.size<w2.heap.size:=HW2.out.2.lt
 obtain⟨N,hN⟩:∃N,Hid (N=c.N):=⟨_,Lib.hid rfl⟩
 rw [←hN.out] at c0
 have h1':¬N≤me:=by rw [hN.out];omega
 have hsl:=HC2.out.1.s.1
 have htl:=HC2.out.1.t.1
 have hrt:=HC2.out.1.t
 have hct:=HC2.out.1.cp.2.2.2
 obtain⟨pa,pn,pc,sa,sn,sc,ba,bn,bc,ta,tn,tc⟩:=A2
 replace htl:c.St.length=tn:=htl
 replace hct:tn≤tc∧tc≤maxLen:=hct
 have HRT:=Lib.hid (show RdSt _ w1 ta tn c.St from hrt)
 have htn8:tn≤8:=by have:=HTL.out;omega
 replace c2:w2.cell? ⟨w1.heap.size,2,none⟩=some (.slice sa sn sc):=c2
 replace c5:w2.cell? ⟨w1.heap.size,5,none⟩=some (.slice ta tn tc):=c5
 have HSN:Hid (c.Sl.length=sn):=Lib.hid hsl
 have FA:Hid (∀w',Below w2.heap.size w2 w'→w'.cell? ⟨w1.heap.size,0,none⟩=some (.int .i64 N)∧w'.cell? ⟨w1.heap.size,2,none⟩=some (.slice sa sn sc)∧w'.cell? ⟨w1.heap.size,5,none⟩=some (.slice ta tn tc)):=Lib.hid fun w' hb=>⟨(hb.cell (p:=⟨w1.heap.size,0,none⟩) hw2).trans c0,(hb.cell (p:=⟨w1.heap.size,2,none⟩) hw2).trans c2,(hb.cell (p:=⟨w1.heap.size,5,none⟩) hw2).trans c5⟩
 have HBX:Hid (∀w',Below w2.heap.size w2 w'→Calls Tryz.prog 133 #[.pointer (some ⟨p,0,none⟩)] w' (BoxNew p c.fr w')):=Lib.hid fun w' hb=>HB.out w' (HB2.out.trans (hb.mono HB2.out.size))
 have HFX:Hid (∀w',Below w2.heap.size w2 w'→Calls Tryz.prog 134 #[.pointer (some ⟨p,0,none⟩)] w' (FirstP c w')):=Lib.hid fun w' hb=>HF.out w' (HB2.out.trans (hb.mono HB2.out.size))
 have HTN:=Lib.hid htl
 clear c1 c3 c4 c6 c7 c8 hsl htl HG HB HF h1 hrt
 go_upto_region 4 with fail
 go_region_held3 (fun w'=>w'.cell? ⟨w1.heap.size,0,none⟩=some (.int .i64 N)∧w'.cell? ⟨w1.heap.size,2,none⟩=some (.slice sa sn sc)∧w'.cell? ⟨w1.heap.size,5,none⟩=some (.slice ta tn tc))
  (((with_reducible refine FA.out _ ?_);repeat' (with_reducible first | exact HX4.out.2 | exact HX3.out.2.2 | exact Below.refl _ _ | refine Below.drew ?_ | refine balN ?_ _)))
  ((first
    | (go_at_call 133;(with_reducible refine (HBX.out w2.drew (Below.refl _ _).drew).mono ?_);intro e w3 h3;obtain⟨bx,rfl,hx3⟩:=crew_a h3;have HX3:=Lib.hid hx3;clear h3 hx3)
    | (go_at_call 134;(with_reducible refine (HFX.out w3 HX3.out.2.2).mono ?_);intro e w4 h4;obtain⟨rfl,hx4⟩:=crew_b HX3.out h4;have HX4:=Lib.hid hx4;clear h4 hx4)))
 obtain⟨H,hH⟩:∃H:List Value,Hid (H=Value.pointer (some ⟨bx,0,none⟩) :: .pointer (some ⟨p,0,none⟩) :: .int .i64 N :: .int .i64 sn :: .int .i64 (-1) :: firstV c):=⟨_,Lib.hid rfl⟩
 have hHL:H.length=47:=by rw [hH.out];simp [firstV,firstK_len]
 have hcr:(Value.pointer (some ⟨bx,0,none⟩) :: .pointer (some ⟨p,0,none⟩) :: .int .i64 N :: .int .i64 sn :: .int .i64 (-1) :: (firstV c++ [Value.slice none 0 0]))=H++ [Value.slice none 0 0]:=by rw [hH.out];rfl
 rw [hcr]
 have HB4:=Lib.hid (HB2.out.trans (HX4.out.2.mono HB2.out.size))
 have hBn:Below w4.heap.size w4 (w4.alloc (.cells (H++ [Value.slice none 0 0]).toArray 321)):=(Below.refl _ _).alloc (Nat.le_refl _) _
 have hI0:CrI c me w4 (w4.alloc (.cells (H++ [Value.slice none 0 0]).toArray 321)) H 0 (.slice none 0 0) (w4.alloc (.cells (H++ [Value.slice none 0 0]).toArray 321)):=⟨⟨rfl,.inl ⟨rfl,rfl⟩⟩,Blk.new _ _ _,fun _=>rfl,Chg.refl _ _⟩
 obtain⟨i1,i2,i3⟩:=FA.out _ (balN HX4.out.2 (.cells (H++ [Value.slice none 0 0]).toArray 321))
 have h45:w4.heap.size<(w4.alloc (.cells (H++ [Value.slice none 0 0]).toArray 321)).heap.size:=(Blk.new w4 321 (H++ [Value.slice none 0 0]).toArray).lt
 generalize w4.alloc (.cells (H++ [Value.slice none 0 0]).toArray 321)=w5 at hBn hI0 i1 i2 i3 h45 ⊢
 have HI0:=Lib.hid hI0
 have HBn:=Lib.hid hBn
 have h14:w1.heap.size≤w4.heap.size:=by have:=HW2.out.1.size;have:=HX4.out.2.size;omega
 have HT5:Hid (∀w',Chg (· =w4.heap.size) w5 w'→RdSt (fun b=>b<w1.heap.size) w' ta tn c.St):=Lib.hid fun w' hc=>by
  have h5:=(((HRT.out.mono (S':=fun b=>b<w1.heap.size) fun b hb _=>hb).below HW2.out.1).below HX4.out.2).below HBn.out
  exact h5.keep hc.size fun b hb hl=>hc.block b hl (by show ¬b=w4.heap.size;omega)
 clear hI0 hBn hcr i1 i2
 go_wp2_with fail
 go_loopw [34] (fun i wr=> ∃k:Nat,∃v,k≤tn∧i=.int .i64 k∧Hid (CrI c me w4 w5 H k v wr)) (fun i _=>tn - (intOf i).toNat)
 case atStart=>exact⟨0,_,by omega,rfl,HI0⟩
 case round=>
  obtain⟨k,v,hk,rfl,HI⟩:=hrel
  by_cases hlt:k<tn
  ·obtain⟨b,off,s,rfl,hbS,hbl,hz,hrow,hrof⟩:=(HT5.out _ HI.out.c).row hlt
   have HZ:=Lib.hid hz
   obtain⟨s1,s2,s3⟩:=s
   replace hrof:rowOf wr ⟨b,off+k*3,none⟩ 3=[.int .i64 s1,.int .u32 s2,.int .i64 s3]:=hrof
   have hlt':(k:Int)<tn:=by omega
   have hk0:(0:Int)≤k:=by omega
   have hb2:=balN (Below.refl wr.heap.size wr) (.cells #[Value.int .i64 s1,.int .u32 s2,.int .i64 s3] 183)
   have hk2:=Blk.new wr 183 #[Value.int .i64 s1,.int .u32 s2,.int .i64 s3]
   have HI2:=Lib.hid (HI.out.below hb2)
   clear hz
   go_upto_region 8 with fail
   generalize wr.alloc (.cells #[Value.int .i64 s1,.int .u32 s2,.int .i64 s3] 183)=w6 at hb2 hk2 HI2 ⊢
   have d0:w6.cell? ⟨wr.heap.size,0,none⟩=some (.int .i64 s1):=hk2.cell 0
   have HB6:=Lib.hid hb2
   clear hb2 hk2
   by_cases hme:s1=me
   ·have g1:w6.cell? ⟨w4.heap.size,47,none⟩=some v:=(HI2.out.b.cell 47).trans (by simp [hHL])
    have hle:=posts0_le c.St me k
    have hsz:w5.heap.size≤(w6.alloc (.cells #[Value.int .i64 k,.bool false,.int .u32 0,.int .u32 0,.int .i64 0] 324)).heap.size:=by
     have:=HI2.out.c.size
     simp
     omega
    have HP:Hid (∀g cap w8,w8.ownsRow w5.heap.size 324 5 (.slice (some ⟨g,0,none⟩) ((posts0 c.St me k).length+1) cap) ((posts0 c.St me k).length+1) (postsV (posts0 c.St me k)++postV ((k:Int),ac0))→(w6.alloc (.cells #[Value.int .i64 k,.bool false,.int .u32 0,.int .u32 0,.int .i64 0] 324)).grownBy w8 v.ownBlock→w8.cell? ⟨w4.heap.size,47,none⟩=some v∧w8.frozen? ⟨w4.heap.size,47,none⟩=false∧CrI c me w4 w5 H (k+1) (.slice (some ⟨g,0,none⟩) ((posts0 c.St me k).length+1) cap) (w8.setCell ⟨w4.heap.size,47,none⟩ (.slice (some ⟨g,0,none⟩) ((posts0 c.St me k).length+1) cap))):=Lib.hid fun g cap w8 ho hg=>HI.out.push h45 hHL HZ.out hme (balN HB6.out _) ho hg
    have hle8:(posts0 c.St me k).length+1≤1000000000:=by omega
    go_wp2_with (at_builtin;refine wpList_lies app_crp (by rfl) (.tmp 47) (.tmp 50) (by rfl) w5.heap.size _ _ _ (by rfl) (HI2.out.own.alloc _) ⟨w6.heap.size,0,none⟩ 1 1 [Value.int .i64 k,.bool false,.int .u32 0,.int .u32 0,.int .i64 0] (by rfl) (by simp) (hasRow_new w6 _ _ 0 5 (by simp)) ((rowOf_new w6 _ _ 0 5 (by simp)).trans (List.take_of_length_le (by simp))) (by simp [cell1]) Nat.zero_lt_one hle8 hsz ?_;intro g cap w8 ho hg hl;obtain⟨z1,z2,z3⟩:=HP.out g cap w8 ho hg;have H8:=Lib.hid z3;clear ho hg hl z3 g1 d0)
    all_goals go_wp2_with fail
    all_goals exact⟨⟨k+1,_,by omega,by go_num,H8.out⟩,by simp [intOf];omega⟩
   ·have HM:Hid (CrI c me w4 w5 H (k+1) v w6):=Lib.hid (by
     have h1:=HI2.out.own
     have h2:=HI2.out.nil
     refine⟨?_,HI2.out.b,?_,HI2.out.c⟩ <;> rw [posts0_miss HZ.out hme]
     ·exact h1
     ·exact h2)
    go_wp2_with fail
    exact⟨⟨k+1,v,by omega,by go_num,HM.out⟩,by simp [intOf];omega⟩
  ·obtain rfl:k=tn:=by omega
   go_wp2_with fail
   go_ret
   have hI:=HI.out
   have hB5:=HB4.out.trans (HBn.out.mono HB4.out.size)
   have hsz4:=HB4.out.size
   have hbr:Below w.heap.size w wr:=hB5.trans (hI.c.below hB5.size fun k e=>by rw [e];exact hsz4)
   refine⟨w4.heap.size,bx,v,rfl,?_,?_,Nat.le_trans HB2.out.size HX4.out.1.2,hsz4,hbr,?_,?_⟩
   ·have:=hI.b
    rw [hH.out,hN.out,show ((sn:Nat):Int)=((c.Sl.length:Nat):Int) by rw [HSN.out]] at this
    exact this
   ·have h1:=HX4.out.1.1.below HBn.out HX4.out.1.1.lt
    exact (hI.c.block bx h1.lt (fun e=>absurd HX4.out.1.1.lt (by rw [e];exact Nat.lt_irrefl _))).trans h1
   ·have h1:=hI.own
    rw [HTN.out]
    exact⟨h1.1,h1.2.imp id fun ⟨g,cap,cur,e1,e2,e3⟩=>⟨g,cap,cur,e1,by omega,e3⟩⟩
   ·rw [HTN.out];exact hI.nil
def ViewP (v:List Value) (w:World) (e:Ending) (w':World):Prop:=e=.returned (.agg v.toArray)∧Below w.heap.size w w'
set_option maxRecDepth 100000 in
set_option maxHeartbeats 1000000 in
theorem crewview_any (g p:Nat) (bx ps:Value) (n s last:Int) (v:List Value) (hv:v.length=42) (hva:v.all cell1=true) (w:World) (h:Blk w g 321 (crewV bx p n s last v ps).toArray):Calls Tryz.prog 89 #[.pointer (some ⟨g,0,none⟩)] w (ViewP v w):=by
 have hB0:Below w.heap.size w (w.alloc (.cells viewZ.toArray 89)):=(Below.refl _ _).alloc (Nat.le_refl _) _
 have hk:=h.below hB0 h.lt
 have HT:Hid (Calls Tryz.prog 137 #[.pointer (some ⟨g,0,none⟩)] (w.alloc (.cells viewZ.toArray 89)) (thereP true (w.alloc (.cells viewZ.toArray 89)))):=Lib.hid (by
  have g1:(w.alloc (.cells viewZ.toArray 89)).cell? ⟨g,1,none⟩=some (.pointer (some ⟨p,0,none⟩)):=hk.cell 1
  clear hk hB0 h
  generalize w.alloc (.cells viewZ.toArray 89)=w0 at g1 ⊢
  go_enter Tryz.func137,Tryz.ntmps137
  go_wp2_with fail
  go_ret
  exact⟨rfl,rfl⟩)
 obtain⟨-,-,d3,d4,-⟩:=hk.rules
 have e1:hasRow (w.alloc (.cells viewZ.toArray 89)) ⟨g,5,none⟩ 42=true:=by rw [d3];simp [crewV,hv]
 have e2:rowOf (w.alloc (.cells viewZ.toArray 89)) ⟨g,5,none⟩ 42=v:=by
  rw [d4 5 42 (by simp [crewV,hv])]
  simp only [crewV,List.drop_succ_cons,List.drop_zero]
  exact List.take_left' hv
 have hz:=Blk.new w 89 viewZ.toArray
 obtain⟨-,-,r3⟩:=hz.whole len_viewZ
 obtain⟨p1,p2,-⟩:=(hz.put_all (l:=v) (by rw [hv];rfl)).whole hv
 have HE:Hid (ViewP v w (.returned (.agg v.toArray)) (putRow (w.alloc (.cells viewZ.toArray 89)) ⟨w.heap.size,0,none⟩ v)):=Lib.hid ⟨rfl,Below.put hB0 (Nat.le_refl _) _⟩
 have HP:=Lib.hid (And.intro p1 p2)
 clear p1 p2 hz hk hB0 d3 d4 h
 go_enter Tryz.func89,Tryz.ntmps89
 go_upto_region 1 with fail
 generalize w.alloc (.cells viewZ.toArray 89)=w0 at HT e1 e2 r3 HE HP ⊢
 go_wp2_with fail
 (with_reducible refine HT.out.mono ?_)
 rintro e w' ⟨rfl,rfl⟩
 go_wp2_with fail
 try simp only [Exit.inBlock,Exit.then]
 first | refine bodyPost_ret (ret_rowB (n:=42) rfl ag_view _ _ _ rfl ?_) rfl ?_ | refine bodyPost_end (ret_rowB (n:=42) rfl ag_view _ _ _ rfl ?_) rfl ?_
 ·exact HP.out.1
 ·rw [HP.out.2]
  exact HE.out
structure LkM where
 st:Int
 age:Int
 shows:Int
 sure:Bool
 run:Bool
 t:Int×Int×Int
 ahead:Int
 rep:List Value
 crew:List Value
 got:List Value
def lookV (k:LkM):List Value:=.int .u8 k.st :: .int .i64 k.age :: .int .i64 k.shows :: .bool k.sure :: .bool k.run :: .int .i64 k.t.1 :: .int .i64 k.t.2.1 :: .int .i64 k.t.2.2 :: .int .i64 k.ahead :: (k.rep++(k.crew++k.got))
def LkM.okL (k:LkM):Prop:=k.rep.length=6∧k.crew.length=42∧k.got.length=6
def lk0:LkM:=⟨0,0,0,false,false,(0,0,0),0,saidZ,viewZ,saidZ⟩
theorem lookV_len {k:LkM} (h:k.okL):(lookV k).length=63:=by obtain⟨h1,h2,h3⟩:=h;simp [lookV,h1,h2,h3]
def seenZ:List Value:=.int .i64 0 :: (saidZ++(viewZ++ [.slice none 0 0]))
theorem seenZ_len:seenZ.length=50:=rfl
def memV (a0 a1 a2 a3 a4 a5:Value) (seen:List Value) (told:Bool) (L:List Value):List Value:=a0 :: a1 :: a2 :: a3 :: a4 :: a5 :: (seen++(.bool told :: L))
theorem memV_len {a0 a1 a2 a3 a4 a5:Value} {seen L:List Value} {told:Bool} (h1:seen.length=50) (h2:L.length=63):(memV a0 a1 a2 a3 a4 a5 seen told L).length=120:=by simp [memV,h1,h2]
def nilP:Value:=.pointer none
def memZ:List Value:=memV nilP nilP nilP nilP nilP nilP seenZ false (lookV lk0)
def ndV (M:List Value) (p:Nat) (me:Int) (en pw:Value):List Value:=M++ [.pointer (some ⟨p,0,none⟩),.int .i64 me,en,pw]
theorem spl_app {M T l:List Value} {n k:Nat} (hM:M.length=n):spl (M++T) (n+k) l=M++spl T k l:=by
 subst hM
 simp only [spl]
 rw [List.take_append,List.take_of_length_le (by omega),List.drop_append,List.drop_eq_nil_of_le (by omega),List.nil_append,List.append_assoc,List.append_assoc,show M.length+k - M.length=k by omega,show M.length+k+l.length - M.length=k+l.length by omega,List.append_assoc]
theorem ag_mem:aggOf Tryz.prog 150 120=true:=by kernel_rfl
theorem ag_look:aggOf Tryz.prog 91 63=true:=by kernel_rfl
section
variable (ρ:Operand→Value) (d:Option Tmp) (x y z:Operand) (ty:TypeId) (s:String) (af:Array Edge) (g:Option (Nat×Bool)) (w:World)
@[go_sem ↓] theorem ld_mem (h:hasRowV w 120 (ρ x)=true) :
 (execOp ρ { dst:=d,op:=.load 150 x,type:=ty,pos:=s,after:=af,guard:=g }).run Tryz.prog w=.ok (.value (.agg (rowV w 120 (ρ x)).toArray)) w:=exec_load ag_mem ρ d x ty s af g w h
@[go_sem ↓] theorem st_mem (h1:okAgg 120 (ρ y)=true) (h2:canPutV w 120 (ρ x)=true) :
 (execOp ρ { dst:=d,op:=.store 150 x y,type:=ty,pos:=s,after:=af,guard:=g }).run Tryz.prog w=.ok .skip (putV w (ρ x) (ρ y)):=exec_store ag_mem ρ d x y ty s af g w h1 h2
@[go_sem ↓] theorem al_mem:(execOp ρ { dst:=d,op:=.alloc 150,type:=ty,pos:=s,after:=af,guard:=g }).run Tryz.prog w=.ok (.value (.pointer (some ⟨w.heap.size,0,none⟩))) (w.alloc (.cells memZ.toArray 150)):=exec_alloc (by unfold zeroIs;kernel_rfl) ρ d ty s af g w
@[go_sem ↓] theorem ld_look (h:hasRowV w 63 (ρ x)=true) :
 (execOp ρ { dst:=d,op:=.load 91 x,type:=ty,pos:=s,after:=af,guard:=g }).run Tryz.prog w=.ok (.value (.agg (rowV w 63 (ρ x)).toArray)) w:=exec_load ag_look ρ d x ty s af g w h
@[go_sem ↓] theorem st_look (h1:okAgg 63 (ρ y)=true) (h2:canPutV w 63 (ρ x)=true) :
 (execOp ρ { dst:=d,op:=.store 91 x y,type:=ty,pos:=s,after:=af,guard:=g }).run Tryz.prog w=.ok .skip (putV w (ρ x) (ρ y)):=exec_store ag_look ρ d x y ty s af g w h1 h2
@[go_sem ↓] theorem al_look:(execOp ρ { dst:=d,op:=.alloc 91,type:=ty,pos:=s,after:=af,guard:=g }).run Tryz.prog w=.ok (.value (.pointer (some ⟨w.heap.size,0,none⟩))) (w.alloc (.cells (lookV lk0).toArray 91)):=exec_alloc (by unfold zeroIs;kernel_rfl) ρ d ty s af g w
theorem bt_mem:buildT Tryz.prog 150 memZ [(0,1),(1,1),(2,1),(3,1),(4,1),(5,1),(6,50),(56,1),(57,63)]:=⟨by kernel_rfl,by kernel_rfl⟩
@[go_sem ↓] theorem bd_memN (h1:oneC (ρ x)=true) (h2:oneC (ρ y)=true) :
 (execOp ρ { dst:=d,op:=.build 150 #[(3,x),(5,y)],type:=ty,pos:=s,after:=af,guard:=g }).run Tryz.prog w=.ok (.value (.agg (memV nilP nilP nilP (ρ x) nilP (ρ y) seenZ false (lookV lk0)).toArray)) w:=by
 refine exec_build ρ d _ ty s af g w ?_
 simp only [List.map_toArray,List.map_cons,List.map_nil]
 have e1:=oneC_cells h1
 have e2:=oneC_cells h2
 have hl:memZ.length=120:=rfl
 rw [built_of bt_mem,fill_one _ _ 3 3 1 _ _ rfl (by rw [e1];rfl) (by omega),e1,fill_one _ _ 5 5 1 _ _ rfl (by rw [e2];rfl) (by rw [len_spl (by simp;omega)];omega),e2,fill_nil]
 rfl
theorem bt_look:buildT Tryz.prog 91 (lookV lk0) [(0,1),(1,1),(2,1),(3,1),(4,1),(5,3),(8,1),(9,6),(15,42),(57,6)]:=⟨by kernel_rfl,by kernel_rfl⟩
def lkN (a b:Int) (v:List Value):LkM:=⟨0,a,b,false,false,(0,0,0),0,saidZ,v,saidZ⟩
theorem lk_split:lookV lk0=[.int .u8 0,.int .i64 0,.int .i64 0,.bool false,.bool false,.int .i64 0,.int .i64 0,.int .i64 0,.int .i64 0,.bool false,.int .i64 0,.int .u8 0,.int .u8 0,.int .u32 0,.int .u32 0] ++(viewZ++saidZ):=rfl
def lookW (st a b:Value) (v:List Value):List Value:=st :: a :: b :: .bool false :: .bool false :: .int .i64 0 :: .int .i64 0 :: .int .i64 0 :: .int .i64 0 :: (saidZ++(v++saidZ))
theorem lookW_eq (a b:Int) (v:List Value):lookW (.int .u8 0) (.int .i64 a) (.int .i64 b) v=lookV (lkN a b v):=rfl
@[go_sem ↓] theorem bd_look3 (k1 k2:Value) (h1:oneC (ρ (.const k1))=true) (h2:oneC (ρ (.const k2))=true) (h:aggC (ρ x) 42=true) :
 (execOp ρ { dst:=d,op:=.build 91 #[(1,.const k1),(2,.const k2),(8,x)],type:=ty,pos:=s,after:=af,guard:=g }).run Tryz.prog w=.ok (.value (.agg (lookW (.int .u8 0) (ρ (.const k1)) (ρ (.const k2)) (viewC (ρ x))).toArray)) w:=by
 obtain⟨l,hl,hl2⟩:∃l:List Value,ρ x=.agg l.toArray∧l.length=42:=by
  cases h':ρ x with
  | agg cs=>exact⟨cs.toList,by simp,by simpa [aggC,h'] using h⟩
  | _=>simp [aggC,h'] at h
 refine exec_build ρ d _ ty s af g w ?_
 simp only [List.map_toArray,List.map_cons,List.map_nil,hl,viewC_agg]
 have e1:=oneC_cells h1
 have e2:=oneC_cells h2
 have e3:cellsL (.agg l.toArray)=l:=cellsL_agg l
 rw [built_of bt_look,lk_split,fill_one _ _ 1 1 1 _ _ rfl (by rw [e1];rfl) (by simp [len_viewZ,saidZ]),e1,fill_one _ _ 2 2 1 _ _ rfl (by rw [e2];rfl) (by simp [spl,len_viewZ,saidZ]),e2,
  fill_one _ _ 8 15 42 _ _ rfl (by rw [e3,hl2]) (by simp [spl,len_viewZ,saidZ]),e3,fill_nil]
 congr 2
 simp [spl,hl2,lookW,List.drop_append,len_viewZ,saidZ]
end
theorem bt_node:buildT Tryz.prog 153 (memZ++ [nilP,.int .i64 0,.slice none 0 0,nilP]) [(0,120),(120,1),(121,1),(122,1),(123,1)]:=⟨by kernel_rfl,by kernel_rfl⟩
@[go_sem ↓] theorem bd_node (ρ:Operand→Value) (d:Option Tmp) (x y z:Operand) (ty:TypeId) (s:String) (af:Array Edge) (g:Option (Nat×Bool)) (w:World) (h1:oneC (ρ x)=true) (h2:oneC (ρ y)=true) (h3:lenC (ρ z) 1=true) :
 (execOp ρ { dst:=d,op:=.build 153 #[(1,x),(2,y),(3,z)],type:=ty,pos:=s,after:=af,guard:=g }).run Tryz.prog w=.ok (.value (.agg (memZ++(ρ x :: ρ y :: (cellsL (ρ z)++ [nilP]))).toArray)) w:=by
 refine exec_build ρ d _ ty s af g w ?_
 simp only [List.map_toArray,List.map_cons,List.map_nil]
 have e1:=oneC_cells h1
 have e2:=oneC_cells h2
 have hl:memZ.length=120:=rfl
 obtain⟨u,hu⟩:∃u,cellsL (ρ z)=[u]:=List.length_eq_one_iff.1 (by simpa [lenC] using h3)
 rw [built_of bt_node,fill_one _ _ 1 120 1 _ _ rfl (by rw [e1];rfl) (by simp [hl]),e1,show (120:Nat)=120+0 from rfl,spl_app hl,
  fill_one _ _ 2 121 1 _ _ rfl (by rw [e2];rfl) (by simp [spl,hl]),e2,show (121:Nat)=120+1 from rfl,spl_app hl,
  fill_one _ _ 3 122 1 _ _ rfl (by rw [hu];rfl) (by simp [spl,hl]),hu,show (122:Nat)=120+2 from rfl,spl_app hl,fill_nil]
 simp [spl]
end Go.Proofs.YtdilbjikeilhbaaGreatDoor
