import Derived.Test.YtdilbjikeilhbaaGreatDoorGn33
import Derived.Test.YtdilbjikeilhbaaGreatDoorGn36
namespace Go.Proofs.YtdilbjikeilhbaaGreatDoor
open Go.RowKit
set_option linter.unusedVariables false
set_option linter.unusedSimpArgs false
set_option maxRecDepth 100000
def enV (x:Int×List Value):List Value:=.int .i64 x.1 :: x.2
def EnT (X:List (Int×List Value)):Prop:=∀x ∈ X,x.2.length=6∧x.2.all cell1=true
def RdE (S:Nat→Prop) (w:World) (a:Option Addr) (n:Nat) (X:List (Int×List Value)):Prop:=EnT X∧RdF S w a n 7 (X.map enV)
def ownE (z:Int) (X:List (Int×List Value)):List (List Value):=(X.filter fun x=>decide (x.1=z)).map (·.2)
def EntOk (N:Int) (X:List (Int×List Value)):Prop:=(∀x ∈ X,0≤x.1∧x.1<N)∧∀z,0≤z→z<N→(ownE z X).length≤64
def NetE (c:Cfg) (X:List (Int×List Value)) (nd lk:Int) (m:Nat) (k:Int):Prop:=
 (firstE (cfE c)≠0→k=firstE (cfE c))∧(firstE (cfE c)=0→¬EntOk c.N X→k=1)∧(firstE (cfE c)=0→EntOk c.N X→¬fOk c.N nd lk m→k=1)∧(firstE (cfE c)=0→EntOk c.N X→fOk c.N nd lk m→k=0)
theorem NetE.one {c:Cfg} {X:List (Int×List Value)} {nd lk:Int} {m:Nat} {k k':Int} (h:NetE c X nd lk m k) (h':NetE c X nd lk m k'):k=k':=by
 obtain⟨h1,h2,h3,h4⟩:=h
 obtain⟨g1,g2,g3,g4⟩:=h'
 by_cases a:firstE (cfE c)=0
 ·by_cases b:EntOk c.N X
  ·by_cases d:fOk c.N nd lk m
   ·rw [h4 a b d,g4 a b d]
   ·rw [h3 a b d,g3 a b d]
  ·rw [h2 a b,g2 a b]
 ·rw [h1 a,g1 a]
theorem RdE.row {S:Nat→Prop} {w:World} {a:Option Addr} {n:Nat} {X:List (Int×List Value)} (h:RdE S w a n X) {k:Nat} (hk:k<n):∃b off z e,a=some ⟨b,off,none⟩∧S b∧b<w.heap.size∧X[k]? =some (z,e)∧e.length=6∧e.all cell1=true∧w.cell? ⟨b,off+k*7,none⟩=some (.int .i64 z)∧hasRow w ⟨b,off+k*7,none⟩ 7=true∧rowOf w ⟨b,off+k*7,none⟩ 7=.int .i64 z :: e∧hasRow w ⟨b,off+k*7+1,none⟩ 6=true∧rowOf w ⟨b,off+k*7+1,none⟩ 6=e:=by
 obtain⟨ht,h1,h2,h3⟩:=h
 rw [List.length_map] at h1
 obtain⟨⟨z,e⟩,hx⟩:∃x,X[k]? =some x:=⟨_,List.getElem?_eq_getElem (by omega)⟩
 obtain⟨b,off,e1,hS,hb,r1,r2⟩:=h3 k (enV (z,e)) (by rw [List.getElem?_map,hx];rfl)
 obtain⟨t1,t2⟩:=ht _ (List.mem_of_getElem? hx)
 have e0:=rowOf_at r1 0 (by omega)
 rw [r2] at e0
 obtain⟨r3,r4⟩:=row_part r1 r2 1 6 (by omega)
 refine⟨b,off,z,e,e1,hS,hb,hx,t1,t2,?_,r1,r2,r3,?_⟩
 ·simpa [add_at,enV] using e0
 ·rw [r4]
  show (e.take 6)=e
  exact List.take_of_length_le (by have:e.length=6:=t1;omega)
theorem RdE.below {S:Nat→Prop} {w w':World} {a:Option Addr} {n:Nat} {X:List (Int×List Value)} (h:RdE S w a n X) (hb:Below w.heap.size w w'):RdE S w' a n X:=⟨h.1,h.2.below hb⟩
theorem ownE_hit {z:Int} {X:List (Int×List Value)} {k:Nat} {e:List Value} (h:X[k]? =some (z,e)):ownE z (X.take (k+1))=ownE z (X.take k)++ [e]:=by
 rw [List.take_add_one,h,Option.toList_some];simp [ownE]
theorem ownE_miss {z y:Int} {X:List (Int×List Value)} {k:Nat} {e:List Value} (h:X[k]? =some (y,e)) (hn:¬y=z):ownE z (X.take (k+1))=ownE z (X.take k):=by
 rw [List.take_add_one,h,Option.toList_some];simp [ownE,hn]
theorem ownE_le (z:Int) (X:List (Int×List Value)):(ownE z X).length≤X.length:=by
 simp only [ownE,List.length_map];exact List.length_filter_le _ _
theorem ownE_flat {z:Int} {X:List (Int×List Value)} (h:EnT X):FlatL 6 (ownE z X):=fun r hr=>by
 simp only [ownE,List.mem_map,List.mem_filter] at hr
 obtain⟨x,⟨hx,-⟩,rfl⟩:=hr
 exact h x hx
theorem EnT.take {X:List (Int×List Value)} (h:EnT X) (k:Nat):EnT (X.take k):=fun x hx=>h x (List.mem_of_mem_take hx)
theorem cell1_cells {v:Value} (h:cell1 v=true):cellsL v=[v]:=by cases v <;> first | rfl | simp [cell1] at h
def stpV (cv:List Value) (ea:Option Addr) (en ec:Nat) (nd lk:Int) (sa:Option Addr) (sn sc:Nat):List Value:=cv++ [.slice ea en ec,.int .i64 nd,.int .i64 lk,.slice sa sn sc]
theorem ag_nen:aggOf Tryz.prog 101 7=true:=by kernel_rfl
theorem ag_payR:aggOf Tryz.prog 80 4=true:=by kernel_rfl
theorem bt_ren:buildT Tryz.prog 110 [.int .i64 0,.int .i64 0,.int .u8 0,.int .u8 0,.int .u32 0,.int .u32 0] [(0,1),(1,1),(2,4)]:=⟨by kernel_rfl,by kernel_rfl⟩
theorem bt_ren7:buildT Tryz.prog 112 [.int .i64 0,.int .i64 0,.int .i64 0,.int .u8 0,.int .u8 0,.int .u32 0,.int .u32 0] [(0,1),(1,6)]:=⟨by kernel_rfl,by kernel_rfl⟩
theorem app_ren7:AppOk Tryz.prog 41 112 7:=appOk_of Tryz.underlying41 (by kernel_rfl)
section
variable (ρ:Operand→Value) (d:Option Tmp) (x y z:Operand) (ty:TypeId) (s:String) (af:Array Edge) (g:Option (Nat×Bool)) (w:World)
@[go_sem ↓] theorem ld_nen (h:hasRowV w 7 (ρ x)=true):(execOp ρ { dst:=d,op:=.load 101 x,type:=ty,pos:=s,after:=af,guard:=g }).run Tryz.prog w=.ok (.value (.agg (rowV w 7 (ρ x)).toArray)) w:=exec_load ag_nen ρ d x ty s af g w h
@[go_sem ↓] theorem st_nen (h1:okAgg 7 (ρ y)=true) (h2:canPutV w 7 (ρ x)=true):(execOp ρ { dst:=d,op:=.store 101 x y,type:=ty,pos:=s,after:=af,guard:=g }).run Tryz.prog w=.ok .skip (putV w (ρ x) (ρ y)):=exec_store ag_nen ρ d x y ty s af g w h1 h2
@[go_sem ↓] theorem al_nen:(execOp ρ { dst:=d,op:=.alloc 101,type:=ty,pos:=s,after:=af,guard:=g }).run Tryz.prog w=.ok (.value (.pointer (some ⟨w.heap.size,0,none⟩))) (w.alloc (.cells #[Value.int .i64 0,Value.int .i64 0,Value.int .i64 0,Value.int .u8 0,Value.int .u8 0,Value.int .u32 0,Value.int .u32 0] 101)):=exec_alloc (by unfold zeroIs;kernel_rfl) ρ d ty s af g w
@[go_sem ↓] theorem ld_payR (h:hasRowV w 4 (ρ x)=true):(execOp ρ { dst:=d,op:=.load 80 x,type:=ty,pos:=s,after:=af,guard:=g }).run Tryz.prog w=.ok (.value (.agg (rowV w 4 (ρ x)).toArray)) w:=exec_load ag_payR ρ d x ty s af g w h
@[go_sem ↓] theorem bd_ren (h0:lenC (ρ x) 1=true) (h1:lenC (ρ y) 1=true) (h2:lenC (ρ z) 4=true):(execOp ρ { dst:=d,op:=.build 110 #[(0,x),(1,y),(2,z)],type:=ty,pos:=s,after:=af,guard:=g }).run Tryz.prog w=.ok (.value (.agg (cellsL (ρ x)++(cellsL (ρ y)++cellsL (ρ z))).toArray)) w:=exec_build3 bt_ren rfl rfl rfl rfl ρ d x y z ty s af g w h0 h1 h2
@[go_sem ↓] theorem bd_ren7 (h0:lenC (ρ x) 1=true) (h1:lenC (ρ y) 6=true):(execOp ρ { dst:=d,op:=.build 112 #[(0,x),(1,y)],type:=ty,pos:=s,after:=af,guard:=g }).run Tryz.prog w=.ok (.value (.agg (cellsL (ρ x)++cellsL (ρ y)).toArray)) w:=exec_build2 bt_ren7 rfl rfl rfl ρ d x y ty s af g w h0 h1
@[go_sem ↓] theorem bs_ren7 (h:lenC (ρ x) 7=true):(execOp ρ { dst:=d,op:=.buildSlice 41 1 #[(0,x)],type:=ty,pos:=s,after:=af,guard:=g }).run Tryz.prog w=.ok (.value (.slice (some ⟨w.heap.size,0,none⟩) 1 1)) (w.alloc (.cells (cellsL (ρ x)).toArray 112)):=by
 have:=exec_bslice (n:=7) Tryz.underlying41 (by kernel_rfl) ρ d 1 [x] #[(0,x)] ty s af g w (by simp [iparts]) rfl (by omega) (by omega) (by simp [h])
 simpa using this
end
theorem six {e:List Value} (h:e.length=6):∃e0 e1 e2 e3 e4 e5,e=[e0,e1,e2,e3,e4,e5]:=by
 match e,h with
 | [e0,e1,e2,e3,e4,e5],_=>exact⟨e0,e1,e2,e3,e4,e5,rfl⟩
theorem enT_flat {X:List (Int×List Value)} (h:EnT X):FlatL 7 (X.map enV):=fun r hr=>by
 obtain⟨x,hx,rfl⟩:=List.mem_map.1 hr
 obtain⟨h1,h2⟩:=h x hx
 exact⟨by simp [enV,h1],by simp only [enV,List.all_cons,h2];rfl⟩
def EntP (X:List (Int×List Value)) (w:World) (e:Ending) (w':World):Prop:=∃(a:Option Addr) (cap:Nat),e=.returned (.slice a X.length cap)∧RdE (w.heap.size≤·) w' a X.length X∧Below w.heap.size w w'
set_option maxHeartbeats 2000000 in
theorem entries_any (cv:List Value) (hcv:cv.length=9) (R:Nat→Prop) (ea:Option Addr) (en ec:Nat) (nd lk:Int) (sa:Option Addr) (sn sc:Nat) (X:List (Int×List Value)) (w:World) (hX:RdE R w ea en X) (hen:en≤200) :
 Calls Tryz.prog 9 #[.agg (stpV cv ea en ec nd lk sa sn sc).toArray] w (EntP X w):=by
 have HX:=Lib.hid hX
 have HXL:Hid (X.length=en):=Lib.hid (by have:=hX.2.1;simpa using this)
 obtain⟨sv,hsv⟩:∃sv,Hid (sv=stpV cv ea en ec nd lk sa sn sc):=⟨_,Lib.hid rfl⟩
 rw [←hsv.out]
 have hb:=balP (Below.refl w.heap.size w) (.cells sv.toArray 31)
 have k0:=Blk.new w 31 sv.toArray
 have HB:=Lib.hid (And.intro hb k0)
 clear hb k0 hX
 go_enter Tryz.func9,Tryz.ntmps9
 go_upto_region 1 with fail
 generalize w.alloc (.cells sv.toArray 31)=w0 at HB ⊢
 have HC9:Hid (∀w',Below w0.heap.size w0 w'→w'.cell? ⟨w.heap.size,9,none⟩=some (.slice ea en ec)):=Lib.hid fun w' hb=>by
  rw [(HB.out.2.below hb HB.out.2.lt).cell,hsv.out]
  simp [stpV,hcv]
 go_wp2_with fail
 go_loopw [4,3] (fun i v wr=> ∃k:Nat,∃u,k≤en∧i=.int .i64 k∧v=u∧Hid (wr.ownsRow w0.heap.size 112 7 u k ((X.take k).map enV).flatten∧Below w0.heap.size w0 wr)) (fun i _ _=>en - (intOf i).toNat)
 case atStart=>exact⟨0,_,by omega,rfl,rfl,Lib.hid ⟨⟨by simp,.inl ⟨rfl,rfl⟩⟩,Below.refl _ _⟩⟩
 case round=>
  obtain⟨k,u3,hk,rfl,rfl,HK⟩:=hrel
  have c9:=HC9.out wr HK.out.2
  by_cases hlt:k<en
  ·obtain⟨b,off,z,e,rfl,-,hbl,hx,he1,he2,-,hr1,hr2,-⟩:=(HX.out.below (HB.out.1.trans (HK.out.2.mono HB.out.1.size))).row hlt
   have hlt':(k:Int)<en:=by omega
   have hk0:(0:Int)≤k:=by omega
   have HZ:=Lib.hid hx
   obtain⟨e0,e1,e2,e3,e4,e5,rfl⟩:=six he1
   simp only [List.all_cons,List.all_nil,Bool.and_true,Bool.and_eq_true] at he2
   obtain⟨d0,d1,d2,d3,d4,d5⟩:=he2
   have q0:=cell1_cells d0
   have q1:=cell1_cells d1
   have l0:lenC e0 1=true:=by simp [lenC,q0]
   have l1:lenC e1 1=true:=by simp [lenC,q1]
   have HD:=Lib.hid (And.intro d0 (And.intro d1 (And.intro d2 (And.intro d3 (And.intro d4 d5)))))
   have hb2:=balP (Below.refl wr.heap.size wr) (.cells #[Value.int .i64 z,e0,e1,e2,e3,e4,e5] 101)
   have k2:=Blk.new wr 101 [Value.int .i64 z,e0,e1,e2,e3,e4,e5].toArray
   go_upto_region 6 with fail
   generalize wr.alloc (.cells #[Value.int .i64 z,e0,e1,e2,e3,e4,e5] 101)=w2 at hb2 k2 ⊢
   have g0:w2.cell? ⟨wr.heap.size,0,none⟩=some (.int .i64 z):=k2.cell 0
   have g1:w2.cell? ⟨wr.heap.size,1,none⟩=some e0:=k2.cell 1
   have g2:w2.cell? ⟨wr.heap.size,2,none⟩=some e1:=k2.cell 2
   obtain⟨r1,r2,-⟩:=k2.whole (n:=7) rfl
   obtain⟨r3,r4⟩:=row_part r1 r2 3 4 (by omega)
   replace r3:hasRow w2 ⟨wr.heap.size,3,none⟩ 4=true:=by simpa using r3
   replace r4:rowOf w2 ⟨wr.heap.size,3,none⟩ 4=[e2,e3,e4,e5]:=by simpa using r4
   have HO2:Hid (w2.ownsRow w0.heap.size 112 7 u3 k ((X.take k).map enV).flatten∧Below w0.heap.size w0 w2):=Lib.hid ⟨own_block HK.out.1 fun q hq=>hb2.block q (HK.out.1.lt q hq).2,HK.out.2.trans (hb2.mono HK.out.2.size)⟩
   have hle:k+1≤1000000000:=by omega
   have hsz:w0.heap.size≤(w2.alloc (.cells #[Value.int .i64 z,e0,e1,e2,e3,e4,e5] 112)).heap.size:=by
    have:=HO2.out.2.size
    simp;omega
   have ha1:[Value.int .i64 z,e0,e1,e2,e3,e4,e5].all cell1=true:=by simp only [List.all_cons,List.all_nil,d0,d1,d2,d3,d4,d5];rfl
   have HN:Hid (∀g cap w8,w8.ownsRow w0.heap.size 112 7 (.slice (some ⟨g,0,none⟩) (k+1) cap) (k+1) (((X.take k).map enV).flatten++ [Value.int .i64 z,e0,e1,e2,e3,e4,e5])→(w2.alloc (.cells #[Value.int .i64 z,e0,e1,e2,e3,e4,e5] 112)).grownBy w8 u3.ownBlock→w8.ownsRow w0.heap.size 112 7 (.slice (some ⟨g,0,none⟩) (k+1) cap) (k+1) ((X.take (k+1)).map enV).flatten∧Below w0.heap.size w0 w8):=Lib.hid fun g cap w8 ho hg=>by
    rw [List.take_add_one,HZ.out,Option.toList_some,List.map_append,List.flatten_append]
    exact⟨by simpa [enV] using ho,(balN2 HO2.out.2 _).grown hg hsz fun q hq=>(HO2.out.1.lt q hq).1⟩
   clear hb2 k2 hr1 hr2 c9 hx r1 r2
   go_wp2_with (at_builtin;refine wpList_lies app_ren7 (by rfl) (.tmp 18) (.tmp 32) (by rfl) w0.heap.size _ _ _ (by rfl) (HO2.out.1.alloc _) ⟨w2.heap.size,0,none⟩ 1 1 [Value.int .i64 z,e0,e1,e2,e3,e4,e5] (by rfl) (by simp) (hasRow_new w2 _ _ 0 7 (by simp)) ((rowOf_new w2 _ _ 0 7 (by simp)).trans (List.take_of_length_le (by simp))) ha1 Nat.zero_lt_one hle hsz ?_;intro g cap w8 ho hg hl;have H8:=Lib.hid (HN.out g cap w8 ho hg);clear ho hg hl)
   all_goals exact⟨⟨k+1,_,by omega,by go_num,rfl,H8⟩,by simp [intOf];omega⟩
  ·obtain rfl:en=k:=by omega
   have hlt':¬(en:Int)<en:=by omega
   have hK:=HK.out
   rw [List.take_of_length_le (by rw [HXL.out];exact Nat.le_refl _)] at hK
   obtain⟨a,cap,rfl,h1,-,-⟩:=own_rdf (enT_flat HX.out.1) (by rw [List.length_map];exact HXL.out) hK.1
   have HE:Hid (EntP X w (.returned (.slice a en cap)) wr):=Lib.hid ⟨a,cap,by rw [HXL.out],⟨HX.out.1,by rw [HXL.out];exact h1.mono fun b _ hb=>Nat.le_trans HB.out.1.size hb⟩,HB.out.1.trans (hK.2.mono HB.out.1.size)⟩
   clear hK h1
   go_wp2_with fail
   go_ret
   exact HE.out
theorem app_rsp:AppOk Tryz.prog 43 129 5:=appOk_of Tryz.underlying43 (by kernel_rfl)
theorem ag_spN:aggOf Tryz.prog 127 5=true:=by kernel_rfl
section
variable (ρ:Operand→Value) (d:Option Tmp) (x y z:Operand) (ty:TypeId) (s:String) (af:Array Edge) (g:Option (Nat×Bool)) (w:World)
@[go_sem ↓] theorem ld_spN (h:hasRowV w 5 (ρ x)=true):(execOp ρ { dst:=d,op:=.load 127 x,type:=ty,pos:=s,after:=af,guard:=g }).run Tryz.prog w=.ok (.value (.agg (rowV w 5 (ρ x)).toArray)) w:=exec_load ag_spN ρ d x ty s af g w h
@[go_sem ↓] theorem st_spN (h1:okAgg 5 (ρ y)=true) (h2:canPutV w 5 (ρ x)=true):(execOp ρ { dst:=d,op:=.store 127 x y,type:=ty,pos:=s,after:=af,guard:=g }).run Tryz.prog w=.ok .skip (putV w (ρ x) (ρ y)):=exec_store ag_spN ρ d x y ty s af g w h1 h2
@[go_sem ↓] theorem al_spN:(execOp ρ { dst:=d,op:=.alloc 127,type:=ty,pos:=s,after:=af,guard:=g }).run Tryz.prog w=.ok (.value (.pointer (some ⟨w.heap.size,0,none⟩))) (w.alloc (.cells #[Value.int .i64 0,Value.int .i64 0,Value.int .u8 0,Value.int .u8 0,Value.int .u64 0] 127)):=exec_alloc (z:=[Value.int .i64 0,Value.int .i64 0,Value.int .u8 0,Value.int .u8 0,Value.int .u64 0]) (by unfold zeroIs;kernel_rfl) ρ d ty s af g w
@[go_sem ↓] theorem bs_rsp (h:lenC (ρ x) 5=true):(execOp ρ { dst:=d,op:=.buildSlice 43 1 #[(0,x)],type:=ty,pos:=s,after:=af,guard:=g }).run Tryz.prog w=.ok (.value (.slice (some ⟨w.heap.size,0,none⟩) 1 1)) (w.alloc (.cells (cellsL (ρ x)).toArray 129)):=by
 have:=exec_bslice (n:=5) Tryz.underlying43 (by kernel_rfl) ρ d 1 [x] #[(0,x)] ty s af g w (by simp [iparts]) rfl (by omega) (by omega) (by simp [h])
 simpa using this
end
def SpT (L:List (List Value)):Prop:=∀r ∈ L,∃a b c d e:Int,r=[.int .i64 a,.int .i64 b,.int .u8 c,.int .u8 d,.int .u64 e]∧0≤d∧d≤255
def OthP (nd lk:Int) (sn:Nat) (w:World) (e:Ending) (w':World):Prop:=∃(sp:Option Addr) (cp:Nat),e=.returned (.agg #[.int .i64 nd,.int .i64 lk,.slice sp sn cp])∧Below w.heap.size w w'
structure OtI (w3:World) (nb k:Nat) (nd lk:Int) (v:Value) (wr:World):Prop where
 own:∃xs,wr.ownsRow w3.heap.size 129 5 v k xs
 b:Blk wr nb 45 [Value.int .i64 nd,.int .i64 lk,v].toArray
 c:Chg (· =nb) w3 wr
section
variable {w3 wr wm w1:World} {nb k:Nat} {nd lk:Int} {v:Value}
theorem OtI.below (h:OtI w3 nb k nd lk v wr) (hb:Below wr.heap.size wr w1):OtI w3 nb k nd lk v w1:=by
 obtain⟨⟨vs,h1⟩,h2,h3⟩:=h
 exact⟨⟨vs,own_block h1 fun q hq=>hb.block q (h1.lt q hq).2⟩,h2.below hb h2.lt,h3.trans (Chg.of_below hb _)⟩
theorem OtI.push (h:OtI w3 nb k nd lk v wr) (h3:nb<w3.heap.size) (hm:Below wr.heap.size wr wm) {g cap:Nat} {xs:List Value}
 (ho:w1.ownsRow w3.heap.size 129 5 (.slice (some ⟨g,0,none⟩) (k+1) cap) (k+1) xs) (hg:wm.grownBy w1 v.ownBlock) :
 w1.cell? ⟨nb,2,none⟩=some v∧w1.frozen? ⟨nb,2,none⟩=false∧OtI w3 nb (k+1) nd lk (.slice (some ⟨g,0,none⟩) (k+1) cap) (w1.setCell ⟨nb,2,none⟩ (.slice (some ⟨g,0,none⟩) (k+1) cap)):=by
 obtain⟨⟨vs,h1⟩,h2,h5⟩:=h
 have hms:=hm.size
 have hc5:=h5.size
 have hk1:∀b,b<w3.heap.size→w1.heap[b]? =wr.heap[b]?:=fun b hb=>(hg.block b (by omega) (fun e=>by have:=(h1.lt b e.symm).1;omega)).trans (hm.block b (by omega))
 have hb1:Blk w1 nb 45 [Value.int .i64 nd,.int .i64 lk,v].toArray:=(hk1 _ h3).trans h2
 refine⟨hb1.cell 2,hb1.frozen 2,⟨xs,own_block ho fun q hq=> ?_⟩,?_,?_⟩
 ·have:=(ho.lt q hq).1
  exact Below.heap_setCell _ _ _ _ (by show q≠nb;omega)
 ·simpa using hb1.set_ 2 (.slice (some ⟨g,0,none⟩) (k+1) cap)
 ·have hc1:Chg (· =nb) w3 w1:=⟨hg.os.trans (hm.os.trans h5.os),hg.tape.trans (hm.tape.trans h5.tape),hg.output.trans (hm.output.trans h5.output),by have:=hg.size;omega,fun i hi hn=>(hk1 i hi).trans (h5.block i hi hn)⟩
  exact hc1.set_at 2 _
end
set_option maxHeartbeats 2000000 in
theorem other29_any (R:Nat→Prop) (nd lk:Int) (sa:Option Addr) (sn sc:Nat) (L:List (List Value)) (w:World) (hL:RdF R w sa sn 5 L) (ht:SpT L) (hsn:sn≤100) :
 Calls Tryz.prog 10 #[.agg #[.int .i64 nd,.int .i64 lk,.slice sa sn sc]] w (OthP nd lk sn w):=by
 have HL:=Lib.hid hL
 have HT:=Lib.hid ht
 have HLl:Hid (L.length=sn):=Lib.hid hL.1
 have hb:=balP (Below.refl w.heap.size w) (.cells #[.int .i64 nd,.int .i64 lk,.slice sa sn sc] 29)
 have hb2:=balP hb (.cells #[.int .i64 0,.int .i64 0,.slice none 0 0] 45)
 have hb3:=balP hb2 (.cells #[.int .i64 nd,.int .i64 lk,.slice none 0 0] 45)
 go_enter Tryz.func10,Tryz.ntmps10
 go_upto_region 2 with fail
 have k0:=((Blk.new w 29 [Value.int .i64 nd,.int .i64 lk,.slice sa sn sc].toArray).alloc (.cells #[.int .i64 0,.int .i64 0,.slice none 0 0] 45)).alloc (.cells #[.int .i64 nd,.int .i64 lk,.slice none 0 0] 45)
 have k1:=(Blk.new (w.alloc (.cells #[.int .i64 nd,.int .i64 lk,.slice sa sn sc] 29)) 45 [Value.int .i64 0,.int .i64 0,.slice none 0 0].toArray).alloc (.cells #[.int .i64 nd,.int .i64 lk,.slice none 0 0] 45)
 have k2:=Blk.new ((w.alloc (.cells #[.int .i64 nd,.int .i64 lk,.slice sa sn sc] 29)).alloc (.cells #[.int .i64 0,.int .i64 0,.slice none 0 0] 45)) 45 [Value.int .i64 nd,.int .i64 lk,.slice none 0 0].toArray
 have e1:(w.alloc (.cells #[.int .i64 nd,.int .i64 lk,.slice sa sn sc] 29)).heap.size=w.heap.size+1:=by simp
 have e2:((w.alloc (.cells #[.int .i64 nd,.int .i64 lk,.slice sa sn sc] 29)).alloc (.cells #[.int .i64 0,.int .i64 0,.slice none 0 0] 45)).heap.size=w.heap.size+1+1:=by simp
 rw [e1] at k1
 rw [e2] at k2
 clear e1 e2 hb hb2
 generalize ((w.alloc (.cells #[.int .i64 nd,.int .i64 lk,.slice sa sn sc] 29)).alloc (.cells #[.int .i64 0,.int .i64 0,.slice none 0 0] 45)).alloc (.cells #[.int .i64 nd,.int .i64 lk,.slice none 0 0] 45)=w3 at hb3 k0 k1 k2 ⊢
 have HB:=Lib.hid (And.intro hb3 (And.intro k0 k1))
 have HI0:Hid (OtI w3 (w.heap.size+1+1) 0 nd lk (.slice none 0 0) w3):=Lib.hid ⟨⟨[],rfl,.inl ⟨rfl,rfl⟩⟩,k2,Chg.refl _ _⟩
 have HLt:=Lib.hid k2.lt
 clear hb3 k0 k1 k2 hL ht
 go_wp2_with fail
 go_loopw [4] (fun i wr=> ∃k:Nat,∃v,k≤sn∧i=.int .i64 k∧Hid (OtI w3 (w.heap.size+1+1) k nd lk v wr)) (fun i _=>sn - (intOf i).toNat)
 case atStart=>exact⟨0,_,by omega,rfl,HI0⟩
 case round=>
  obtain⟨k,v,hk,rfl,HI⟩:=hrel
  have hk0':Blk wr w.heap.size 29 [Value.int .i64 nd,.int .i64 lk,.slice sa sn sc].toArray:=(HI.out.c.block _ HB.out.2.1.lt (by show ¬w.heap.size=w.heap.size+1+1;omega)).trans HB.out.2.1
  have c2:wr.cell? ⟨w.heap.size,2,none⟩=some (.slice sa sn sc):=hk0'.cell 2
  have HBw:Hid (Below w.heap.size w wr):=Lib.hid (HB.out.1.trans (HI.out.c.below (B:=w.heap.size) HB.out.1.size (by rintro q rfl;omega)))
  by_cases hlt:k<sn
  ·obtain⟨r,hr⟩:∃r,L[k]? =some r:=⟨_,List.getElem?_eq_getElem (by rw [HLl.out];exact hlt)⟩
   obtain⟨a,b,c,d,e,rfl,hd0,hd1⟩:=HT.out r (List.mem_of_getElem? hr)
   obtain⟨bb,off,rfl,-,hbl,hr1,hr2⟩:=(HL.out.below HBw.out).2.2 k _ hr
   have hlt':(k:Int)<sn:=by omega
   have hk0:(0:Int)≤k:=by omega
   have hb2:=balP (Below.refl wr.heap.size wr) (.cells #[Value.int .i64 a,.int .i64 b,.int .u8 c,.int .u8 d,.int .u64 e] 127)
   have k5:=Blk.new wr 127 #[Value.int .i64 a,.int .i64 b,.int .u8 c,.int .u8 d,.int .u64 e]
   have HI2:=Lib.hid (HI.out.below hb2)
   clear hr
   go_upto_region 6 with fail
   generalize wr.alloc (.cells #[Value.int .i64 a,.int .i64 b,.int .u8 c,.int .u8 d,.int .u64 e] 127)=w5 at hb2 k5 HI2 ⊢
   have g0:w5.cell? ⟨wr.heap.size,0,none⟩=some (.int .i64 a):=k5.cell 0
   have g1:w5.cell? ⟨wr.heap.size,1,none⟩=some (.int .i64 b):=k5.cell 1
   have g2:w5.cell? ⟨wr.heap.size,2,none⟩=some (.int .u8 c):=k5.cell 2
   have g3:w5.cell? ⟨wr.heap.size,3,none⟩=some (.int .u8 d):=k5.cell 3
   have g4:w5.cell? ⟨wr.heap.size,4,none⟩=some (.int .u64 e):=k5.cell 4
   have g5:w5.cell? ⟨w.heap.size+1+1,2,none⟩=some v:=HI2.out.b.cell 2
   have hwd:IntKind.i64.wrap d=d:=IntWalk.i64_in _ (by omega)
   obtain⟨xs,hown⟩:=HI2.out.own
   have HO:=Lib.hid hown
   have hle:k+1≤1000000000:=by omega
   have hsz:w3.heap.size≤(w5.alloc (.cells #[Value.int .i64 a,.int .i64 b,.int .u8 c,.int .i64 d,.int .u64 e] 129)).heap.size:=by
    have:=HI2.out.c.size
    simp;omega
   have HP:Hid (∀g cap w8 xs,w8.ownsRow w3.heap.size 129 5 (.slice (some ⟨g,0,none⟩) (k+1) cap) (k+1) xs→(w5.alloc (.cells #[Value.int .i64 a,.int .i64 b,.int .u8 c,.int .i64 d,.int .u64 e] 129)).grownBy w8 v.ownBlock→w8.cell? ⟨w.heap.size+1+1,2,none⟩=some v∧w8.frozen? ⟨w.heap.size+1+1,2,none⟩=false∧OtI w3 (w.heap.size+1+1) (k+1) nd lk (.slice (some ⟨g,0,none⟩) (k+1) cap) (w8.setCell ⟨w.heap.size+1+1,2,none⟩ (.slice (some ⟨g,0,none⟩) (k+1) cap))):=Lib.hid fun g cap w8 xs ho hg=>HI2.out.push HLt.out (balN (Below.refl w5.heap.size w5) _) ho hg
   clear hb2 k5 hr1 hr2 c2 hown hk0'
   go_wp2_with (at_builtin;refine wpList_lies app_rsp (by rfl) (.tmp 24) (.tmp 37) (by rfl) w3.heap.size _ _ _ (by rfl) (HO.out.alloc _) ⟨w5.heap.size,0,none⟩ 1 1 [Value.int .i64 a,.int .i64 b,.int .u8 c,.int .i64 d,.int .u64 e] (by rfl) (by simp) (hasRow_new w5 _ _ 0 5 (by simp)) ((rowOf_new w5 _ _ 0 5 (by simp)).trans (List.take_of_length_le (by simp))) (by rfl) Nat.zero_lt_one hle hsz ?_;intro g cap w8 ho hg hl;obtain⟨z1,z2,z3⟩:=HP.out g cap w8 _ ho hg;have H8:=Lib.hid z3;clear ho hg hl z3)
   all_goals go_wp2_with fail
   all_goals exact⟨⟨k+1,_,by omega,by go_num,H8⟩,by simp [intOf];omega⟩
  ·obtain rfl:sn=k:=by omega
   have hlt':¬(sn:Int)<sn:=by omega
   obtain⟨xs,hown⟩:=HI.out.own
   obtain⟨sp,cp,rfl⟩:=own_slice hown
   have g0:wr.cell? ⟨w.heap.size+1+1,0,none⟩=some (.int .i64 nd):=HI.out.b.cell 0
   have g1:wr.cell? ⟨w.heap.size+1+1,1,none⟩=some (.int .i64 lk):=HI.out.b.cell 1
   have g2:wr.cell? ⟨w.heap.size+1+1,2,none⟩=some (.slice sp sn cp):=HI.out.b.cell 2
   have hk1:Blk wr (w.heap.size+1) 45 [Value.int .i64 0,.int .i64 0,.slice none 0 0].toArray:=(HI.out.c.block _ HB.out.2.2.lt (by show ¬w.heap.size+1=w.heap.size+1+1;omega)).trans HB.out.2.2
   obtain⟨y0,y1,y2⟩:wr.cell? ⟨w.heap.size+1,0,none⟩=some (.int .i64 0)∧wr.cell? ⟨w.heap.size+1,1,none⟩=some (.int .i64 0)∧wr.cell? ⟨w.heap.size+1,2,none⟩=some (.slice none 0 0):=⟨hk1.cell 0,hk1.cell 1,hk1.cell 2⟩
   obtain⟨x0,x1,x2⟩:wr.frozen? ⟨w.heap.size+1,0,none⟩=false∧wr.frozen? ⟨w.heap.size+1,1,none⟩=false∧wr.frozen? ⟨w.heap.size+1,2,none⟩=false:=⟨hk1.frozen 0,hk1.frozen 1,hk1.frozen 2⟩
   have HK1:=Lib.hid hk1
   clear hown hk1 hk0'
   have kf:Blk (((wr.setCell ⟨w.heap.size+1,0,none⟩ (.int .i64 nd)).setCell ⟨w.heap.size+1,1,none⟩ (.int .i64 lk)).setCell ⟨w.heap.size+1,2,none⟩ (.slice sp sn cp)) (w.heap.size+1) 45 [Value.int .i64 nd,.int .i64 lk,.slice sp sn cp].toArray:=by
    simpa using ((HK1.out.set_ 0 (.int .i64 nd)).set_ 1 (.int .i64 lk)).set_ 2 (.slice sp sn cp)
   obtain⟨t1,t2,-⟩:=kf.whole (n:=3) rfl
   have HE:Hid (OthP nd lk sn w (.returned (.agg [Value.int .i64 nd,.int .i64 lk,.slice sp sn cp].toArray)) (((wr.setCell ⟨w.heap.size+1,0,none⟩ (.int .i64 nd)).setCell ⟨w.heap.size+1,1,none⟩ (.int .i64 lk)).setCell ⟨w.heap.size+1,2,none⟩ (.slice sp sn cp))):=Lib.hid ⟨sp,cp,rfl,((HBw.out.setCell (by show w.heap.size≤w.heap.size+1;omega) _).setCell (by show w.heap.size≤w.heap.size+1;omega) _).setCell (by show w.heap.size≤w.heap.size+1;omega) _⟩
   have HT2:=Lib.hid (And.intro t1 t2)
   clear kf t1 t2
   go_wp2_with fail
   try simp only [Exit.inBlock,Exit.then]
   first | refine bodyPost_ret (ret_rowP (n:=3) rfl (by kernel_rfl) _ _ _ rfl ?_) rfl ?_ | refine bodyPost_end (ret_rowP (n:=3) rfl (by kernel_rfl) _ _ _ rfl ?_) rfl ?_
   ·exact HT2.out.1
   ·rw [HT2.out.2]
    exact HE.out
end Go.Proofs.YtdilbjikeilhbaaGreatDoor
