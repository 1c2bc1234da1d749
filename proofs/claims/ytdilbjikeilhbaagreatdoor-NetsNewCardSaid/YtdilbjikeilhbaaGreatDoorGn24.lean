import Derived.Test.YtdilbjikeilhbaaGreatDoorGn23
import Derived.Shelf.Slices.Clone
namespace Go.Proofs.YtdilbjikeilhbaaGreatDoor
open Go.RowKit
set_option linter.unusedVariables false
set_option linter.unusedSimpArgs false
set_option maxRecDepth 100000 in
set_option maxHeartbeats 1000000 in
theorem r6_any (A:CfA) (c:Cfg) (w:World) (h1:4≤c.N) (h2:c.N≤16):Calls Tryz.prog 68 #[.agg (cfV A c).toArray] w (RuS (withE c.lo (c.N+116) 4096) w):=by
 obtain⟨pa,pn,pc,sa,sn,sc,ba,bn,bc,ta,tn,tc⟩:=A
 obtain⟨cv,hcv⟩:∃cv,cv=cfV ⟨pa,pn,pc,sa,sn,sc,ba,bn,bc,ta,tn,tc⟩ c:=⟨_,rfl⟩
 rw [←hcv]
 have HCV:=Lib.hid hcv
 clear hcv
 go_enter Tryz.func68,Tryz.ntmps68
 go_upto_region 1 with fail
 have HB0:Hid (Below w.heap.size w (w.alloc (.cells cv.toArray 25))∧Blk (w.alloc (.cells cv.toArray 25)) w.heap.size 25 cv.toArray):=Lib.hid ⟨(Below.refl _ _).alloc (Nat.le_refl _) _,Blk.new _ _ _⟩
 generalize w.alloc (.cells cv.toArray 25)=w0 at HB0 ⊢
 rw [HCV.out] at HB0
 obtain⟨c0,c1,c2,c3,c4,c5,c6,c7,c8⟩:=cfV_cells HB0.out.2
 have c0:w0.cell? ⟨w.heap.size,0,none⟩=some (.int .i64 c.N):=c0
 have c1:w0.cell? ⟨w.heap.size,1,none⟩=some (.slice pa pn pc):=c1
 have c2:w0.cell? ⟨w.heap.size,2,none⟩=some (.slice sa sn sc):=c2
 have c3:w0.cell? ⟨w.heap.size,3,none⟩=some (.int .i64 c.lo):=c3
 have c4:w0.cell? ⟨w.heap.size,4,none⟩=some (.slice ba bn bc):=c4
 have c5:w0.cell? ⟨w.heap.size,5,none⟩=some (.slice ta tn tc):=c5
 have c6:w0.cell? ⟨w.heap.size,6,none⟩=some (.int .i64 c.mi):=c6
 have c7:w0.cell? ⟨w.heap.size,7,none⟩=some (.int .i64 c.go):=c7
 have c8:w0.cell? ⟨w.heap.size,8,none⟩=some (.int .i64 c.fr):=c8
 have HW:=Lib.hid (within_any c.lo (c.N+116) 4096 w0)
 have e1:IntKind.i64.wrap (3*c.N)=3*c.N:=IntWalk.i64_in _ (by omega)
 have e2:IntKind.i64.wrap (3*c.N+1)=3*c.N+1:=IntWalk.i64_in _ (by omega)
 have e3:IntKind.i64.wrap (c.N+114)=c.N+114:=IntWalk.i64_in _ (by omega)
 have e4:IntKind.i64.wrap (c.N+114+2)=c.N+116:=by rw [IntWalk.i64_in _ (by omega)];omega
 have e5:max (3*c.N+1) (c.N+116)=c.N+116:=by omega
 have HL:=Lib.hid h1
 have HU:=Lib.hid h2
 clear h1 h2
 go_wp2_with fail
 (with_reducible refine HW.out.mono ?_)
 rintro e w' ⟨rfl,rfl⟩
 go_wp2_with fail
 go_ret
 exact⟨rfl,HB0.out.1⟩
set_option maxRecDepth 100000 in
set_option maxHeartbeats 1000000 in
theorem r3_any (S:Nat→Prop) (A:CfA) (c:Cfg) (w:World) (h:CfR S w A c) (hsg:SgW w) (hbig:A.pn≤1000):Calls Tryz.prog 60 #[.agg (cfV A c).toArray] w (RuS (mustE (insideB c.N c.P&&sortedB c.P&&singleB (halvesL c.N c.P))) w):=by
 have HH:=Lib.hid fun w1 (h:CfR S w1 A c) hsg=>halves_any S A c w1 h hsg hbig
 obtain⟨pa,pn,pc,sa,sn,sc,ba,bn,bc,ta,tn,tc⟩:=A
 have HRR:=Lib.hid h
 have HSG:=Lib.hid hsg
 obtain⟨⟨hm1,hm2⟩,-⟩:=h.cp
 have hpl:Hid (c.P.length=pn):=Lib.hid h.p.1
 simp only at hm1 hm2 hbig
 clear h hsg
 obtain⟨cv,hcv⟩:∃cv,cv=cfV ⟨pa,pn,pc,sa,sn,sc,ba,bn,bc,ta,tn,tc⟩ c:=⟨_,rfl⟩
 rw [←hcv]
 have HCV:=Lib.hid hcv
 clear hcv
 go_enter Tryz.func60,Tryz.ntmps60
 go_upto_region 1 with fail
 have HB0:Hid (Below w.heap.size w (w.alloc (.cells cv.toArray 25))∧Blk (w.alloc (.cells cv.toArray 25)) w.heap.size 25 cv.toArray):=Lib.hid ⟨(Below.refl _ _).alloc (Nat.le_refl _) _,Blk.new _ _ _⟩
 generalize w.alloc (.cells cv.toArray 25)=w0 at HB0 ⊢
 rw [HCV.out] at HB0
 obtain⟨c0,c1,c2,c3,c4,c5,c6,c7,c8⟩:=cfV_cells HB0.out.2
 have c0:w0.cell? ⟨w.heap.size,0,none⟩=some (.int .i64 c.N):=c0
 have c1:w0.cell? ⟨w.heap.size,1,none⟩=some (.slice pa pn pc):=c1
 have c2:w0.cell? ⟨w.heap.size,2,none⟩=some (.slice sa sn sc):=c2
 have c3:w0.cell? ⟨w.heap.size,3,none⟩=some (.int .i64 c.lo):=c3
 have c4:w0.cell? ⟨w.heap.size,4,none⟩=some (.slice ba bn bc):=c4
 have c5:w0.cell? ⟨w.heap.size,5,none⟩=some (.slice ta tn tc):=c5
 have c6:w0.cell? ⟨w.heap.size,6,none⟩=some (.int .i64 c.mi):=c6
 have c7:w0.cell? ⟨w.heap.size,7,none⟩=some (.int .i64 c.go):=c7
 have c8:w0.cell? ⟨w.heap.size,8,none⟩=some (.int .i64 c.fr):=c8
 rw [←HCV.out] at HH
 have hw0:w.heap.size<w0.heap.size:=HB0.out.2.lt
 have HI:=Lib.hid (inside_any S pa pn pc c.P c.N w0 (HRR.out.below HB0.out.1).p hm1 hm2)
 obtain⟨b1,hb1⟩:∃b,Hid (b=insideB c.N c.P):=⟨_,Lib.hid rfl⟩
 obtain⟨b2,hb2⟩:∃b,Hid (b=sortedB c.P):=⟨_,Lib.hid rfl⟩
 obtain⟨b3,hb3⟩:∃b,Hid (b=singleB (halvesL c.N c.P)):=⟨_,Lib.hid rfl⟩
 rw [←hb1.out] at HI
 have HM:=Lib.hid fun b w=>must_any b w
 go_wp2_with fail
 (with_reducible refine HI.out.mono ?_)
 rintro e w1 ⟨rfl,hB1⟩
 have HB1:=Lib.hid (HB0.out.1.trans (hB1.mono (by omega)))
 have c1a:w1.cell? ⟨w.heap.size,1,none⟩=some (.slice pa pn pc):=(hB1.cell (p:=⟨w.heap.size,1,none⟩) hw0).trans c1
 have KB1:=Lib.hid (HB0.out.2.below hB1 hw0)
 have hs1:w0.heap.size≤w1.heap.size:=hB1.size
 clear hB1 c0 c1 c2 c3 c4 c5 c6 c7 c8
 cases b1
 ·go_wp2_with fail
  (with_reducible refine (HM.out false w1).mono ?_)
  rintro e w' ⟨rfl,rfl⟩
  go_wp2_with fail
  go_ret
  exact⟨by rw [←hb1.out,←hb2.out,←hb3.out];rfl,HB1.out⟩
 ·have HS:=Lib.hid (sorted_any S pa pn pc c.P w1 (HRR.out.below HB1.out).p hm1 hm2)
  rw [←hb2.out] at HS
  go_wp2_with fail
  (with_reducible refine HS.out.mono ?_)
  rintro e w2 ⟨rfl,hB2⟩
  have HB2:=Lib.hid (HB1.out.trans (hB2.mono (by omega)))
  have KB2:=Lib.hid (KB1.out.below hB2 (by omega))
  have hs2:w1.heap.size≤w2.heap.size:=hB2.size
  clear hB2 c1a
  cases b2
  ·go_wp2_with fail
   (with_reducible refine (HM.out false w2).mono ?_)
   rintro e w' ⟨rfl,rfl⟩
   go_wp2_with fail
   go_ret
   exact⟨by rw [←hb1.out,←hb2.out,←hb3.out];rfl,HB2.out⟩
  ·obtain⟨d1,d2,-⟩:=KB2.out.whole (n:=9) rfl
   rw [←HCV.out] at d2
   have HL:=Lib.hid (HH.out w2 (HRR.out.below HB2.out) (HSG.out.below HB2.out))
   go_wp2_with fail
   (with_reducible refine HL.out.mono ?_)
   rintro e w3 ⟨a3,cap3,rfl,hr3,hm31,hm32,hB3⟩
   have HB3:=Lib.hid (HB2.out.trans (hB3.mono (by omega)))
   have HG:=Lib.hid (single_any _ a3 _ cap3 (halvesL c.N c.P) (by have:=hpl.out;rw [halvesL_len];omega) w3 hr3)
   rw [←hb3.out] at HG
   have hs3:w2.heap.size≤w3.heap.size:=hB3.size
   clear hB3 hr3 d1 d2
   generalize (halvesL c.N c.P).length=q3 at HG hm31 ⊢
   go_wp2_with fail
   (with_reducible refine HG.out.mono ?_)
   rintro e w4 ⟨rfl,hB4⟩
   have HB4:=Lib.hid (HB3.out.trans (hB4.mono (by omega)))
   clear hB4
   cases b3
   ·go_wp2_with fail
    (with_reducible refine (HM.out false w4).mono ?_)
    rintro e w' ⟨rfl,rfl⟩
    go_wp2_with fail
    go_ret
    exact⟨by rw [←hb1.out,←hb2.out,←hb3.out];rfl,HB4.out⟩
   ·go_wp2_with fail
    (with_reducible refine (HM.out true w4).mono ?_)
    rintro e w' ⟨rfl,rfl⟩
    go_wp2_with fail
    go_ret
    exact⟨by rw [←hb1.out,←hb2.out,←hb3.out];rfl,HB4.out⟩
open Go.Shelf Go.RowKit
def clone_ren:Go.Shelf.Ren:=⟨fun | 15=>76 | n=>n,fun | 22=>22 | 3=>3 | 4=>4 | n=>n,fun | n=>n⟩
theorem cloneL:Lays2.n15 Tryz.prog clone_ren:={
 mixed:=by kernel_rfl,
 f15:=Tryz.func76.trans (congrArg some (by kernel_rfl)),
 t3:=Tryz.underlying3,
 a3:=Tryz.isAgg3,
 z3:=Tryz.sizeOf3,
 v3:=Tryz.zeroValue3,
 t4:=Tryz.underlying4,
 a4:=Tryz.isAgg4,
 z4:=Tryz.sizeOf4,
 v4:=Tryz.zeroValue4,
 t22:=Tryz.underlying22,
 a22:=Tryz.isAgg22,
 z22:=Tryz.sizeOf22,
 v22:=Tryz.zeroValue22,
 i3:=infoInt }
theorem newZ_own {zs:List Int} {w w':World} {v:Value} (h:w'.ownsRow w.heap.size 3 1 v zs.length (ints zs)) (hb:Below w.heap.size w w'):NewZ zs w (.returned v) w':=by
 obtain⟨-,a,cap,rfl,h1,h2,h3⟩:=own_rdz h
 exact⟨a,cap,rfl,h1,h2,h3,hb⟩
theorem cloneI_any (S:Nat→Prop) (a:Option Addr) (len cap:Nat) (zs:List Int) (w:World) (h:RdZ S w a len zs) (hbig:len≤1000000) :
 Calls Tryz.prog 76 #[.slice a len cap] w (NewZ zs w):=by
 have hl:=h.1
 by_cases h0:len=0
 ·have hz:zs=[]:=List.eq_nil_of_length_eq_zero (by omega)
  subst hz
  subst h0
  cases a with
  | none=>
    refine (Any.slices_Clone_int_nil cloneL 0 cap w).mono ?_
    rintro e w' ⟨rfl,rfl⟩
    exact⟨none,0,rfl,RdZ.nil _ _,Nat.le_refl _,Nat.zero_le _,Below.refl _ _⟩
  | some p=>
    refine (Any.slices_Clone_int_zero cloneL p cap w).mono ?_
    rintro e w' ⟨v,rfl,ho,-,hb⟩
    exact newZ_own (zs:=[]) ho hb
 ·obtain⟨b,off,z,rfl,hS,hb,hz,hc⟩:=h.at_ (k:=0) (by omega)
  refine (Any.slices_Clone_int cloneL b off len cap zs w (by omega) (by omega) ?_).mono ?_
  ·intro j hj
   obtain⟨b2,off2,z2,e2,_,_,hz2,hc2⟩:=h.at_ (k:=j) (by omega)
   cases e2
   rw [List.getD,hz2]
   exact hc2
  ·rintro e w' ⟨v,rfl,ho,-,hb⟩
   rw [←hl,List.take_length] at ho
   exact newZ_own ho hb
set_option maxRecDepth 100000 in
set_option maxHeartbeats 1000000 in
theorem clipI_any (x:Option Addr) (m cap:Nat) (w:World) (hm1:m≤cap) (hm2:cap≤maxLen) :
 Calls Tryz.prog 75 #[.slice x m cap] w fun e w'=>e=.returned (.slice x m m)∧w'=w:=by
 unfold maxLen at hm2
 have hcc:((m:Nat):Int)≤(m:Int):=Int.le_refl _
 cases x with
 | none=>
   skip
   go_enter Tryz.func75,Tryz.ntmps75
   go_wp2
   go_ret
   exact⟨rfl,rfl⟩
 | some p=>
   skip
   go_enter Tryz.func75,Tryz.ntmps75
   go_wp2
   go_ret
   exact⟨rfl,rfl⟩
end Go.Proofs.YtdilbjikeilhbaaGreatDoor
namespace Go.Proofs.YtdilbjikeilhbaaGreatDoor
open Go.RowKit
set_option linter.unusedVariables false
set_option linter.unusedSimpArgs false
def stv (s:Int×Int×Int):List Value:=[.int .i64 s.1,.int .u32 s.2.1,.int .i64 s.2.2]
def stV (l:List (Int×Int×Int)):List Value:=l.flatMap stv
theorem stV_len (l:List (Int×Int×Int)):(stV l).length=l.length*3:=by
 induction l with
 | nil=>rfl
 | cons x r ih=>simp only [stV,List.flatMap_cons,List.length_append] at ih ⊢;rw [ih];simp [stv];omega
theorem stV_at {l:List (Int×Int×Int)}:∀{k:Nat} {s:Int×Int×Int},l[k]? =some s→∀j,j<3→(stV l)[k*3+j]? =(stv s)[j]?:=by
 induction l with
 | nil=>intro k s h;simp at h
 | cons x r ih=>
   intro k s h j hj
   cases k with
   | zero=>
     simp at h
     subst h
     simp only [stV,List.flatMap_cons]
     rw [List.getElem?_append_left (by simp [stv];omega)]
     simp
   | succ k=>
     simp at h
     have:=ih h j hj
     simp only [stV,List.flatMap_cons] at this ⊢
     rw [List.getElem?_append_right (by simp [stv];omega),←this]
     congr 1
     simp [stv]
     omega
theorem stV_cell1 (l:List (Int×Int×Int)):(stV l).all cell1=true:=by
 rw [stV,List.all_flatMap,List.all_eq_true]
 intro y hy
 rfl
theorem RdSt.whole {S:Nat→Prop} {w:World} {x:Option Addr} {m:Nat} {l:List (Int×Int×Int)} (h:RdSt S w x m l) (hm:0<m) :
 ∃b off,x=some ⟨b,off,none⟩∧S b∧b<w.heap.size∧hasRow w ⟨b,off,none⟩ (m*3)=true∧rowOf w ⟨b,off,none⟩ (m*3)=stV l:=by
 obtain⟨h1,h3⟩:=h
 obtain⟨b,off,hx,hS,hb,-⟩:=h3 0 _ (List.getElem?_eq_getElem (by omega))
 refine⟨b,off,hx,hS,hb,?_⟩
 have hl:(stV l).length=m*3:=by rw [stV_len,h1]
 have:=row_of_cells (w:=w) (p:=⟨b,off,none⟩) (l:=stV l) (fun j v hv=>by
  have hj:j<m*3:=by rw [←hl];exact (List.getElem?_eq_some_iff.1 hv).1
  have hk:j / 3<l.length:=by omega
  have hkk:l[j / 3]? =some (l[j / 3]'hk):=List.getElem?_eq_getElem hk
  obtain⟨b',off',hx',-,-,hr1,hr2,hr3⟩:=h3 (j / 3) _ hkk
  rw [hx] at hx'
  cases hx'
  have hj2:j % 3<3:=Nat.mod_lt _ (by omega)
  have e1:=stV_at hkk _ hj2
  rw [show j / 3*3+j % 3=j from by omega,hv] at e1
  rw [add_at]
  have hm3:j % 3=0∨j % 3=1∨j % 3=2:=by omega
  rcases hm3 with hm3 | hm3 | hm3
  ·rw [hm3] at e1
   rw [show off+j=off+j / 3*3 from by omega,hr1]
   exact e1.symm
  ·rw [hm3] at e1
   rw [show off+j=off+j / 3*3+1 from by omega,hr2]
   exact e1.symm
  ·rw [hm3] at e1
   rw [show off+j=off+j / 3*3+2 from by omega,hr3]
   exact e1.symm)
 rwa [hl] at this
theorem own_rdst {base n:Nat} {w:World} {v:Value} {l:List (Int×Int×Int)} (h:w.ownsRow base 183 3 v n (stV l)):∃a cap,v=.slice a n cap∧RdSt (base≤·) w a n l∧n≤cap∧cap≤maxLen:=by
 have hl:l.length=n:=by have:=h.1;rw [stV_len] at this;omega
 rcases h.2 with ⟨rfl,h0⟩ | ⟨g,cap,cur,rfl,hb,hg,hnc,hcm,hcs,htake⟩
 ·subst h0
  have:l=[]:=List.eq_nil_of_length_eq_zero hl
  subst this
  exact⟨none,0,rfl,⟨rfl,by simp⟩,Nat.le_refl _,by simp⟩
 ·have hc:∀k s,l[k]? =some s→∀j,j<3→w.cell? ⟨g,0+k*3+j,none⟩=(stv s)[j]?:=by
   intro k s hs j hj
   have hk:k<l.length:=(List.getElem?_eq_some_iff.1 hs).1
   rw [cell_of_row w g _ cur _ (0,0) hg,Nat.zero_add]
   have e1:cur[k*3+j]? =(cur.toList.take (n*3))[k*3+j]?:=by rw [List.getElem?_take,if_pos (by omega)];simp
   rw [e1,htake,stV_at hs j hj]
  exact⟨_,cap,rfl,⟨hl,fun k s hs=>⟨g,0,rfl,hb,lt_of_heap hg,hc k s hs 0 (by omega),hc k s hs 1 (by omega),hc k s hs 2 (by omega)⟩⟩,hnc,hcm⟩
theorem app_st:AppOk Tryz.prog 23 183 3:=appOk_of Tryz.underlying23 (by kernel_rfl)
theorem wpList_appS {P:Program} {t e:TypeId} (hA:AppOk P t e 3) {w:World} {ops:Array Oper} {rest:List Oper} {o:Oper} {a:Act} {Q:Exit→Act→World→Prop} (hgd:o.guard=none) (s x:Operand)
 (ho:o.op=.call { callee:=.builtin .append,args:=#[s,x],argTypes:=#[t,t] })
 (base:Nat) (v:Value) (n:Nat) (xs:List Value) (hs:a.eval s=v) (hown:w.ownsRow base e 3 v n xs)
 {S:Nat→Prop} (ad:Option Addr) (m c:Nat) (l:List (Int×Int×Int)) (hx:a.eval x=.slice ad m c) (hrd:RdSt S w ad m l)
 (hn:n+m≤1000000000) (hbase:base≤w.heap.size)
 (h:∀v' w',w'.ownsRow base e 3 v' (n+m) (xs++stV l)→w.grownBy w' v.ownBlock→(∃x c,v'=.slice x (n+m) c)→wpList P ops Q rest (a.put o.dst v') w'):wpList P ops Q (o :: rest) a w:=by
 rcases Nat.eq_zero_or_pos m with rfl | hm
 ·have hl:l=[]:=List.eq_nil_of_length_eq_zero hrd.1
  subst hl
  obtain⟨ht,i,z,hi,hz,hsize,hby,hzs,hsz⟩:=hA
  refine wpList_plain hgd fun K hK=> ?_
  unfold Oper.wp execOp
  simp only [ho,resolve,invoke,builtin,Sem.run_bind,Sem.run_pure,Result.andThen_ok,List.map_toArray,List.map_cons,List.map_nil,hs,hx,run_append_zero ht hi v n xs hown ad c]
  refine hK _ _ (h v w (by simpa [stV] using hown) ⟨rfl,rfl,rfl,Nat.le_refl _,fun _ _ _=>rfl⟩ ?_)
  rcases hown.2 with ⟨rfl,rfl⟩ | ⟨g,cap,cur,rfl,_⟩
  ·exact⟨_,_,rfl⟩
  ·exact⟨_,_,rfl⟩
 ·obtain⟨b,off,rfl,-,-,h1,h2⟩:=hrd.whole hm
  refine wpList_lies hA hgd s x ho base v n xs hs hown _ m c (stV l) hx (by rw [stV_len,hrd.1]) h1 h2 (stV_cell1 l) hm hn hbase (fun g cap w' k1 k2 _=>h _ w' k1 k2 ⟨_,_,rfl⟩)
@[go_sem ↓] theorem bs_st0 (ρ:Operand→Value) (d:Option Tmp) (ty:TypeId) (s:String) (af:Array Edge) (g:Option (Nat×Bool)) (w:World) :
 (execOp ρ { dst:=d,op:=.buildSlice 23 0 #[],type:=ty,pos:=s,after:=af,guard:=g }).run Tryz.prog w=.ok (.value (.slice (some ⟨w.heap.size,0,none⟩) 0 0)) (w.alloc (.cells #[] 183)):=by
 obtain⟨ht,i,z,hi,hz,h1,h2,h3,h4⟩:=app_st
 have e:Instr.fill (fun i=>some (i*3,3)) (Array.map (fun _=>(default:Value)) (Array.range 0)) []=some #[]:=by
  simp [Instr.fill]
 simp [execOp,Instr.buildSlice,run_underlying ht,sizeOf,typeInfo,hi,h1,newRow,newObj,Sem.run,e]
@[go_sem] theorem eql_nil_st (w:World) (a:Option Addr) (n c:Nat):(binOp .eql 23 (.slice a n c) (.slice none 0 0)).run Tryz.prog w=.ok (.bool a.isNone) w:=by
 simp only [binOp]
 simp [run_equal_slice_nil w _ _ a n c Tryz.underlying23]
def NewS (l:List (Int×Int×Int)) (w:World) (e:Ending) (w':World):Prop:=∃a cap,e=.returned (.slice a l.length cap)∧RdSt (w.heap.size≤·) w' a l.length l∧l.length≤cap∧cap≤maxLen∧Below w.heap.size w w'
set_option maxRecDepth 100000 in
set_option maxHeartbeats 1000000 in
theorem cloneT_any (S:Nat→Prop) (x:Option Addr) (m cap:Nat) (l:List (Int×Int×Int)) (w:World) (hrd:RdSt S w x m l) (hbig:m≤100000) :
 Calls Tryz.prog 78 #[.slice x m cap] w (NewS l w):=by
 have hl:l.length=m:=hrd.1
 cases x with
 | none=>
   have hm0:m=0:=by
    rcases Nat.eq_zero_or_pos m with h | h
    ·exact h
    ·obtain⟨b,off,hx,-⟩:=hrd.whole h;cases hx
   subst hm0
   have ht:l=[]:=List.eq_nil_of_length_eq_zero hl
   subst ht
   clear hrd hl
   go_enter Tryz.func78,Tryz.ntmps78
   go_wp2
   go_ret
   exact⟨none,0,rfl,⟨rfl,by simp⟩,Nat.le_refl _,by simp,Below.refl _ _⟩
 | some p=>
   have HR:=Lib.hid hl
   have hisn:(some p:Option Addr).isNone=false:=rfl
   have hown:=World.ownsRow_lit (base:=w.heap.size) (size:=3) (e:=183) w #[] 0 (Nat.le_refl _) (by simp) rfl
   have hB:Below w.heap.size w (w.alloc (.cells #[] 183)):=(Below.refl _ _).alloc (Nat.le_refl _) _
   have HO:=Lib.hid (And.intro hown (And.intro hB (hrd.below hB)))
   clear hown hB hrd hl
   go_enter Tryz.func78,Tryz.ntmps78
   go_wp2_with (at_builtin;refine wpList_appS app_st (by rfl) (.tmp 5) (.tmp 6) (by rfl) w.heap.size _ _ _ (by rfl) HO.out.1 (some p) m cap l (by rfl) HO.out.2.2 (by omega) (by simp) ?_;intro v1 w1 hown1 hg1 hv1;have H1:=Lib.hid (And.intro hown1 (And.intro hg1 hv1));clear hown1 hg1 hv1)
   go_ret
   obtain⟨h1,h2,x1,c1,rfl⟩:=H1.out
   rw [Nat.zero_add] at h1
   have hll:=HR.out
   have ho:w1.ownsRow w.heap.size 183 3 (.slice x1 m c1) m (stV l):=by simpa using h1
   obtain⟨a',c',he,k1,k2,k3⟩:=own_rdst ho
   cases he
   subst hll
   exact⟨_,_,by simp,k1,k2,k3,HO.out.2.1.grown h2 (by simp) (fun q hq=>(HO.out.1.lt q hq).1)⟩
set_option maxRecDepth 100000 in
set_option maxHeartbeats 1000000 in
theorem clipT_any (x:Option Addr) (m cap:Nat) (w:World) (hm1:m≤cap) (hm2:cap≤maxLen) :
 Calls Tryz.prog 77 #[.slice x m cap] w fun e w'=>e=.returned (.slice x m m)∧w'=w:=by
 unfold maxLen at hm2
 have hcc:((m:Nat):Int)≤(m:Int):=Int.le_refl _
 cases x with
 | none=>
   go_enter Tryz.func77,Tryz.ntmps77
   go_wp2
   go_ret
   exact⟨rfl,rfl⟩
 | some p=>
   go_enter Tryz.func77,Tryz.ntmps77
   go_wp2
   go_ret
   exact⟨rfl,rfl⟩
@[go_sem ↓] theorem st_cfg (ρ:Operand→Value) (d:Option Tmp) (x y:Operand) (ty:TypeId) (s:String) (af:Array Edge) (g:Option (Nat×Bool)) (w:World) (h1:okAgg 9 (ρ y)=true) (h2:canPutV w 9 (ρ x)=true) :
 (execOp ρ { dst:=d,op:=.store 25 x y,type:=ty,pos:=s,after:=af,guard:=g }).run Tryz.prog w=.ok .skip (putV w (ρ x) (ρ y)):=exec_store ag_cfg ρ d x y ty s af g w h1 h2
theorem ret_rowB {P:Program} {fn:Func} {p:Tmp} {ty:TypeId} {n:Nat} (h:fn.results=#[.cell p ty]) (hT:aggOf P ty n=true) (tmps:Array Value) (w:World) (a:Addr)
 (hp:tmps.getD p undef=.pointer (some a)) (hr:hasRow w a n=true):(results fn tmps).run P w=.ok (.agg (rowOf w a n).toArray) w:=by
 have hp':tmps[p]?.getD undef=.pointer (some a):=by simpa using hp
 simp [results,h,hp',asAddr,run_load_row hT hr]
def cfZ:List Value:=[.int .i64 0,.slice none 0 0,.slice none 0 0,.int .i64 0,.slice none 0 0,.slice none 0 0,.int .i64 0,.int .i64 0,.int .i64 0]
def OwnP (c:Cfg) (w:World) (e:Ending) (w':World):Prop:=∃A,e=.returned (.agg (cfV A c).toArray)∧CfR (w.heap.size≤·) w' A c∧Below w.heap.size w w'
structure OwK (w:World) (c:Cfg) (A:CfA) (k:Nat) (wr:World):Prop where
 blk:Blk wr w.heap.size 25 (cfV A c).toArray
 res:Blk wr (w.heap.size+1) 25 cfZ.toArray
 ptr:Blk wr (w.heap.size+1+1) 220 #[.pointer (some ⟨w.heap.size,1,none⟩),.pointer (some ⟨w.heap.size,2,none⟩),.pointer (some ⟨w.heap.size,4,none⟩)]
 all:CfR (fun b=>b<w.heap.size∨w.heap.size+3≤b) wr A c
 p:1≤k→RdZ (w.heap.size+3≤·) wr A.pa A.pn c.P
 s:2≤k→RdZ (w.heap.size+3≤·) wr A.sa A.sn c.Sl
 b:3≤k→RdZ (w.heap.size+3≤·) wr A.ba A.bn c.B
 low:Below w.heap.size w wr
 size:w.heap.size+3≤wr.heap.size
 sm:A.pn≤1000∧A.sn≤1000∧A.bn≤1000∧A.tn≤1000
theorem OwK.far {w:World} {c:Cfg} {A:CfA} {k:Nat} {wr w2:World} (h:OwK w c A k wr) (hb:Below wr.heap.size wr w2) (i:Nat) (v:Value) :
 wr.heap.size≤(w2.setCell ⟨w.heap.size,i,none⟩ v).heap.size∧(∀b,b≠w.heap.size→b<wr.heap.size→(w2.setCell ⟨w.heap.size,i,none⟩ v).heap[b]? =wr.heap[b]?)∧(∀b,wr.heap.size≤b→(w2.setCell ⟨w.heap.size,i,none⟩ v).heap[b]? =w2.heap[b]?)∧Below w.heap.size w (w2.setCell ⟨w.heap.size,i,none⟩ v):=by
 have hs:=h.size
 have hs2:=hb.size
 refine⟨by simpa using hs2,fun b hne hlt=>(Below.heap_setCell w2 _ v b hne).trans (hb.block b hlt),fun b hge=>Below.heap_setCell w2 _ v b (by simp;omega),(h.low.trans (hb.mono (by omega))).setCell (Nat.le_refl _) v⟩
theorem OwK.step0 {w:World} {c:Cfg} {A:CfA} {wr w2:World} (h:OwK w c A 0 wr) (hb:Below wr.heap.size wr w2) {a:Option Addr} (hr:RdZ (wr.heap.size≤·) w2 a c.P.length c.P) :
 OwK w c { A with pa:=a,pn:=c.P.length,pc:=c.P.length } 1 (w2.setCell ⟨w.heap.size,1,none⟩ (.slice a c.P.length c.P.length)):=by
 obtain⟨k1,k2,k3,k4⟩:=h.far hb 1 (.slice a c.P.length c.P.length)
 have hs:=h.size
 have hl:=h.all.p.1
 obtain⟨sm1,sm2,sm3,sm4⟩:=h.sm
 have kn:RdZ (w.heap.size+3≤·) (w2.setCell ⟨w.heap.size,1,none⟩ (.slice a c.P.length c.P.length)) a c.P.length c.P:=(hr.keep (by simp) fun b hS hl=>k3 b hS).mono fun b _ hS=>by omega
 have hmx:c.P.length≤maxLen:=by unfold maxLen;omega
 have hb0:=(h.blk.below hb h.blk.lt).set_ 1 (.slice a c.P.length c.P.length)
 exact⟨by simpa [cfV] using hb0,(k2 _ (by omega) h.res.lt).trans h.res,(k2 _ (by omega) h.ptr.lt).trans h.ptr,
  ⟨(kn.mono fun b _ h=> .inr h),(h.all.s.keep k1 fun b hS hl=>k2 b (by rcases hS with hS | hS <;> omega) hl),(h.all.b.keep k1 fun b hS hl=>k2 b (by rcases hS with hS | hS <;> omega) hl),h.all.t.keep k1 fun b hS hl=>k2 b (by rcases hS with hS | hS <;> omega) hl,⟨Nat.le_refl _,hmx⟩,h.all.cp.2.1,h.all.cp.2.2.1,h.all.cp.2.2.2⟩,
  fun _=>kn,fun hh=>absurd hh (by omega),fun hh=>absurd hh (by omega),k4,by omega,(by simp only;omega),h.sm.2.1,h.sm.2.2.1,h.sm.2.2.2⟩
theorem OwK.step1 {w:World} {c:Cfg} {A:CfA} {wr w2:World} (h:OwK w c A 1 wr) (hb:Below wr.heap.size wr w2) {a:Option Addr} (hr:RdZ (wr.heap.size≤·) w2 a c.Sl.length c.Sl) :
 OwK w c { A with sa:=a,sn:=c.Sl.length,sc:=c.Sl.length } 2 (w2.setCell ⟨w.heap.size,2,none⟩ (.slice a c.Sl.length c.Sl.length)):=by
 obtain⟨k1,k2,k3,k4⟩:=h.far hb 2 (.slice a c.Sl.length c.Sl.length)
 have hs:=h.size
 have hl:=h.all.s.1
 obtain⟨sm1,sm2,sm3,sm4⟩:=h.sm
 have kn:RdZ (w.heap.size+3≤·) (w2.setCell ⟨w.heap.size,2,none⟩ (.slice a c.Sl.length c.Sl.length)) a c.Sl.length c.Sl:=(hr.keep (by simp) fun b hS hl=>k3 b hS).mono fun b _ hS=>by omega
 have hmx:c.Sl.length≤maxLen:=by unfold maxLen;omega
 have hb0:=(h.blk.below hb h.blk.lt).set_ 2 (.slice a c.Sl.length c.Sl.length)
 exact⟨by simpa [cfV] using hb0,(k2 _ (by omega) h.res.lt).trans h.res,(k2 _ (by omega) h.ptr.lt).trans h.ptr,
  ⟨(h.all.p.keep k1 fun b hS hl=>k2 b (by rcases hS with hS | hS <;> omega) hl),(kn.mono fun b _ h=> .inr h),(h.all.b.keep k1 fun b hS hl=>k2 b (by rcases hS with hS | hS <;> omega) hl),h.all.t.keep k1 fun b hS hl=>k2 b (by rcases hS with hS | hS <;> omega) hl,h.all.cp.1,⟨Nat.le_refl _,hmx⟩,h.all.cp.2.2.1,h.all.cp.2.2.2⟩,
  fun _=>(h.p (by omega)).keep k1 fun b hS hl=>k2 b (by omega) hl,fun _=>kn,fun hh=>absurd hh (by omega),k4,by omega,h.sm.1,(by simp only;omega),h.sm.2.2.1,h.sm.2.2.2⟩
theorem OwK.step2 {w:World} {c:Cfg} {A:CfA} {wr w2:World} (h:OwK w c A 2 wr) (hb:Below wr.heap.size wr w2) {a:Option Addr} (hr:RdZ (wr.heap.size≤·) w2 a c.B.length c.B) :
 OwK w c { A with ba:=a,bn:=c.B.length,bc:=c.B.length } 3 (w2.setCell ⟨w.heap.size,4,none⟩ (.slice a c.B.length c.B.length)):=by
 obtain⟨k1,k2,k3,k4⟩:=h.far hb 4 (.slice a c.B.length c.B.length)
 have hs:=h.size
 have hl:=h.all.b.1
 obtain⟨sm1,sm2,sm3,sm4⟩:=h.sm
 have kn:RdZ (w.heap.size+3≤·) (w2.setCell ⟨w.heap.size,4,none⟩ (.slice a c.B.length c.B.length)) a c.B.length c.B:=(hr.keep (by simp) fun b hS hl=>k3 b hS).mono fun b _ hS=>by omega
 have hmx:c.B.length≤maxLen:=by unfold maxLen;omega
 have hb0:=(h.blk.below hb h.blk.lt).set_ 4 (.slice a c.B.length c.B.length)
 exact⟨by simpa [cfV] using hb0,(k2 _ (by omega) h.res.lt).trans h.res,(k2 _ (by omega) h.ptr.lt).trans h.ptr,
  ⟨(h.all.p.keep k1 fun b hS hl=>k2 b (by rcases hS with hS | hS <;> omega) hl),(h.all.s.keep k1 fun b hS hl=>k2 b (by rcases hS with hS | hS <;> omega) hl),(kn.mono fun b _ h=> .inr h),h.all.t.keep k1 fun b hS hl=>k2 b (by rcases hS with hS | hS <;> omega) hl,h.all.cp.1,h.all.cp.2.1,⟨Nat.le_refl _,hmx⟩,h.all.cp.2.2.2⟩,
  fun _=>(h.p (by omega)).keep k1 fun b hS hl=>k2 b (by omega) hl,fun _=>(h.s (by omega)).keep k1 fun b hS hl=>k2 b (by omega) hl,fun _=>kn,k4,by omega,h.sm.1,h.sm.2.1,(by simp only;omega),h.sm.2.2.2⟩
set_option maxRecDepth 100000 in
set_option maxHeartbeats 2000000 in
theorem own_any (S:Nat→Prop) (A:CfA) (c:Cfg) (w:World) (h:CfR S w A c) (hb1:A.pn≤1000) (hb2:A.sn≤1000) (hb3:A.bn≤1000) (hb4:A.tn≤1000):Calls Tryz.prog 32 #[.agg (cfV A c).toArray] w (OwnP c w):=by
 have hlow:Below w.heap.size w (((w.alloc (.cells (cfV A c).toArray 25)).alloc (.cells cfZ.toArray 25)).alloc (.cells #[.pointer (some ⟨w.heap.size,1,none⟩),.pointer (some ⟨w.heap.size,2,none⟩),.pointer (some ⟨w.heap.size,4,none⟩)] 220)):=(((Below.refl _ _).alloc (Nat.le_refl _) _).alloc (by simp) _).alloc (by simp <;> omega) _
 have hst:OwK w c A 0 (((w.alloc (.cells (cfV A c).toArray 25)).alloc (.cells cfZ.toArray 25)).alloc (.cells #[.pointer (some ⟨w.heap.size,1,none⟩),.pointer (some ⟨w.heap.size,2,none⟩),.pointer (some ⟨w.heap.size,4,none⟩)] 220)):=
  ⟨((Blk.new _ _ _).alloc _).alloc _,by have:=(Blk.new (w.alloc (.cells (cfV A c).toArray 25)) 25 cfZ.toArray).alloc (.cells #[.pointer (some ⟨w.heap.size,1,none⟩),.pointer (some ⟨w.heap.size,2,none⟩),.pointer (some ⟨w.heap.size,4,none⟩)] 220);simpa using this,
    by have:=Blk.new ((w.alloc (.cells (cfV A c).toArray 25)).alloc (.cells cfZ.toArray 25)) 220 #[.pointer (some ⟨w.heap.size,1,none⟩),.pointer (some ⟨w.heap.size,2,none⟩),.pointer (some ⟨w.heap.size,4,none⟩)];simpa using this,
    ((h.mono (S':=fun b=>b<w.heap.size) fun b hl _=>hl).below hlow).mono fun b _ hl=> .inl hl,fun hh=>absurd hh (by omega),fun hh=>absurd hh (by omega),fun hh=>absurd hh (by omega),hlow,by simp <;> omega,hb1,hb2,hb3,hb4⟩
 have HST:=Lib.hid hst
 have hrs:∃wr0,wr0=(((w.alloc (.cells (cfV A c).toArray 25)).alloc (.cells cfZ.toArray 25)).alloc (.cells #[.pointer (some ⟨w.heap.size,1,none⟩),.pointer (some ⟨w.heap.size,2,none⟩),.pointer (some ⟨w.heap.size,4,none⟩)] 220)):=⟨_,rfl⟩
 clear hst hlow h hrs
 obtain⟨cv,hcv⟩:∃cv,cv=cfV A c:=⟨_,rfl⟩
 rw [←hcv] at HST ⊢
 clear hcv hb1 hb2 hb3 hb4
 go_enter Tryz.func32,Tryz.ntmps32
 go_upto_region 2 with fail
 simp only [cfZ] at HST
 generalize ((w.alloc (.cells cv.toArray 25)).alloc (.cells #[.int .i64 0,.slice none 0 0,.slice none 0 0,.int .i64 0,.slice none 0 0,.slice none 0 0,.int .i64 0,.int .i64 0,.int .i64 0] 25)).alloc (.cells #[.pointer (some ⟨w.heap.size,1,none⟩),.pointer (some ⟨w.heap.size,2,none⟩),.pointer (some ⟨w.heap.size,4,none⟩)] 220)=w0 at HST ⊢
 go_loopw [10] (fun i wr=> ∃(k:Nat) (A:CfA),k≤3∧i=.int .i64 k∧Hid (OwK w c A k wr)) (fun i _=>3 - (intOf i).toNat)
 case atStart=>exact⟨0,_,by omega,rfl,HST⟩
 case round=>
  obtain⟨k,A,hk,rfl,HO⟩:=hrel
  clear HST
  obtain⟨pa,pn,pc,sa,sn,sc,ba,bn,bc,ta,tn,tc⟩:=A
  rcases (by omega:k=0∨k=1∨k=2∨k=3) with rfl | rfl | rfl | rfl
  ·have cp:wr.cell? ⟨w.heap.size+1+1,0,none⟩=some (.pointer (some ⟨w.heap.size,1,none⟩)):=HO.out.ptr.cell 0
   have cs:wr.cell? ⟨w.heap.size,1,none⟩=some (.slice pa pn pc):=HO.out.blk.cell 1
   have HC:=Lib.hid (cloneI_any _ pa pn pc c.P wr HO.out.all.p (by have:=HO.out.sm;simp only at this;omega))
   go_wp2_with fail
   (with_reducible refine HC.out.mono ?_)
   rintro e w2 ⟨a,cap,rfl,hr,hm1,hm2,hB⟩
   have HL:=Lib.hid (clipI_any a c.P.length cap w2 hm1 hm2)
   have HN:=Lib.hid (HO.out.step0 hB hr)
   have cs2:w2.cell? ⟨w.heap.size,1,none⟩=some (.slice pa pn pc):=(hB.cell (p:=⟨w.heap.size,1,none⟩) HO.out.blk.lt).trans cs
   have fs2:w2.frozen? ⟨w.heap.size,1,none⟩=false:=(HO.out.blk.below hB HO.out.blk.lt).frozen 1
   clear hB hr hm1 hm2 cp cs
   generalize c.P.length=n at HL HN
   go_wp2_with fail
   (with_reducible refine HL.out.mono ?_)
   rintro e w3 ⟨rfl,rfl⟩
   go_wp2_with fail
   go_roundw
   case rel=>exact⟨1,_,by omega,by simp,HN⟩
   case measure=>simp [intOf]
  ·have cp:wr.cell? ⟨w.heap.size+1+1,1,none⟩=some (.pointer (some ⟨w.heap.size,2,none⟩)):=HO.out.ptr.cell 1
   have cs:wr.cell? ⟨w.heap.size,2,none⟩=some (.slice sa sn sc):=HO.out.blk.cell 2
   have HC:=Lib.hid (cloneI_any _ sa sn sc c.Sl wr HO.out.all.s (by have:=HO.out.sm;simp only at this;omega))
   go_wp2_with fail
   (with_reducible refine HC.out.mono ?_)
   rintro e w2 ⟨a,cap,rfl,hr,hm1,hm2,hB⟩
   have HL:=Lib.hid (clipI_any a c.Sl.length cap w2 hm1 hm2)
   have HN:=Lib.hid (HO.out.step1 hB hr)
   have cs2:w2.cell? ⟨w.heap.size,2,none⟩=some (.slice sa sn sc):=(hB.cell (p:=⟨w.heap.size,2,none⟩) HO.out.blk.lt).trans cs
   have fs2:w2.frozen? ⟨w.heap.size,2,none⟩=false:=(HO.out.blk.below hB HO.out.blk.lt).frozen 2
   clear hB hr hm1 hm2 cp cs
   generalize c.Sl.length=n at HL HN
   go_wp2_with fail
   (with_reducible refine HL.out.mono ?_)
   rintro e w3 ⟨rfl,rfl⟩
   go_wp2_with fail
   go_roundw
   case rel=>exact⟨2,_,by omega,by simp,HN⟩
   case measure=>simp [intOf]
  ·have cp:wr.cell? ⟨w.heap.size+1+1,2,none⟩=some (.pointer (some ⟨w.heap.size,4,none⟩)):=HO.out.ptr.cell 2
   have cs:wr.cell? ⟨w.heap.size,4,none⟩=some (.slice ba bn bc):=HO.out.blk.cell 4
   have HC:=Lib.hid (cloneI_any _ ba bn bc c.B wr HO.out.all.b (by have:=HO.out.sm;simp only at this;omega))
   go_wp2_with fail
   (with_reducible refine HC.out.mono ?_)
   rintro e w2 ⟨a,cap,rfl,hr,hm1,hm2,hB⟩
   have HL:=Lib.hid (clipI_any a c.B.length cap w2 hm1 hm2)
   have HN:=Lib.hid (HO.out.step2 hB hr)
   have cs2:w2.cell? ⟨w.heap.size,4,none⟩=some (.slice ba bn bc):=(hB.cell (p:=⟨w.heap.size,4,none⟩) HO.out.blk.lt).trans cs
   have fs2:w2.frozen? ⟨w.heap.size,4,none⟩=false:=(HO.out.blk.below hB HO.out.blk.lt).frozen 4
   clear hB hr hm1 hm2 cp cs
   generalize c.B.length=n at HL HN
   go_wp2_with fail
   (with_reducible refine HL.out.mono ?_)
   rintro e w3 ⟨rfl,rfl⟩
   go_wp2_with fail
   go_roundw
   case rel=>exact⟨3,_,by omega,by simp,HN⟩
   case measure=>simp [intOf]
  ·have ct:wr.cell? ⟨w.heap.size,5,none⟩=some (.slice ta tn tc):=HO.out.blk.cell 5
   have HC:=Lib.hid (cloneT_any _ ta tn tc c.St wr HO.out.all.t (by have:=HO.out.sm;simp only at this;omega))
   go_wp2_with fail
   (with_reducible refine HC.out.mono ?_)
   rintro e w1 ⟨x1,c1,rfl,k1,hm1,hm2,hb1⟩
   have hl4:c.St.length≤1000:=by
    have h1:=HO.out.sm
    have h2:=HO.out.all.t.1
    simp only at h1 h2
    omega
   have b0:=HO.out.blk.below hb1 HO.out.blk.lt
   have b1:=HO.out.res.below hb1 HO.out.res.lt
   have cs2:w1.cell? ⟨w.heap.size,5,none⟩=some (.slice ta tn tc):=(hb1.cell (p:=⟨w.heap.size,5,none⟩) HO.out.blk.lt).trans ct
   have fs2:w1.frozen? ⟨w.heap.size,5,none⟩=false:=b0.frozen 5
   have n0:Blk (w1.setCell ⟨w.heap.size,5,none⟩ (.slice x1 c.St.length c.St.length)) w.heap.size 25 (cfV ⟨pa,pn,pc,sa,sn,sc,ba,bn,bc,x1,c.St.length,c.St.length⟩ c).toArray:=by
    have:=b0.set_ 5 (.slice x1 c.St.length c.St.length)
    simpa [cfV] using this
   have n1:=b1.far (p:=⟨w.heap.size,5,none⟩) (by simp) (.slice x1 c.St.length c.St.length)
   obtain⟨cv2,hcv2⟩:∃cv2,cv2=cfV ⟨pa,pn,pc,sa,sn,sc,ba,bn,bc,x1,c.St.length,c.St.length⟩ c:=⟨_,rfl⟩
   rw [←hcv2] at n0
   have hvl2:cv2.length=9:=by rw [hcv2];rfl
   have hvc:cv2.all cell1=true:=by rw [hcv2];rfl
   obtain⟨r1,r2,-⟩:=n0.whole hvl2
   obtain⟨-,-,r3⟩:=n1.whole (n:=9) rfl
   obtain⟨p1,p2,-⟩:=(n1.put_all (l:=cv2) (by rw [hvl2];rfl)).whole hvl2
   have hkeep:∀b,w.heap.size+3≤b→(putRow (w1.setCell ⟨w.heap.size,5,none⟩ (.slice x1 c.St.length c.St.length)) ⟨w.heap.size+1,0,none⟩ cv2).heap[b]? =w1.heap[b]?:=fun b hb=>by
    rw [putRow_other _ _ _ _ (by simp;omega)]
    exact Below.heap_setCell _ _ _ _ (by simp;omega)
   have hsz:wr.heap.size≤(putRow (w1.setCell ⟨w.heap.size,5,none⟩ (.slice x1 c.St.length c.St.length)) ⟨w.heap.size+1,0,none⟩ cv2).heap.size:=by have:=hb1.size;simpa using this
   have hfin:OwnP c w (.returned (.agg cv2.toArray)) (putRow (w1.setCell ⟨w.heap.size,5,none⟩ (.slice x1 c.St.length c.St.length)) ⟨w.heap.size+1,0,none⟩ cv2):=by
    have hs3:=HO.out.size
    refine⟨⟨pa,pn,pc,sa,sn,sc,ba,bn,bc,x1,c.St.length,c.St.length⟩,by rw [hcv2],⟨((HO.out.p (by omega)).keep hsz fun b hS hl=>(hkeep b hS).trans (hb1.block b hl)).mono fun b _ hS=>by omega,
     ((HO.out.s (by omega)).keep hsz fun b hS hl=>(hkeep b hS).trans (hb1.block b hl)).mono fun b _ hS=>by omega,
     ((HO.out.b (by omega)).keep hsz fun b hS hl=>(hkeep b hS).trans (hb1.block b hl)).mono fun b _ hS=>by omega,
     (k1.keep (by simp) fun b hS hl=>hkeep b (by omega)).mono fun b _ hS=>by omega,
     HO.out.all.cp.1,HO.out.all.cp.2.1,HO.out.all.cp.2.2.1,Nat.le_refl _,?_⟩,?_⟩
    ·show c.St.length≤maxLen
     unfold maxLen
     omega
    ·exact Below.put ((HO.out.low.trans (hb1.mono (by omega))).setCell (Nat.le_refl _) _) (by simp) _
   have HF:=Lib.hid (And.intro p1 (And.intro p2 hfin))
   have HL:=Lib.hid (clipT_any x1 c.St.length c1 w1 hm1 hm2)
   clear p1 p2 hfin hkeep hsz n0 n1 b0 b1 k1 hb1 hm1 hm2 ct HC hcv2 hl4
   generalize c.St.length=n at *
   go_wp2_with fail
   (with_reducible refine HL.out.mono ?_)
   rintro e w2 ⟨rfl,rfl⟩
   go_wp2_with fail
   try simp only [Exit.inBlock,Exit.then]
   first | refine bodyPost_ret (ret_rowB (n:=9) rfl (by kernel_rfl) _ _ _ rfl ?_) rfl ?_ | refine bodyPost_end (ret_rowB (n:=9) rfl (by kernel_rfl) _ _ _ rfl ?_) rfl ?_
   ·exact HF.out.1
   ·rw [HF.out.2.1]
    exact HF.out.2.2
end Go.Proofs.YtdilbjikeilhbaaGreatDoor
