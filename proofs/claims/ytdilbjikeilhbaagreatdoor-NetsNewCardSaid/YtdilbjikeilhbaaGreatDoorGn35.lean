import Derived.Test.YtdilbjikeilhbaaGreatDoorGn34
import Derived.Test.YtdilbjikeilhbaaGreatDoorGn28
namespace Go.Proofs.YtdilbjikeilhbaaGreatDoor
open Go.RowKit
set_option linter.unusedVariables false
set_option linter.unusedSimpArgs false
theorem mk_boolB:MakeOk Tryz.prog 51 4 [.bool false]:=⟨Tryz.underlying51,by kernel_rfl,by decide⟩
@[go_sem ↓] theorem ms_boolB (ρ:Operand→Value) (d:Option Tmp) (x y:Operand) (ty:TypeId) (s:String) (af:Array Edge) (g:Option (Nat×Bool)) (w:World) (h:madeOk (ρ x) (ρ y)=true) :
 (execOp ρ { dst:=d,op:=.makeSlice 51 x y,type:=ty,pos:=s,after:=af,guard:=g }).run Tryz.prog w =
   .ok (.value (.slice (some ⟨w.heap.size,0,none⟩) (lenV (ρ x)) (lenV (ρ x)))) (w.alloc (.cells (zrep [.bool false] (lenV (ρ x))).toArray 4)):=exec_make mk_boolB ρ d x y ty s af g w h
def RetB (P:Prop) (w:World) (e:Ending) (w':World):Prop:=∃b:Bool,e=.returned (.bool b)∧(b=true↔P)∧Below w.heap.size w w'
def PairPre (N:Int) (P:List Int) (k:Nat):Prop:=∀i a,i<k→P[i]? =some a→(0≤a∧a<N)∧(∀p,0<i→P[i - 1]? =some p→p<a)∧a ∉ halvesL N (P.take i)∧stepE N a ∉ halvesL N (P.take i)
theorem pairPre_step {N:Int} {P:List Int} {k:Nat} {z:Int} (h:PairPre N P k) (hz:P[k]? =some z) (h0:0≤z) (h1:z<N) (hp:∀p,0<k→P[k - 1]? =some p→p<z) (hn1:z ∉ halvesL N (P.take k)) (hn2:stepE N z ∉ halvesL N (P.take k)):PairPre N P (k+1):=by
 intro i a hi ha
 by_cases hik:i<k
 ·exact h i a hik ha
 ·obtain rfl:i=k:=by omega
  rw [hz] at ha
  cases ha
  exact⟨⟨h0,h1⟩,hp,hn1,hn2⟩
theorem RetB.no {P:Prop} {w w':World} (hp:¬P) (h:Below w.heap.size w w'):RetB P w (.returned (.bool false)) w':=⟨false,rfl,⟨fun e=>(by cases e),fun e=>absurd e hp⟩,h⟩
def usedV (n:Nat) (H:List Int):List Value:=(List.range n).map fun i:Nat=>Value.bool (decide ((i:Int) ∈ H))
theorem usedV_nil (n:Nat):zrep [Value.bool false] n=usedV n []:=by
 simp [usedV,zrep,List.flatMap_singleton',List.map_const']
theorem usedV_at {n:Nat} {H:List Int} {y:Nat} (h:y<n):(usedV n H).toArray[y]? =some (.bool (decide ((y:Int) ∈ H))):=by
 simp [usedV,h]
theorem usedV_set {n:Nat} {H:List Int} {y:Nat}:(usedV n H).set y (.bool true)=usedV n (H++ [(y:Int)]):=by
 apply List.ext_getElem?
 intro k
 rw [List.getElem?_set]
 by_cases hk:k<n
 ·simp only [usedV,List.length_map,List.length_range,List.getElem?_map,List.getElem?_range hk,Option.map_some,List.mem_append,List.mem_singleton]
  by_cases hy:y=k
  ·subst hy
   simp [hk]
  ·rw [if_neg hy]
   have:¬(k:Int)=y:=by omega
   simp [this]
 ·simp [usedV,hk]
  intro h
  omega
set_option maxRecDepth 100000 in
set_option maxHeartbeats 2000000 in
theorem rpairs_any (S:Nat→Prop) (A:CfA) (c:Cfg) (w:World) (h:CfR S w A c) (hN:4≤c.N∧c.N≤16) (hP:c.P.length≤8):Calls Tryz.prog 44 #[.agg (cfV A c).toArray] w (RetB (PairOk c.N c.P) w):=by
 obtain⟨pa,pn,pc,sa,sn,sc,ba,bn,bc,ta,tn,tc⟩:=A
 have HR:=Lib.hid h.p
 have hpl:c.P.length=pn:=h.p.1
 have hm2:=h.cp.1.2
 unfold maxLen at hm2
 simp only at HR hm2
 have hm1:pn≤pc:=h.cp.1.1
 obtain⟨N,hN0⟩:∃N:Nat,Hid (c.N=N):=⟨c.N.toNat,Lib.hid (by omega)⟩
 have hN4:4≤N:=by have:=hN0.out;omega
 have hN16:N≤16:=by have:=hN0.out;omega
 rw [hN0.out]
 obtain⟨cv,hcv⟩:∃cv,cv=cfV ⟨pa,pn,pc,sa,sn,sc,ba,bn,bc,ta,tn,tc⟩ c:=⟨_,rfl⟩
 rw [←hcv]
 have HCV:=Lib.hid hcv
 clear hcv h hN
 go_enter Tryz.func44,Tryz.ntmps44
 go_upto_region 1 with fail
 have HB0:Hid (Below w.heap.size w (w.alloc (.cells cv.toArray 25))∧Blk (w.alloc (.cells cv.toArray 25)) w.heap.size 25 cv.toArray):=Lib.hid ⟨(Below.refl _ _).alloc (Nat.le_refl _) _,Blk.new _ _ _⟩
 generalize w.alloc (.cells cv.toArray 25)=w0 at HB0 ⊢
 rw [HCV.out] at HB0
 have hw0:w.heap.size<w0.heap.size:=HB0.out.2.lt
 have H1:Hid (Below w0.heap.size w0 (w0.alloc (.cells (zrep [Value.bool false] 16).toArray 4))∧Blk (w0.alloc (.cells (zrep [Value.bool false] 16).toArray 4)) w0.heap.size 4 (usedV 16 (halvesL N (c.P.take 0))).toArray):=Lib.hid ⟨(Below.refl _ _).alloc (Nat.le_refl _) _,by
  rw [show halvesL N (c.P.take 0)=[] from rfl,←usedV_nil];exact Blk.new _ _ _⟩
 have hmk:madeOk (.int .i64 16) (.int .i64 16)=true:=by decide
 have hlv:lenV (.int .i64 16)=16:=by decide
 go_upto_region 2 with fail
 generalize w0.alloc (.cells (zrep [Value.bool false] 16).toArray 4)=w1 at H1 ⊢
 go_wp2_with fail
 go_loopw [4,5,6] (fun i _ _ wr=> ∃k:Nat,k≤pn∧i=.int .i64 k∧Hid (Below w0.heap.size w0 wr∧Blk wr w0.heap.size 4 (usedV 16 (halvesL N (c.P.take k))).toArray∧PairPre N c.P k)) (fun i _ _ _=>pn - (intOf i).toNat)
 case atStart=>exact⟨0,by omega,rfl,Lib.hid ⟨H1.out.1,H1.out.2,fun i a h=>absurd h (by omega)⟩⟩
 case round=>
  obtain⟨k,hk,rfl,HK⟩:=hrel
  obtain⟨c0,c1,-⟩:=cfV_cells (HB0.out.2.below HK.out.1 hw0)
  replace c1:wr.cell? ⟨w.heap.size,1,none⟩=some (.slice pa pn pc):=c1
  replace c0:wr.cell? ⟨w.heap.size,0,none⟩=some (.int .i64 c.N):=c0
  rw [hN0.out] at c0
  have HNO:Hid (¬PairOk N c.P→RetB (PairOk N c.P) w (.returned (.bool false)) wr):=Lib.hid fun hn=>(RetB.no hn (HB0.out.1.trans (HK.out.1.mono HB0.out.1.size)))
  clear H1
  by_cases hlt:k<pn
  ·obtain⟨b,off,z,rfl,-,hbl,hz,hc⟩:=HR.out.at_ hlt
   have hlt':(k:Int)<pn:=by omega
   have hk0:(0:Int)≤k:=by omega
   have HZ:=Lib.hid hz
   have hcz:=((HB0.out.1.trans (HK.out.1.mono HB0.out.1.size)).cell (p:=⟨b,off+k,none⟩) hbl).trans hc
   clear hc hz
   by_cases hz0:z<0
   ·go_wp2_with fail
    go_ret
    exact HNO.out (fun h=>by have:=(h _ _ HZ.out).1;omega)
   ·obtain⟨y,rfl⟩:∃y:Nat,z=y:=⟨z.toNat,by omega⟩
    by_cases hzn:(N:Int)≤y
    ·go_wp2_with fail
     go_ret
     exact HNO.out (fun h=>by have:=(h _ _ HZ.out).1;omega)
    ·have hyn:y<N:=by omega
     by_cases hk1:0<k
     ·obtain⟨b2,off2,x,he,-,hbl2,hx,hcx⟩:=HR.out.at_ (show k - 1<pn by omega)
      simp only [Option.some.injEq,Addr.mk.injEq] at he
      obtain⟨rfl,rfl,-⟩:=he
      have hcx:=((HB0.out.1.trans (HK.out.1.mono HB0.out.1.size)).cell (p:=⟨b,off+(k - 1),none⟩) hbl2).trans hcx
      have hkp:(0:Int)<k:=by omega
      by_cases hle:(y:Int)≤x
      ·go_wp2_with fail
       go_ret
       exact HNO.out (fun h=>by have:=(h _ _ HZ.out).2.1 x hk1 hx;omega)
      ·have HXP:=Lib.hid hx
       have hxy:x<(y:Int):=by omega
       have hy2:∃y2:Nat,stepE N y=y2∧y2<N:=⟨(stepE N y).toNat,by
        rw [stepE,if_pos ⟨⟨by omega,by omega⟩,by omega,by omega⟩]
        have h3:=Int.emod_nonneg ((y:Int)+1) (show (N:Int)≠0 by omega)
        have h4:=Int.emod_lt_of_pos ((y:Int)+1) (show (0:Int)<N by omega)
        omega⟩
       obtain⟨y2,hs2,hy2n⟩:=hy2
       have hem:((y:Int)+1) % N=y2:=by rw [←hs2,stepE,if_pos ⟨⟨by omega,by omega⟩,by omega,by omega⟩]
       have htm:((y:Int)+1).tmod N=y2:=by rw [Int.tmod_eq_emod_of_nonneg (by omega),hem]
       have HEM:=Lib.hid hs2
       have hNz:¬(N:Int)=0:=by omega
       have hu1:=(HK.out.2.1.cell y).trans (usedV_at (H:=halvesL N (c.P.take k)) (show y<16 by omega))
       have hu2:=(HK.out.2.1.cell y2).trans (usedV_at (H:=halvesL N (c.P.take k)) (show y2<16 by omega))
       obtain⟨q1,hq1⟩:∃q1,Hid (q1=decide ((y:Int) ∈ halvesL N (c.P.take k))):=⟨_,Lib.hid rfl⟩
       obtain⟨q2,hq2⟩:∃q2,Hid (q2=decide ((y2:Int) ∈ halvesL N (c.P.take k))):=⟨_,Lib.hid rfl⟩
       rw [←hq1.out] at hu1
       rw [←hq2.out] at hu2
       have hf1:wr.frozen? ⟨w0.heap.size,y,none⟩=false:=HK.out.2.1.frozen y
       have hb1:(wr.setCell ⟨w0.heap.size,y,none⟩ (.bool true)).frozen? ⟨w0.heap.size,y2,none⟩=false:=(HK.out.2.1.set_ y (.bool true)).frozen y2
       obtain⟨vv,hvv⟩:∃vv,(wr.setCell ⟨w0.heap.size,y,none⟩ (.bool true)).cell? ⟨w0.heap.size,y2,none⟩=some vv:=⟨_,by
        rw [(HK.out.2.1.set_ y (.bool true)).cell y2,Array.getElem?_eq_getElem (by simp [usedV];omega)]⟩
       cases q1 with
       | true=>
         go_wp2_with fail
         go_ret
         exact HNO.out (fun h=>(h _ _ HZ.out).2.2.1 (of_decide_eq_true hq1.out.symm))
       | false=>
         cases q2 with
         | true=>
           go_wp2_with fail
           go_ret
           exact HNO.out (fun h=>(h _ _ HZ.out).2.2.2 (by rw [HEM.out];exact of_decide_eq_true hq2.out.symm))
         | false=>
           have HN:Hid (Below w0.heap.size w0 ((wr.setCell ⟨w0.heap.size,y,none⟩ (.bool true)).setCell ⟨w0.heap.size,y2,none⟩ (.bool true))∧Blk ((wr.setCell ⟨w0.heap.size,y,none⟩ (.bool true)).setCell ⟨w0.heap.size,y2,none⟩ (.bool true)) w0.heap.size 4 (usedV 16 (halvesL N (c.P.take (k+1)))).toArray∧PairPre N c.P (k+1)):=Lib.hid ⟨(HK.out.1.setCell (Nat.le_refl _) _).setCell (Nat.le_refl _) _,by
            have:=(HK.out.2.1.set_ y (.bool true)).set_ y2 (.bool true)
            rw [halvesL_step HZ.out,HEM.out,show ∀l:List Int,l++ [(y:Int),(y2:Int)]=(l++ [(y:Int)])++ [(y2:Int)] from fun l=>by simp,←usedV_set,←usedV_set]
            simpa using this,pairPre_step HK.out.2.2 HZ.out (by omega) (by omega) (fun p _ hp=>by rw [HXP.out] at hp;cases hp;exact hxy) (by rw [←decide_eq_false_iff_not,←hq1.out]) (by rw [HEM.out,←decide_eq_false_iff_not,←hq2.out])⟩
           clear hs2
           go_wp2_with fail
           exact⟨⟨k+1,by omega,by go_num,HN⟩,by simp [intOf];omega⟩
     ·obtain rfl:k=0:=by omega
      replace hcz:wr.cell? ⟨b,off,none⟩=some (.int .i64 (y:Int)):=hcz
      have hy2:∃y2:Nat,stepE N y=y2∧y2<N:=⟨(stepE N y).toNat,by
       rw [stepE,if_pos ⟨⟨by omega,by omega⟩,by omega,by omega⟩]
       have h3:=Int.emod_nonneg ((y:Int)+1) (show (N:Int)≠0 by omega)
       have h4:=Int.emod_lt_of_pos ((y:Int)+1) (show (0:Int)<N by omega)
       omega⟩
      obtain⟨y2,hs2,hy2n⟩:=hy2
      have hem:((y:Int)+1) % N=y2:=by rw [←hs2,stepE,if_pos ⟨⟨by omega,by omega⟩,by omega,by omega⟩]
      have htm:((y:Int)+1).tmod N=y2:=by rw [Int.tmod_eq_emod_of_nonneg (by omega),hem]
      have HEM:=Lib.hid hs2
      have hNz:¬(N:Int)=0:=by omega
      have hu1:=(HK.out.2.1.cell y).trans (usedV_at (H:=halvesL N (c.P.take 0)) (show y<16 by omega))
      have hu2:=(HK.out.2.1.cell y2).trans (usedV_at (H:=halvesL N (c.P.take 0)) (show y2<16 by omega))
      obtain⟨q1,hq1⟩:∃q1,Hid (q1=decide ((y:Int) ∈ halvesL N (c.P.take 0))):=⟨_,Lib.hid rfl⟩
      obtain⟨q2,hq2⟩:∃q2,Hid (q2=decide ((y2:Int) ∈ halvesL N (c.P.take 0))):=⟨_,Lib.hid rfl⟩
      rw [←hq1.out] at hu1
      rw [←hq2.out] at hu2
      have hf1:wr.frozen? ⟨w0.heap.size,y,none⟩=false:=HK.out.2.1.frozen y
      have hb1:(wr.setCell ⟨w0.heap.size,y,none⟩ (.bool true)).frozen? ⟨w0.heap.size,y2,none⟩=false:=(HK.out.2.1.set_ y (.bool true)).frozen y2
      obtain⟨vv,hvv⟩:∃vv,(wr.setCell ⟨w0.heap.size,y,none⟩ (.bool true)).cell? ⟨w0.heap.size,y2,none⟩=some vv:=⟨_,by
       rw [(HK.out.2.1.set_ y (.bool true)).cell y2,Array.getElem?_eq_getElem (by simp [usedV];omega)]⟩
      cases q1 with
      | true=>
        go_wp2_with fail
        go_ret
        exact HNO.out (fun h=>(h _ _ HZ.out).2.2.1 (of_decide_eq_true hq1.out.symm))
      | false=>
        cases q2 with
        | true=>
          go_wp2_with fail
          go_ret
          exact HNO.out (fun h=>(h _ _ HZ.out).2.2.2 (by rw [HEM.out];exact of_decide_eq_true hq2.out.symm))
        | false=>
          have HN:Hid (Below w0.heap.size w0 ((wr.setCell ⟨w0.heap.size,y,none⟩ (.bool true)).setCell ⟨w0.heap.size,y2,none⟩ (.bool true))∧Blk ((wr.setCell ⟨w0.heap.size,y,none⟩ (.bool true)).setCell ⟨w0.heap.size,y2,none⟩ (.bool true)) w0.heap.size 4 (usedV 16 (halvesL N (c.P.take (0+1)))).toArray∧PairPre N c.P (0+1)):=Lib.hid ⟨(HK.out.1.setCell (Nat.le_refl _) _).setCell (Nat.le_refl _) _,by
           have:=(HK.out.2.1.set_ y (.bool true)).set_ y2 (.bool true)
           rw [halvesL_step HZ.out,HEM.out,show ∀l:List Int,l++ [(y:Int),(y2:Int)]=(l++ [(y:Int)])++ [(y2:Int)] from fun l=>by simp,←usedV_set,←usedV_set]
           simpa using this,pairPre_step HK.out.2.2 HZ.out (by omega) (by omega) (fun p h _=>absurd h (by omega)) (by rw [←decide_eq_false_iff_not,←hq1.out]) (by rw [HEM.out,←decide_eq_false_iff_not,←hq2.out])⟩
          clear hs2
          go_wp2_with fail
          exact⟨⟨0+1,by omega,by go_num,HN⟩,by simp [intOf];omega⟩
  ·obtain rfl:k=pn:=by omega
   have hlt':¬(k:Int)<k:=by omega
   have HF:Hid (RetB (PairOk N c.P) w (.returned (.bool true)) wr):=Lib.hid ⟨true,rfl,⟨fun _ i a hi=>HK.out.2.2 i a (by have:=(List.getElem?_eq_some_iff.1 hi).1;omega) hi,fun _=>rfl⟩,HB0.out.1.trans (HK.out.1.mono HB0.out.1.size)⟩
   go_wp2_with fail
   go_ret
   exact HF.out
def SlotsOk (n:Nat) (l:List Int):Prop:=(∀z ∈ l,0≤z∧z<(n:Nat))∧∀i:Nat,i<n→(i:Int) ∈ l
set_option maxRecDepth 100000 in
set_option maxHeartbeats 2000000 in
theorem rslots_any (S:Nat→Prop) (A:CfA) (c:Cfg) (w:World) (h:CfR S w A c) (hP:c.P.length≤8):Calls Tryz.prog 45 #[.agg (cfV A c).toArray] w (RetB (SlotsOk c.P.length c.Sl) w):=by
 obtain⟨pa,pn,pc,sa,sn,sc,ba,bn,bc,ta,tn,tc⟩:=A
 have HR:=Lib.hid h.s
 have hpl:c.P.length=pn:=h.p.1
 have hm2:=h.cp.2.1.2
 unfold maxLen at hm2
 simp only at HR hm2
 have hm1:sn≤sc:=h.cp.2.1.1
 rw [hpl] at hP ⊢
 obtain⟨cv,hcv⟩:∃cv,cv=cfV ⟨pa,pn,pc,sa,sn,sc,ba,bn,bc,ta,tn,tc⟩ c:=⟨_,rfl⟩
 rw [←hcv]
 have HCV:=Lib.hid hcv
 clear hcv h hpl
 have hmk:madeOk (.int .i64 (pn:Int)) (.int .i64 (pn:Int))=true:=by simp [madeOk];omega
 have hlv:lenV (.int .i64 (pn:Int))=pn:=by simp [lenV]
 go_enter Tryz.func45,Tryz.ntmps45
 go_upto_region 1 with fail
 have HB0:Hid (Below w.heap.size w (w.alloc (.cells cv.toArray 25))∧Blk (w.alloc (.cells cv.toArray 25)) w.heap.size 25 cv.toArray):=Lib.hid ⟨(Below.refl _ _).alloc (Nat.le_refl _) _,Blk.new _ _ _⟩
 generalize w.alloc (.cells cv.toArray 25)=w0 at HB0 ⊢
 rw [HCV.out] at HB0
 obtain⟨c0,c1,c2,-⟩:=cfV_cells HB0.out.2
 replace c1:w0.cell? ⟨w.heap.size,1,none⟩=some (.slice pa pn pc):=c1
 have hw0:w.heap.size<w0.heap.size:=HB0.out.2.lt
 clear c0 c2
 have H1:Hid (Below w0.heap.size w0 (w0.alloc (.cells (zrep [Value.bool false] pn).toArray 4))∧Blk (w0.alloc (.cells (zrep [Value.bool false] pn).toArray 4)) w0.heap.size 4 (usedV pn (c.Sl.take 0)).toArray):=Lib.hid ⟨(Below.refl _ _).alloc (Nat.le_refl _) _,by
  rw [List.take_zero,←usedV_nil];exact Blk.new _ _ _⟩
 go_upto_region 2 with fail
 generalize w0.alloc (.cells (zrep [Value.bool false] pn).toArray 4)=w1 at H1 ⊢
 go_wp2_with fail
 go_loopw [4] (fun i wr=> ∃k:Nat,k≤sn∧i=.int .i64 k∧Hid (Below w0.heap.size w0 wr∧Blk wr w0.heap.size 4 (usedV pn (c.Sl.take k)).toArray∧∀z ∈ c.Sl.take k,0≤z∧z<(pn:Nat))) (fun i _=>sn - (intOf i).toNat)
 case atStart=>exact⟨0,by omega,rfl,Lib.hid ⟨H1.out.1,H1.out.2,by simp⟩⟩
 case round=>
  obtain⟨k,hk,rfl,HK⟩:=hrel
  obtain⟨-,d1,d2,-⟩:=cfV_cells (HB0.out.2.below HK.out.1 hw0)
  replace d1:wr.cell? ⟨w.heap.size,1,none⟩=some (.slice pa pn pc):=d1
  replace d2:wr.cell? ⟨w.heap.size,2,none⟩=some (.slice sa sn sc):=d2
  clear H1 c1
  by_cases hlt:k<sn
  ·obtain⟨b,off,z,rfl,-,hbl,hz,hc⟩:=HR.out.at_ hlt
   have hlt':(k:Int)<sn:=by omega
   have hk0:(0:Int)≤k:=by omega
   have HZ:=Lib.hid hz
   have hcz:=((HB0.out.1.trans (HK.out.1.mono HB0.out.1.size)).cell (p:=⟨b,off+k,none⟩) hbl).trans hc
   have HNO:Hid (¬SlotsOk pn c.Sl→∀n,RetB (SlotsOk pn c.Sl) w (.returned (.bool false)) (wr.drewN n)):=Lib.hid fun hn n=>RetB.no hn (HB0.out.1.trans ((HK.out.1.mono HB0.out.1.size).trans ((belowD wr n).mono (Nat.le_trans HB0.out.1.size HK.out.1.size))))
   clear hc hz
   by_cases hz0:z<0
   ·go_upto_region 5 with fail
    go_quiet (fail)
    go_wp2_with fail
    go_ret
    exact HNO.out (fun h=>by have:=h.1 _ (List.mem_of_getElem? HZ.out);omega) _
   ·obtain⟨y,rfl⟩:∃y:Nat,z=y:=⟨z.toNat,by omega⟩
    by_cases hzn:(pn:Int)≤y
    ·have hzn':pn≤y:=by omega
     go_upto_region 5 with fail
     go_quiet (fail)
     go_wp2_with fail
     go_ret
     exact HNO.out (fun h=>by have:=h.1 _ (List.mem_of_getElem? HZ.out);omega) _
    ·have hyn:y<pn:=by omega
     have hyn':¬pn≤y:=by omega
     have hf1:wr.frozen? ⟨w0.heap.size,y,none⟩=false:=HK.out.2.1.frozen y
     have hu1:=(HK.out.2.1.cell y).trans (usedV_at (H:=c.Sl.take k) hyn)
     obtain⟨q1,hq1⟩:∃q1,Hid (q1=decide ((y:Int) ∈ c.Sl.take k)):=⟨_,Lib.hid rfl⟩
     rw [←hq1.out] at hu1
     go_upto_region 5 with fail
     go_quiet (fail)
     have HN:Hid (∀n,Below w0.heap.size w0 ((wr.drewN n).setCell ⟨w0.heap.size,y,none⟩ (.bool true))∧Blk ((wr.drewN n).setCell ⟨w0.heap.size,y,none⟩ (.bool true)) w0.heap.size 4 (usedV pn (c.Sl.take (k+1))).toArray∧∀z ∈ c.Sl.take (k+1),0≤z∧z<(pn:Nat)):=Lib.hid fun n=>⟨(HK.out.1.trans ((belowD wr n).mono HK.out.1.size)).setCell (Nat.le_refl _) _,by
      have:=(HK.out.2.1.drewN n).set_ y (.bool true)
      rw [List.take_add_one,HZ.out,Option.toList_some,←usedV_set]
      simpa using this,fun z hz=>by
      rw [List.take_add_one,HZ.out,Option.toList_some,List.mem_append,List.mem_singleton] at hz
      rcases hz with hz | rfl
      ·exact HK.out.2.2 z hz
      ·omega⟩
     go_wp2_with fail
     exact⟨⟨k+1,by omega,by go_num,Lib.hid (HN.out _)⟩,by simp [intOf];omega⟩
  ·obtain rfl:k=sn:=by omega
   have hlt':¬(k:Int)<k:=by omega
   have HU:Hid (Below w.heap.size w wr∧Blk wr w0.heap.size 4 (usedV pn c.Sl).toArray∧∀z ∈ c.Sl,0≤z∧z<(pn:Nat)):=Lib.hid (by
    have:=HK.out
    rw [List.take_of_length_le (by rw [HR.out.1];omega)] at this
    exact⟨HB0.out.1.trans (this.1.mono HB0.out.1.size),this.2.1,this.2.2⟩)
   clear HK
   obtain⟨wo,rfl⟩:∃wo,wo=wr:=⟨_,rfl⟩
   go_wp2_with fail
   go_loopw [5] (fun i wr=> ∃k:Nat,k≤pn∧i=.int .i64 k∧wr=wo∧Hid (∀i:Nat,i<k→(i:Int) ∈ c.Sl)) (fun i _=>pn - (intOf i).toNat)
   case atStart=>exact⟨0,by omega,rfl,rfl,Lib.hid (fun i hi=>absurd hi (by omega))⟩
   case round=>
    obtain⟨j,hj,rfl,rfl,HJ⟩:=hrel
    by_cases hlj:j<pn
    ·have hlj':(j:Int)<pn:=by omega
     have hj0:(0:Int)≤j:=by omega
     have hu1:=(HU.out.2.1.cell j).trans (usedV_at (H:=c.Sl) hlj)
     obtain⟨q1,hq1⟩:∃q1,Hid (q1=decide ((j:Int) ∈ c.Sl)):=⟨_,Lib.hid rfl⟩
     rw [←hq1.out] at hu1
     have HNO:Hid (¬SlotsOk pn c.Sl→RetB (SlotsOk pn c.Sl) w (.returned (.bool false)) wr):=Lib.hid fun hn=>RetB.no hn HU.out.1
     cases q1 with
     | false=>
       go_wp2_with fail
       go_ret
       exact HNO.out fun h=>of_decide_eq_false hq1.out.symm (h.2 j hlj)
     | true=>
       have HN:Hid (∀i:Nat,i<j+1→(i:Int) ∈ c.Sl):=Lib.hid fun i hi=>by
        by_cases hij:i<j
        ·exact HJ.out i hij
        ·obtain rfl:i=j:=by omega
         exact of_decide_eq_true hq1.out.symm
       go_wp2_with fail
       exact⟨⟨j+1,by omega,by go_num,by first | rfl | trivial,HN⟩,by simp [intOf];omega⟩
    ·obtain rfl:j=pn:=by omega
     have hlj':¬(j:Int)<j:=by omega
     have HF:Hid (RetB (SlotsOk j c.Sl) w (.returned (.bool true)) wr):=Lib.hid ⟨true,rfl,⟨fun _=>⟨HU.out.2.2,HJ.out⟩,fun _=>rfl⟩,HU.out.1⟩
     go_wp2_with fail
     go_ret
     exact HF.out
theorem singleB_inv {l:List Int} (h:singleB l=true):l.Nodup:=by
 unfold singleB at h
 have hl:(srtI l).length=l.length:=srtI_len l
 have h1:(Lib.compact (srtI l)).length=(srtI l).length:=by rw [hl];simpa using h
 unfold Lib.compact Lib.compactUpTo at h1
 rw [List.length_map] at h1
 have h2:((List.range (srtI l).length).filter (Lib.keeps (srtI l).toArray)).length=(List.range (srtI l).length).length:=by rw [h1,List.length_range]
 rw [List.length_filter_eq_length_iff] at h2
 have hs:(srtI l).Pairwise (·≤·):=by
  have:=List.pairwise_mergeSort (le:=fun x y:Int=>decide (x≤y)) (fun a b c h1 h2=>by simp at *;omega) (fun a b=>by simp;omega) l
  exact this.imp fun h=>by simpa using h
 rw [List.pairwise_iff_getElem] at hs
 refine (srtI_perm l).nodup_iff.1 ?_
 rw [List.Nodup,List.pairwise_iff_getElem]
 intro i j hi hj hij
 have hk:=h2 j (List.mem_range.2 hj)
 have h0:¬j=0:=by omega
 simp [Lib.keeps,h0] at hk
 rw [List.getElem?_eq_getElem hj,List.getElem?_eq_getElem (show j - 1<(srtI l).length by omega)] at hk
 simp only [Option.getD_some] at hk
 have h3:=hs (j - 1) j (by omega) hj (by omega)
 by_cases h4:i=j - 1
 ·subst h4
  exact fun e=>hk e.symm
 ·have h5:=hs i (j - 1) hi (by omega) (by omega)
  omega
theorem pairOk_iff {N:Int} {P:List Int} (h4:4≤N) (h16:N≤16):(insideB N P&&sortedB P&&singleB (halvesL N P))=true↔PairOk N P:=by
 constructor
 ·intro h
  simp only [Bool.and_eq_true] at h
  obtain⟨⟨h1,h2⟩,h3⟩:=h
  have h3:=singleB_inv h3
  intro i a hi
  have hil:i<P.length:=(List.getElem?_eq_some_iff.1 hi).1
  have ha:0≤a∧a<N:=by
   have:=List.all_eq_true.1 h1 a (List.mem_of_getElem? hi)
   simpa using this
  have hsp:P=P.take i++a :: P.drop (i+1):=by
   rw [(List.getElem?_eq_some_iff.1 hi).2.symm,List.getElem_cons_drop,List.take_append_drop]
  rw [hsp,halvesL,List.flatMap_append,List.flatMap_cons,List.nodup_append] at h3
  obtain⟨-,-,h5⟩:=h3
  have n1:a ∉ halvesL N (P.take i):=fun hm=>h5 a hm a (by simp) rfl
  have n2:stepE N a ∉ halvesL N (P.take i):=fun hm=>h5 _ hm (stepE N a) (by simp) rfl
  refine⟨ha,fun p hi0 hp=> ?_,n1,n2⟩
  have hle:p≤a:=by
   have:=List.all_eq_true.1 h2 (i - 1) (List.mem_range.2 (by omega))
   rw [show i - 1+1=i by omega] at this
   simpa [List.getD_eq_getElem?_getD,hp,hi] using this
  have hm:p ∈ halvesL N (P.take i):=by
   unfold halvesL
   refine List.mem_flatMap.2 ⟨p,?_,by simp⟩
   refine List.mem_of_getElem? (i:=i - 1) ?_
   rw [List.getElem?_take,if_pos (by omega),hp]
  have:p≠a:=fun e=>n1 (e ▸ hm)
  omega
 ·intro h
  have h1:insideB N P=true:=insideB_of fun z hz=>by
   obtain⟨i,hi⟩:=List.mem_iff_getElem?.1 hz
   exact (h i z hi).1
  have h3:=h.nodup h4 h16 P.length (Nat.le_refl _)
  rw [List.take_length] at h3
  rw [h1,h.sorted,singleB_nodup h3]
  rfl
theorem slotsOk_iff {n:Nat} {l:List Int}:(insideB (n:Nat) l&&coverB n l)=true↔SlotsOk n l:=by
 simp [SlotsOk,insideB,coverB,hasB]
theorem eachE_at {lo hi:Int}:∀{l:List Int} {k:Nat} {z:Int},(∀y ∈ l.take k,lo≤y∧y≤hi)→l[k]? =some z→withE z lo hi≠0→eachE lo hi l=withE z lo hi
 | [],k,z,_,h,_=>by simp at h
 | x :: r,0,z,_,h,hz=>by
   simp at h
   subst h
   rw [eachE,if_neg hz]
 | x :: r,k+1,z,hp,h,hz=>by
   rw [eachE,if_pos (withE_ok (hp x (by simp)).1 (hp x (by simp)).2)]
   exact eachE_at (k:=k) (fun y hy=>hp y (by simp [hy])) (by simpa using h) hz
structure Pre (c:Cfg) (j:Nat):Prop where
 n:0<j→4≤c.N∧c.N≤16
 p:1<j→2≤c.P.length∧c.P.length≤8
 pr:2<j→PairOk c.N c.P
 s:3<j→1≤c.Sl.length∧c.Sl.length≤16
 sl:4<j→SlotsOk c.P.length c.Sl
 lo:5<j→c.N+116≤c.lo∧c.lo≤4096
 b:6<j→((c.B.length:Nat):Int)=c.N∧∀z ∈ c.B,0≤z∧z≤4096
 t:7<j→c.St.length≤8
 st:8<j→stOk c
theorem cfE_at (c:Cfg) (j:Nat) (h:Pre c j) {k:Int} (hj:(cfE c)[j]? =some k) (hk:k≠0):firstE (cfE c)=k:=by
 refine firstE_pre (k:=j) (fun i hi=> ?_) hj hk
 have hi10:i<10:=by
  have:=(List.getElem?_eq_some_iff.1 hj).1
  rw [len_cfE] at this
  omega
 match i,hi,hi10 with
 | 0,hi,_=>simp [cfE,withE_ok (h.n hi).1 (h.n hi).2]
 | 1,hi,_=>have:=h.p hi;simp [cfE,withE_ok (x:=(c.P.length:Nat)) (lo:=2) (hi:=8) (by omega) (by omega)]
 | 2,hi,_=>simp [cfE,mustE,(pairOk_iff (h.n (by omega)).1 (h.n (by omega)).2).2 (h.pr hi)]
 | 3,hi,_=>have:=h.s hi;simp [cfE,withE_ok (x:=(c.Sl.length:Nat)) (lo:=1) (hi:=16) (by omega) (by omega)]
 | 4,hi,_=>simp [cfE,mustE,slotsOk_iff.2 (h.sl hi)]
 | 5,hi,_=>simp [cfE,withE_ok (h.lo hi).1 (h.lo hi).2]
 | 6,hi,_=>simp [cfE,mustE,firstE,(h.b hi).1,eachE_ok (h.b hi).2]
 | 7,hi,_=>have:=h.t hi;simp [cfE,withE_ok (x:=(c.St.length:Nat)) (lo:=0) (hi:=8) (by omega) (by omega)]
 | 8,hi,_=>
   have:stE c=0:=stE_zero fun s hs=>by
    have h1:=h.st hi s hs
    simp [stP,firstE,mustE,h1.1,h1.2.1,withE_ok h1.2.2.1 h1.2.2.2]
   simp [cfE,this]
 | 9,hi,_=>exact absurd (List.getElem?_eq_some_iff.1 hj).1 (by rw [len_cfE];omega)
theorem stPre {c:Cfg} {j:Nat} (h:∀s ∈ c.St.take j,0≤s.1∧s.1<c.N∧1≤s.2.2∧s.2.2≤100):∀y ∈ (c.St.map (stP c)).take j,y=0:=by
 intro y hy
 rw [←List.map_take] at hy
 obtain⟨s,hs,rfl⟩:=List.mem_map.1 hy
 have h1:=h s hs
 simp [stP,firstE,mustE,h1.1,h1.2.1,withE_ok h1.2.2.1 h1.2.2.2]
end Go.Proofs.YtdilbjikeilhbaaGreatDoor
