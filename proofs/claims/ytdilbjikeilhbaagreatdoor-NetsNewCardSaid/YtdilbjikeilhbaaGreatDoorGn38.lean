import Derived.Test.YtdilbjikeilhbaaGreatDoorGn02
import Derived.OpenShut
import Derived.Deep.Fields
import Derived.Test.YtdilbjikeilhbaaGreatDoorGn36
import Derived.LaidMore
import Derived.Test.YtdilbjikeilhbaaGreatDoorGn37
import Derived.WideShapes
namespace Go.Proofs.YtdilbjikeilhbaaGreatDoor
open Go.RowKit Go.ChangeShapes Go.WideShapes
set_option linter.unusedVariables false
set_option linter.unusedSimpArgs false
section
variable {H:Type} {enc:TypeId×Value→H} {P:Program} {w:World} {base:Nat} {spare:Nat→Bool} {held:Bool}
theorem flat_fs {d:Nat} {cs:List Value} (IH:∀t ks,flatT P d t=some ks→P.cellsOf t=ks.length→∀fuel c x,DataW.trod enc P w base spare held fuel t c=some x→okL ks c=true):∀(fs:List Field) (o:Nat) (ks:List Kd),flatFs P (flatT P d) o fs=some ks→
 (∀(i:Nat) (f:Field),fs[i]? =some f→∃n y,DataW.trod enc P w base spare held n f.type ((cs.drop f.offset).take (P.cellsOf f.type))=some y)→okL ks ((cs.drop o).take ks.length)=true
 | [],o,ks,h,_=>by simp [flatFs] at h;subst h;simp [okL]
 | f :: fs,o,ks,h,hf=>by
   unfold flatFs at h
   split at h
   ·cases h
   ·rename_i hno
    simp only [not_or,ne_eq,Decidable.not_not] at hno
    obtain⟨hn,ho⟩:=hno
    split at h
    ·rename_i k1 i hk1 hi
     split at h
     ·rename_i hs
      rw [Option.map_eq_some_iff] at h
      obtain⟨k2,hk2,rfl⟩:=h
      have hc:P.cellsOf f.type=k1.length:=by simp [Program.cellsOf,hi,hs]
      obtain⟨n,y,hy⟩:=hf 0 f rfl
      have h1:=IH f.type k1 hk1 hc n _ y hy
      rw [hc,ho] at h1
      have h2:=flat_fs IH fs (o+k1.length) k2 hk2 (fun i f hi=>hf (i+1) f (by simpa using hi))
      rw [List.length_append,List.take_add,List.drop_drop]
      exact okL_append h1 h2
     ·cases h
    ·cases h
theorem flat_open:∀(d:Nat) (t:TypeId) (ks:List Kd),flatT P d t=some ks→P.cellsOf t=ks.length→∀(fuel:Nat) (cs:List Value) (x:DataW H×List MemPlace),DataW.trod enc P w base spare held fuel t cs=some x→okL ks cs=true
 | 0,t,ks,h,_,_,_,_,_=>by simp [flatT] at h
 | d+1,t,ks,h,hsz,fuel,cs,x,hx=>by
   unfold flatT at h
   cases hu:P.underlying t with
   | none=>simp [hu] at h
   | some u=>
     rw [hu] at h
     cases u <;> simp only [reduceCtorEq] at h
     case bool=>
      simp at h
      subst h
      obtain⟨b,rfl,_⟩:=DataW.trod_bool hu hx
      simp [okL,okK]
     case int k=>
      simp at h
      subst h
      obtain⟨n,rfl,_,hw⟩:=DataW.trod_int hu hx
      simp [okL,okK,hw]
     case struct fs=>
      split at h
      ·cases h
      ·obtain⟨xs,n,_,_,hlen,hxl,hf⟩:=DataW.trod_struct hu hx
       have:=flat_fs (cs:=cs) (fun t ks h1 h2=>flat_open d t ks h1 h2) fs.toList 0 ks h (fun i f hi=>by
        have hi':fs[i]? =some f:=by simpa using hi
        have hil:i<xs.length:=by rw [hxl];exact (Array.getElem?_eq_some_iff.1 hi').1
        exact⟨n,xs[i],by rw [hf i f hi',List.getElem?_eq_getElem hil]⟩)
       rwa [List.drop_zero,List.take_of_length_le (by omega)] at this
     case array n e=>
      split at h
      ·rename_i k1 i hk1 hi
       split at h
       ·rename_i hs
        simp at h
        subst h
        have hc:P.cellsOf e=k1.length:=by simp [Program.cellsOf,hi,hs]
        obtain⟨xs,m,_,_,hlen,hxl,hf⟩:=DataW.trod_array hu hx
        have key:∀(r s:Nat),s+r≤n→okL (List.replicate r k1).flatten ((cs.drop (s*k1.length)).take (r*k1.length))=true:=by
         intro r
         induction r with
         | zero=>intro s _;simp [okL]
         | succ r ih=>
           intro s hsr
           have hil:s<xs.length:=by omega
           have h1:=flat_open d e k1 hk1 hc m _ _ (by rw [hf s (by omega),List.getElem?_eq_getElem hil])
           rw [hc] at h1
           have h2:=ih (s+1) (by omega)
           rw [List.replicate_succ,List.flatten_cons,show (r+1)*k1.length=k1.length+r*k1.length from by rw [Nat.succ_mul,Nat.add_comm],List.take_add,List.drop_drop]
           rw [show (s+1)*k1.length=s*k1.length+k1.length from Nat.succ_mul _ _] at h2
           exact okL_append h1 h2
        have:=key n 0 (by omega)
        rw [Nat.zero_mul,List.drop_zero] at this
        rwa [List.take_of_length_le (by rw [hlen,hsz];simp)] at this
       ·cases h
      ·cases h
theorem RdHs.open_ {t e:TypeId} {a:Option Addr} {len cap:Nat} {d:DataW H×List MemPlace} {fuel:Nat} (ht:P.underlying t=some (.slice e)) (hf:flatT P 7 e=some heldK) (hc:P.cellsOf e=56)
 (h:DataW.trod enc P w 0 spare held fuel t [.slice a len cap]=some d):∃l,RdHs (· <w.heap.size) w a len l∧len≤cap∧cap≤maxLen:=by
 rcases Deep.open_slice ht h with ⟨hcs,_⟩ | ⟨x,l,c,m,n,D,Pl,hcs,_,hl,hm,hmm,_,hx⟩
 ·simp at hcs
  obtain⟨rfl,rfl,rfl⟩:=hcs
  exact⟨[],⟨rfl,by simp,by simp⟩,Nat.le_refl _,by simp⟩
 ·simp at hcs
  obtain⟨rfl,rfl,rfl⟩:=hcs
  have hle:len≤m:=by rw [hmm];split <;> omega
  rw [hc] at hx
  have key:∀i,i<len→∃y:Hd,y.ok∧w.cells? 0 (x.add (i*56)) 56=some y.vals:=by
   intro i hi
   obtain⟨cs,h1,h2⟩:=hx i (by omega)
   have hok:=flat_open 7 e heldK hf (by rw [hc,len_heldK]) n cs _ h2
   cases cs with
   | nil=>simp [heldK,okL] at hok
   | cons v r=>
     rw [heldK,okL,Bool.and_eq_true] at hok
     cases v <;> simp [okK] at hok
     exact⟨⟨_,r⟩,hok,h1⟩
  haveI:Inhabited Hd:=⟨hd0⟩
  obtain⟨F,hF⟩:=Deep.choose_lt (α:=Hd) key
  refine⟨(List.range len).map F,⟨by simp,fun y hy=> ?_,fun k y hy=> ?_⟩,hl,hm⟩
  ·simp at hy
   obtain⟨i,hi,rfl⟩:=hy
   exact (hF i hi).1
  ·rw [List.getElem?_map,Option.map_eq_some_iff] at hy
   obtain⟨k',hk',rfl⟩:=hy
   have hlt:k<len:=by
    rcases Nat.lt_or_ge k len with h | h
    ·exact h
    ·rw [List.getElem?_eq_none (by simpa using h)] at hk';cases hk'
   rw [List.getElem?_range hlt] at hk'
   cases hk'
   obtain⟨h1,h2⟩:=hF k hlt
   obtain⟨_,hcl,hat⟩:=World.cells?_some h2
   have hcell:∀j v,(F k).vals[j]? =some v→w.cell? ((x.add (k*56)).add j)=some v:=fun j v hv=>by
    have hj:j<56:=by rw [←hcl];exact (List.getElem?_eq_some_iff.1 hv).1
    rw [hat j hj,hv]
   have hr:=row_of_cells hcell
   rw [hcl] at hr
   have h0:=hcell 0 (.bool (F k).is) rfl
   obtain⟨b,off,spot⟩:=x
   have hs:spot=none:=by
    have h00:=hF 0 (by omega)
    obtain⟨_,hcl0,hat0⟩:=World.cells?_some h00.2
    have:=World.cell?_spot ((hat0 0 (by omega)).trans (rfl:(F 0).vals[0]? =some (.bool (F 0).is)))
    simpa [Addr.add] using this
   subst hs
   rw [add_at] at hr h0
   exact⟨b,off,rfl,World.block_lt_of_cell? w _ h0,World.block_lt_of_cell? w _ h0,hr.1,hr.2⟩
end
end Go.Proofs.YtdilbjikeilhbaaGreatDoor
namespace Go.Proofs.YtdilbjikeilhbaaGreatDoor
open Go.RowKit
set_option linter.unusedVariables false
set_option linter.unusedSimpArgs false
def AnyB (w:World) (e:Ending) (w':World):Prop:=∃b:Bool,e=.returned (.bool b)∧Below w.heap.size w w'
set_option maxRecDepth 100000 in
set_option maxHeartbeats 1000000 in
theorem great04_any (A:CfA) (c:Cfg) (w:World):Calls Tryz.prog 5 #[.agg (cfV A c).toArray] w (AnyB w):=by
 obtain⟨pa,pn,pc,sa,sn,sc,ba,bn,bc,ta,tn,tc⟩:=A
 obtain⟨cv,hcv⟩:∃cv,cv=cfV ⟨pa,pn,pc,sa,sn,sc,ba,bn,bc,ta,tn,tc⟩ c:=⟨_,rfl⟩
 rw [←hcv]
 have HCV:=Lib.hid hcv
 clear hcv
 go_enter Tryz.func5,Tryz.ntmps5
 go_upto_region 1 with fail
 have HB0:Hid (Below w.heap.size w (w.alloc (.cells cv.toArray 25))∧Blk (w.alloc (.cells cv.toArray 25)) w.heap.size 25 cv.toArray):=Lib.hid ⟨(Below.refl _ _).alloc (Nat.le_refl _) _,Blk.new _ _ _⟩
 generalize w.alloc (.cells cv.toArray 25)=w0 at HB0 ⊢
 have hB0:=HB0.out.2
 rw [HCV.out] at hB0
 obtain⟨c0,c1,c2,c3,c4,c5,c6,c7,c8⟩:=cfV_cells hB0
 replace c1:w0.cell? ⟨w.heap.size,1,none⟩=some (.slice pa pn pc):=c1
 replace c2:w0.cell? ⟨w.heap.size,2,none⟩=some (.slice sa sn sc):=c2
 replace c4:w0.cell? ⟨w.heap.size,4,none⟩=some (.slice ba bn bc):=c4
 replace c5:w0.cell? ⟨w.heap.size,5,none⟩=some (.slice ta tn tc):=c5
 clear c0 c3 c6 c7 c8 hB0
 by_cases h1:60<pn
 ·have h1':(60:Int)<pn:=by omega
  go_wp2_with fail
  go_ret
  exact⟨_,rfl,HB0.out.1⟩
 ·have h1':¬(60:Int)<pn:=by omega
  by_cases h2:60<sn
  ·have h2':(60:Int)<sn:=by omega
   go_wp2_with fail
   go_ret
   exact⟨_,rfl,HB0.out.1⟩
  ·have h2':¬(60:Int)<sn:=by omega
   by_cases h3:60<bn
   ·have h3':(60:Int)<bn:=by omega
    go_wp2_with fail
    go_ret
    exact⟨_,rfl,HB0.out.1⟩
   ·have h3':¬(60:Int)<bn:=by omega
    go_wp2_with fail
    go_ret
    exact⟨_,rfl,HB0.out.1⟩
open Go.RowKit Go.ChangeShapes Go.WideShapes
section
variable {H:Type} {enc:TypeId×Value→H} {w:World}
theorem flat_slice {d:Nat} {t e:TypeId} {ks:List Kd} (ht:Tryz.prog.underlying t=some (.slice e)) (hf:flatT Tryz.prog d e=some ks) (hc:Tryz.prog.cellsOf e=ks.length) (hk0:0<ks.length) {fuel:Nat} {a:Option Addr} {len cap:Nat} {x:DataW H×List MemPlace}
 (h:DataW.trod enc Tryz.prog w 0 (fun _=>true) true fuel t [.slice a len cap]=some x) :
 (len≤cap∧cap≤maxLen)∧∀i,i<len→∃b off cs,a=some ⟨b,off,none⟩∧b<w.heap.size∧okL ks cs=true∧∀(j:Nat) (v:Value),cs[j]? =some v→w.cell? ⟨b,off+i*ks.length+j,none⟩=some v:=by
 rcases Deep.open_slice ht h with ⟨hcs,_⟩ | ⟨y,l,c,m,n,D,Pl,hcs,_,hl,hm,hmm,hdd,hx⟩
 ·simp at hcs
  obtain⟨rfl,rfl,rfl⟩:=hcs
  exact⟨⟨Nat.le_refl _,by simp⟩,fun i hi=>absurd hi (by omega)⟩
 ·simp at hcs
  obtain⟨rfl,rfl,rfl⟩:=hcs
  refine⟨⟨hl,hm⟩,fun i hi=> ?_⟩
  have hle:len≤m:=by rw [hmm];split <;> omega
  obtain⟨cs,h1,h2⟩:=hx i (by omega)
  have hok:=flat_open d e ks hf hc n cs _ h2
  obtain⟨_,hcl,hat⟩:=World.cells?_some h1
  rw [hc] at hcl hat
  have hl2:=okL_len hok
  obtain⟨b,off,spot⟩:=y
  have hcell:∀(j:Nat) (v:Value),cs[j]? =some v→w.cell? (((⟨b,off,spot⟩:Addr).add (i*ks.length)).add j)=some v:=fun j v hv=>by
   have hj:j<ks.length:=by have:=(List.getElem?_eq_some_iff.1 hv).1;omega
   rw [hat j hj,hv]
  have h0:=hcell 0 _ (List.getElem?_eq_getElem (by omega))
  have hs:spot=none:=by
   obtain⟨cs0,k1,k2⟩:=hx 0 (by omega)
   have hok0:=flat_open d e ks hf hc n cs0 _ k2
   obtain⟨_,kcl,kat⟩:=World.cells?_some k1
   rw [hc] at kcl kat
   have:=World.cell?_spot ((kat 0 hk0).trans (List.getElem?_eq_getElem (by rw [kcl];exact hk0)))
   simpa [Addr.add] using this
  subst hs
  simp only [add_at] at h0 hcell
  exact⟨b,off,cs,rfl,World.block_lt_of_cell? w _ h0,hok,hcell⟩
theorem i64_of {v:Value} {l:List Value} {ks:List Kd} (h:okL (.i .i64 :: ks) (v :: l)=true):∃z:Int,v=.int .i64 z:=by
 simp only [okL,Bool.and_eq_true] at h
 cases v <;> simp [okK] at h
 obtain⟨⟨rfl,-⟩,-⟩:=h
 exact⟨_,rfl⟩
theorem u32_of {v:Value} {l:List Value} {ks:List Kd} (h:okL (.i .u32 :: ks) (v :: l)=true):∃z:Int,v=.int .u32 z:=by
 simp only [okL,Bool.and_eq_true] at h
 cases v <;> simp [okK] at h
 obtain⟨⟨rfl,-⟩,-⟩:=h
 exact⟨_,rfl⟩
set_option maxRecDepth 100000 in
theorem RdZ.open_ {fuel:Nat} {a:Option Addr} {len cap:Nat} {x:DataW H×List MemPlace} (h:DataW.trod enc Tryz.prog w 0 (fun _=>true) true fuel 22 [.slice a len cap]=some x) :
 ∃zs,RdZ (· <w.heap.size) w a len zs∧len≤cap∧cap≤maxLen:=by
 obtain⟨h1,h2⟩:=flat_slice (d:=1) (ks:=[.i .i64]) Tryz.underlying22 (by kernel_rfl) (by kernel_rfl) (by simp) h
 have key:∀i,i<len→∃z:Int,∃b off,a=some ⟨b,off,none⟩∧b<w.heap.size∧w.cell? ⟨b,off+i,none⟩=some (.int .i64 z):=by
  intro i hi
  obtain⟨b,off,cs,ha,hb,hok,hcell⟩:=h2 i hi
  match cs,okL_len hok with
  | [v],_=>
    obtain⟨z,rfl⟩:=i64_of hok
    exact⟨z,b,off,ha,hb,by have:=hcell 0 _ rfl;simpa using this⟩
 obtain⟨F,hF⟩:=Deep.choose_lt (α:=Int) key
 refine⟨(List.range len).map F,⟨by simp,fun k z hz=> ?_⟩,h1⟩
 rw [List.getElem?_map,Option.map_eq_some_iff] at hz
 obtain⟨k',hk',rfl⟩:=hz
 have hlt:k<len:=by
  rcases Nat.lt_or_ge k len with h | h
  ·exact h
  ·rw [List.getElem?_eq_none (by simpa using h)] at hk';cases hk'
 rw [List.getElem?_range hlt] at hk'
 cases hk'
 obtain⟨b,off,ha,hb,hc⟩:=hF k hlt
 exact⟨b,off,ha,hb,hb,hc⟩
set_option maxRecDepth 100000 in
theorem RdSt.open_ {fuel:Nat} {a:Option Addr} {len cap:Nat} {x:DataW H×List MemPlace} (h:DataW.trod enc Tryz.prog w 0 (fun _=>true) true fuel 23 [.slice a len cap]=some x) :
 ∃l,RdSt (· <w.heap.size) w a len l∧len≤cap∧cap≤maxLen:=by
 obtain⟨h1,h2⟩:=flat_slice (d:=3) (ks:=[.i .i64,.i .u32,.i .i64]) Tryz.underlying23 (by kernel_rfl) (by kernel_rfl) (by simp) h
 have key:∀i,i<len→∃s:Int×Int×Int,∃b off,a=some ⟨b,off,none⟩∧b<w.heap.size∧w.cell? ⟨b,off+i*3,none⟩=some (.int .i64 s.1)∧w.cell? ⟨b,off+i*3+1,none⟩=some (.int .u32 s.2.1)∧w.cell? ⟨b,off+i*3+2,none⟩=some (.int .i64 s.2.2):=by
  intro i hi
  obtain⟨b,off,cs,ha,hb,hok,hcell⟩:=h2 i hi
  match cs,okL_len hok with
  | [v0,v1,v2],_=>
    obtain⟨z0,rfl⟩:=i64_of hok
    have hok1:okL [.i .u32,.i .i64] [v1,v2]=true:=by simp only [okL,Bool.and_eq_true] at hok ⊢;exact hok.2
    obtain⟨z1,rfl⟩:=u32_of hok1
    have hok2:okL [.i .i64] [v2]=true:=by simp only [okL,Bool.and_eq_true] at hok1 ⊢;exact hok1.2
    obtain⟨z2,rfl⟩:=i64_of hok2
    exact⟨(z0,z1,z2),b,off,ha,hb,hcell 0 _ rfl,hcell 1 _ rfl,hcell 2 _ rfl⟩
 obtain⟨F,hF⟩:=Deep.choose_lt (α:=Int×Int×Int) key
 refine⟨(List.range len).map F,⟨by simp,fun k z hz=> ?_⟩,h1⟩
 rw [List.getElem?_map,Option.map_eq_some_iff] at hz
 obtain⟨k',hk',rfl⟩:=hz
 have hlt:k<len:=by
  rcases Nat.lt_or_ge k len with h | h
  ·exact h
  ·rw [List.getElem?_eq_none (by simpa using h)] at hk';cases hk'
 rw [List.getElem?_range hlt] at hk'
 cases hk'
 obtain⟨b,off,ha,hb,hc⟩:=hF k hlt
 exact⟨b,off,ha,hb,hb,hc⟩
theorem i64_one {l:List Value} (h:okL [.i .i64] l=true):∃z:Int,l=[.int .i64 z]:=by
 match l,okL_len h with
 | [v],_=>
   obtain⟨z,rfl⟩:=i64_of h
   exact⟨z,rfl⟩
theorem slice_one {t e:TypeId} (ht:Tryz.prog.underlying t=some (.slice e)) {fuel:Nat} {cs:List Value} {x:DataW H×List MemPlace} (h:DataW.trod enc Tryz.prog w 0 (fun _=>true) true fuel t cs=some x):∃a len cap,cs=[Value.slice a len cap]:=by
 rcases Deep.open_slice ht h with ⟨hcs,_⟩ | ⟨x',l',c',_,_,_,_,hcs,_⟩
 ·exact⟨_,_,_,hcs⟩
 ·exact⟨_,_,_,hcs⟩
set_option maxRecDepth 100000 in
set_option maxHeartbeats 1000000 in
theorem cfg_trod {fuel:Nat} {cs:List Value} {d:DataW H×List MemPlace} (h:DataW.trod enc Tryz.prog w 0 (fun _=>true) true fuel 25 cs=some d) :
 ∃(A:CfA) (c:Cfg),cs=cfV A c∧CfR (· <w.heap.size) w A c:=by
 obtain⟨xs,n',_,rfl,hlen,hxl,hfl⟩:=DataW.trod_struct Tryz.underlying25 h
 have hc:Tryz.prog.cellsOf 25=9:=by kernel_rfl
 have hci:Tryz.prog.cellsOf 3=1:=by kernel_rfl
 have hcs:Tryz.prog.cellsOf 22=1:=by kernel_rfl
 have hct:Tryz.prog.cellsOf 23=1:=by kernel_rfl
 rw [hc] at hlen
 have hx3:xs.length=9:=hxl
 match cs,hlen with
 | [v0,v1,v2,v3,v4,v5,v6,v7,v8],_=>
   match xs,hx3 with
   | [y0,y1,y2,y3,y4,y5,y6,y7,y8],_=>
     have g0:DataW.trod enc Tryz.prog w 0 (fun _=>true) true n' 3 (([v0,v1,v2,v3,v4,v5,v6,v7,v8].drop 0).take (Tryz.prog.cellsOf 3))=some y0:=hfl 0 _ rfl
     have g1:DataW.trod enc Tryz.prog w 0 (fun _=>true) true n' 22 (([v0,v1,v2,v3,v4,v5,v6,v7,v8].drop 1).take (Tryz.prog.cellsOf 22))=some y1:=hfl 1 _ rfl
     have g2:DataW.trod enc Tryz.prog w 0 (fun _=>true) true n' 22 (([v0,v1,v2,v3,v4,v5,v6,v7,v8].drop 2).take (Tryz.prog.cellsOf 22))=some y2:=hfl 2 _ rfl
     have g3:DataW.trod enc Tryz.prog w 0 (fun _=>true) true n' 3 (([v0,v1,v2,v3,v4,v5,v6,v7,v8].drop 3).take (Tryz.prog.cellsOf 3))=some y3:=hfl 3 _ rfl
     have g4:DataW.trod enc Tryz.prog w 0 (fun _=>true) true n' 22 (([v0,v1,v2,v3,v4,v5,v6,v7,v8].drop 4).take (Tryz.prog.cellsOf 22))=some y4:=hfl 4 _ rfl
     have g5:DataW.trod enc Tryz.prog w 0 (fun _=>true) true n' 23 (([v0,v1,v2,v3,v4,v5,v6,v7,v8].drop 5).take (Tryz.prog.cellsOf 23))=some y5:=hfl 5 _ rfl
     have g6:DataW.trod enc Tryz.prog w 0 (fun _=>true) true n' 3 (([v0,v1,v2,v3,v4,v5,v6,v7,v8].drop 6).take (Tryz.prog.cellsOf 3))=some y6:=hfl 6 _ rfl
     have g7:DataW.trod enc Tryz.prog w 0 (fun _=>true) true n' 3 (([v0,v1,v2,v3,v4,v5,v6,v7,v8].drop 7).take (Tryz.prog.cellsOf 3))=some y7:=hfl 7 _ rfl
     have g8:DataW.trod enc Tryz.prog w 0 (fun _=>true) true n' 3 (([v0,v1,v2,v3,v4,v5,v6,v7,v8].drop 8).take (Tryz.prog.cellsOf 3))=some y8:=hfl 8 _ rfl
     rw [hci] at g0 g3 g6 g7 g8
     rw [hcs] at g1 g2 g4
     rw [hct] at g5
     simp only [List.drop_zero,List.drop_succ_cons,List.take_succ_cons,List.take_zero] at g0 g1 g2 g3 g4 g5 g6 g7 g8
     obtain⟨z0,e0⟩:=i64_one (flat_open 1 3 [.i .i64] (by kernel_rfl) (by rw [hci];rfl) n' _ _ g0)
     obtain⟨z3,e3⟩:=i64_one (flat_open 1 3 [.i .i64] (by kernel_rfl) (by rw [hci];rfl) n' _ _ g3)
     obtain⟨z6,e6⟩:=i64_one (flat_open 1 3 [.i .i64] (by kernel_rfl) (by rw [hci];rfl) n' _ _ g6)
     obtain⟨z7,e7⟩:=i64_one (flat_open 1 3 [.i .i64] (by kernel_rfl) (by rw [hci];rfl) n' _ _ g7)
     obtain⟨z8,e8⟩:=i64_one (flat_open 1 3 [.i .i64] (by kernel_rfl) (by rw [hci];rfl) n' _ _ g8)
     obtain⟨a1,n1,c1,e1⟩:=slice_one Tryz.underlying22 g1
     obtain⟨a2,n2,c2,e2⟩:=slice_one Tryz.underlying22 g2
     obtain⟨a4,n4,c4,e4⟩:=slice_one Tryz.underlying22 g4
     obtain⟨a5,n5,c5,e5⟩:=slice_one Tryz.underlying23 g5
     rw [e1] at g1
     rw [e2] at g2
     rw [e4] at g4
     rw [e5] at g5
     obtain⟨l1,r1,m1⟩:=RdZ.open_ g1
     obtain⟨l2,r2,m2⟩:=RdZ.open_ g2
     obtain⟨l4,r4,m4⟩:=RdZ.open_ g4
     obtain⟨l5,r5,m5⟩:=RdSt.open_ g5
     simp only [List.cons.injEq,and_true] at e0 e1 e2 e3 e4 e5 e6 e7 e8
     subst e0 e1 e2 e3 e4 e5 e6 e7 e8
     exact⟨⟨a1,n1,c1,a2,n2,c2,a4,n4,c4,a5,n5,c5⟩,⟨z0,l1,l2,z3,l4,l5,z6,z7,z8⟩,rfl,⟨r1,r2,r4,r5,m1,m2,m4,m5⟩⟩
end
end Go.Proofs.YtdilbjikeilhbaaGreatDoor
namespace Go.Proofs.YtdilbjikeilhbaaGreatDoor
open Go.RowKit
set_option linter.unusedVariables false
set_option linter.unusedSimpArgs false
set_option maxRecDepth 100000
section
variable {H:Type} {enc:TypeId×Value→H} {w:World}
theorem rows_open {d:Nat} {t e:TypeId} {ks:List Kd} (ht:Tryz.prog.underlying t=some (.slice e)) (hf:flatT Tryz.prog d e=some ks) (hc:Tryz.prog.cellsOf e=ks.length) (hk0:0<ks.length) {fuel:Nat} {a:Option Addr} {len cap:Nat} {x:DataW H×List MemPlace}
 (h:DataW.trod enc Tryz.prog w 0 (fun _=>true) true fuel t [.slice a len cap]=some x) :
 ∃L:List (List Value),RdF (· <w.heap.size) w a len ks.length L∧(∀r ∈ L,okL ks r=true)∧len≤cap∧cap≤maxLen:=by
 obtain⟨h1,h2⟩:=flat_slice ht hf hc hk0 h
 have key:∀i,i<len→∃cs:List Value,∃b off,a=some ⟨b,off,none⟩∧b<w.heap.size∧okL ks cs=true∧∀(j:Nat) (v:Value),cs[j]? =some v→w.cell? ⟨b,off+i*ks.length+j,none⟩=some v:=by
  intro i hi
  obtain⟨b,off,cs,ha,hb,hok,hcell⟩:=h2 i hi
  exact⟨cs,b,off,ha,hb,hok,hcell⟩
 obtain⟨F,hF⟩:=Deep.choose_lt (α:=List Value) key
 have hmem:∀r ∈ (List.range len).map F,∃k,k<len∧r=F k:=fun r hr=>by
  obtain⟨k,hk,rfl⟩:=List.mem_map.1 hr
  exact⟨k,List.mem_range.1 hk,rfl⟩
 refine⟨(List.range len).map F,⟨by simp,fun r hr=> ?_,fun k r hr=> ?_⟩,fun r hr=> ?_,h1⟩
 ·obtain⟨k,hk,rfl⟩:=hmem r hr
  obtain⟨b,off,-,-,hok,-⟩:=hF k hk
  exact⟨okL_len hok,okL_cell1 hok⟩
 ·rw [List.getElem?_map,Option.map_eq_some_iff] at hr
  obtain⟨k',hk',rfl⟩:=hr
  have hlt:k<len:=by
   rcases Nat.lt_or_ge k len with h | h
   ·exact h
   ·rw [List.getElem?_eq_none (by simpa using h)] at hk';cases hk'
  rw [List.getElem?_range hlt] at hk'
  cases hk'
  obtain⟨b,off,ha,hb,hok,hc⟩:=hF k hlt
  have:=row_of_cells (w:=w) (p:=⟨b,off+k*ks.length,none⟩) (l:=F k) (fun j v hv=>by rw [add_at];exact hc j v hv)
  rw [okL_len hok] at this
  exact⟨b,off,ha,hb,hb,this.1,this.2⟩
 ·obtain⟨k,hk,rfl⟩:=hmem r hr
  obtain⟨b,off,-,-,hok,-⟩:=hF k hk
  exact hok
theorem int_of {k:IntKind} {v:Value} {l:List Value} {ks:List Kd} (h:okL (.i k :: ks) (v :: l)=true):(∃z:Int,v=.int k z∧(Lit.int k z).wf=true)∧okL ks l=true:=by
 simp only [okL,Bool.and_eq_true] at h
 obtain⟨h1,h2⟩:=h
 cases v <;> simp [okK] at h1
 obtain⟨rfl,h1⟩:=h1
 exact⟨⟨_,rfl,h1⟩,h2⟩
theorem ents_open {fuel:Nat} {a:Option Addr} {len cap:Nat} {x:DataW H×List MemPlace} (h:DataW.trod enc Tryz.prog w 0 (fun _=>true) true fuel 26 [.slice a len cap]=some x) :
 ∃X,RdE (· <w.heap.size) w a len X∧len≤cap∧cap≤maxLen:=by
 obtain⟨L,h1,h2,h3⟩:=rows_open (d:=5) (ks:=[.i .i64,.i .i64,.i .i64,.i .u8,.i .u8,.i .u32,.i .u32]) Tryz.underlying26 (by kernel_rfl) (by kernel_rfl) (by simp) h
 have key:∀r ∈ L,∃x:Int×List Value,enV x=r∧x.2.length=6∧x.2.all cell1=true:=fun r hr=>by
  have hok:=h2 r hr
  match r,okL_len hok with
  | [v0,v1,v2,v3,v4,v5,v6],_=>
    obtain⟨⟨z,rfl,-⟩,hok1⟩:=int_of hok
    exact⟨(z,[v1,v2,v3,v4,v5,v6]),rfl,rfl,okL_cell1 hok1⟩
 obtain⟨X,hX,hXt⟩:∃X:List (Int×List Value),X.map enV=L∧EnT X:=by
  clear h1 h2
  induction L with
  | nil=>exact⟨[],rfl,fun x hx=>by cases hx⟩
  | cons r L ih=>
    obtain⟨X,e1,e2⟩:=ih fun r' hr'=>key r' (by simp [hr'])
    obtain⟨x,e3,e4,e5⟩:=key r (by simp)
    refine⟨x :: X,by rw [List.map_cons,e1,e3],fun y hy=> ?_⟩
    rcases List.mem_cons.1 hy with rfl | hy
    ·exact⟨e4,e5⟩
    ·exact e2 y hy
 exact⟨X,⟨hXt,by rw [hX];exact h1⟩,h3⟩
theorem spells_open {fuel:Nat} {a:Option Addr} {len cap:Nat} {x:DataW H×List MemPlace} (h:DataW.trod enc Tryz.prog w 0 (fun _=>true) true fuel 27 [.slice a len cap]=some x) :
 ∃L,RdF (· <w.heap.size) w a len 5 L∧SpT L∧len≤cap∧cap≤maxLen:=by
 obtain⟨L,h1,h2,h3⟩:=rows_open (d:=5) (ks:=[.i .i64,.i .i64,.i .u8,.i .u8,.i .u64]) Tryz.underlying27 (by kernel_rfl) (by kernel_rfl) (by simp) h
 refine⟨L,h1,fun r hr=> ?_,h3⟩
 have hok:=h2 r hr
 match r,okL_len hok with
 | [v0,v1,v2,v3,v4],_=>
   obtain⟨⟨z0,rfl,-⟩,hok1⟩:=int_of hok
   obtain⟨⟨z1,rfl,-⟩,hok2⟩:=int_of hok1
   obtain⟨⟨z2,rfl,-⟩,hok3⟩:=int_of hok2
   obtain⟨⟨z3,rfl,hw⟩,hok4⟩:=int_of hok3
   obtain⟨⟨z4,rfl,-⟩,-⟩:=int_of hok4
   refine⟨z0,z1,z2,z3,z4,rfl,?_⟩
   simp [Lit.wf,IntKind.min,IntKind.max,IntKind.signed,IntKind.bits] at hw
   omega
set_option maxRecDepth 100000 in
set_option maxHeartbeats 2000000 in
theorem set_trod {fuel:Nat} {cs:List Value} {d:DataW H×List MemPlace} (h:DataW.trod enc Tryz.prog w 0 (fun _=>true) true fuel 31 cs=some d) :
 ∃(A:CfA) (c:Cfg) (ea:Option Addr) (en ec:Nat) (nd lk:Int) (sa:Option Addr) (sn sc:Nat) (X:List (Int×List Value)) (L:List (List Value)),cs=stpV (cfV A c) ea en ec nd lk sa sn sc∧CfR (· <w.heap.size) w A c∧RdE (· <w.heap.size) w ea en X∧RdF (· <w.heap.size) w sa sn 5 L∧SpT L:=by
 obtain⟨xs,n',_,rfl,hlen,hxl,hfl⟩:=DataW.trod_struct Tryz.underlying31 h
 have hc:Tryz.prog.cellsOf 31=13:=by kernel_rfl
 have hcc:Tryz.prog.cellsOf 25=9:=by kernel_rfl
 have hce:Tryz.prog.cellsOf 26=1:=by kernel_rfl
 have hcf:Tryz.prog.cellsOf 29=3:=by kernel_rfl
 have hci:Tryz.prog.cellsOf 3=1:=by kernel_rfl
 have hcs:Tryz.prog.cellsOf 27=1:=by kernel_rfl
 rw [hc] at hlen
 have hx3:xs.length=3:=hxl
 match cs,hlen with
 | [v0,v1,v2,v3,v4,v5,v6,v7,v8,v9,v10,v11,v12],_=>
   match xs,hx3 with
   | [y0,y1,y2],_=>
     have g0:DataW.trod enc Tryz.prog w 0 (fun _=>true) true n' 25 (([v0,v1,v2,v3,v4,v5,v6,v7,v8,v9,v10,v11,v12].drop 0).take (Tryz.prog.cellsOf 25))=some y0:=hfl 0 _ rfl
     have g1:DataW.trod enc Tryz.prog w 0 (fun _=>true) true n' 26 (([v0,v1,v2,v3,v4,v5,v6,v7,v8,v9,v10,v11,v12].drop 9).take (Tryz.prog.cellsOf 26))=some y1:=hfl 1 _ rfl
     have g2:DataW.trod enc Tryz.prog w 0 (fun _=>true) true n' 29 (([v0,v1,v2,v3,v4,v5,v6,v7,v8,v9,v10,v11,v12].drop 10).take (Tryz.prog.cellsOf 29))=some y2:=hfl 2 _ rfl
     rw [hcc] at g0
     rw [hce] at g1
     rw [hcf] at g2
     simp only [List.drop_zero,List.drop_succ_cons,List.take_succ_cons,List.take_zero] at g0 g1 g2
     obtain⟨A,c,e0,hcf⟩:=cfg_trod g0
     obtain⟨ea,en,ec,e1⟩:=slice_one Tryz.underlying26 g1
     rw [e1] at g1
     obtain⟨X,hX,-⟩:=ents_open g1
     obtain⟨zs,n2,_,rfl,-,hzl,hzf⟩:=DataW.trod_struct Tryz.underlying29 g2
     have hz3:zs.length=3:=hzl
     match zs,hz3 with
     | [z0,z1,z2],_=>
       have k0:DataW.trod enc Tryz.prog w 0 (fun _=>true) true n2 3 (([v10,v11,v12].drop 0).take (Tryz.prog.cellsOf 3))=some z0:=hzf 0 _ rfl
       have k1:DataW.trod enc Tryz.prog w 0 (fun _=>true) true n2 3 (([v10,v11,v12].drop 1).take (Tryz.prog.cellsOf 3))=some z1:=hzf 1 _ rfl
       have k2:DataW.trod enc Tryz.prog w 0 (fun _=>true) true n2 27 (([v10,v11,v12].drop 2).take (Tryz.prog.cellsOf 27))=some z2:=hzf 2 _ rfl
       rw [hci] at k0 k1
       rw [hcs] at k2
       simp only [List.drop_zero,List.drop_succ_cons,List.take_succ_cons,List.take_zero] at k0 k1 k2
       obtain⟨nd,e2⟩:=i64_one (flat_open 1 3 [.i .i64] (by kernel_rfl) (by rw [hci];rfl) n2 _ _ k0)
       obtain⟨lk,e3⟩:=i64_one (flat_open 1 3 [.i .i64] (by kernel_rfl) (by rw [hci];rfl) n2 _ _ k1)
       obtain⟨sa,sn,sc,e4⟩:=slice_one Tryz.underlying27 k2
       rw [e4] at k2
       obtain⟨L,hL,hT,-⟩:=spells_open k2
       simp only [List.cons.injEq,and_true] at e1 e2 e3 e4
       refine⟨A,c,ea,en,ec,nd,lk,sa,sn,sc,X,L,?_,hcf,hX,hL,hT⟩
       rw [stpV,←e0,e1,e2,e3,e4]
       rfl
theorem set_open {v:Value} {d:DataW H} {pl:List MemPlace} (h:DataW.Trod enc Tryz.prog w 0 (fun _=>true) true 31 v d pl) (hv:∃cs,v=.agg cs∧cs.size=Tryz.prog.cellsOf 31) :
 ∃(A:CfA) (c:Cfg) (ea:Option Addr) (en ec:Nat) (nd lk:Int) (sa:Option Addr) (sn sc:Nat) (X:List (Int×List Value)) (L:List (List Value)),v=.agg (stpV (cfV A c) ea en ec nd lk sa sn sc).toArray∧CfR (· <w.heap.size) w A c∧RdE (· <w.heap.size) w ea en X∧RdF (· <w.heap.size) w sa sn 5 L∧SpT L:=by
 obtain⟨cs,rfl,hsz⟩:=hv
 obtain⟨fuel,hf⟩:=h
 obtain⟨A,c,ea,en,ec,nd,lk,sa,sn,sc,X,L,h1,h2⟩:=set_trod hf
 refine⟨A,c,ea,en,ec,nd,lk,sa,sn,sc,X,L,?_,h2⟩
 congr 1
 apply Array.ext'
 simpa [Value.cells] using h1
end
open Go.RowKit Go.WideShapes
def RdCs (S:Nat→Prop) (w:World) (a:Option Addr) (len:Nat) (l:List (List Value)):Prop:=
 l.length=len∧(∀c ∈ l,okL cellK c=true)∧∀(k:Nat) (c:List Value),l[k]? =some c→∃b off,a=some ⟨b,off,none⟩∧S b∧b<w.heap.size∧hasRow w ⟨b,off+k*55,none⟩ 55=true∧rowOf w ⟨b,off+k*55,none⟩ 55=c
theorem RdCs.keep {S:Nat→Prop} {w w':World} {a:Option Addr} {len:Nat} {l:List (List Value)} (h:RdCs S w a len l) (hs:w.heap.size≤w'.heap.size) (hk:∀b,S b→b<w.heap.size→w'.heap[b]? =w.heap[b]?):RdCs S w' a len l:=
 ⟨h.1,h.2.1,fun k x hx=>by
   obtain⟨b,off,e,hS,hb,h1,h2⟩:=h.2.2 k x hx
   have:=row_block (n:=55) (p:=⟨b,off+k*55,none⟩) (hk b hS hb)
   exact⟨b,off,e,hS,by omega,this.1.trans h1,this.2.trans h2⟩⟩
theorem RdCs.below {S:Nat→Prop} {w w':World} {B:Nat} {a:Option Addr} {len:Nat} {l:List (List Value)} (h:RdCs S w a len l) (hb:Below B w w') (hB:∀b,S b→b<w.heap.size→b<B):RdCs S w' a len l:=
 h.keep hb.size fun b hS hlt=>hb.block b (hB b hS hlt)
theorem RdCs.at_ {S:Nat→Prop} {w:World} {a:Option Addr} {len:Nat} {l:List (List Value)} (h:RdCs S w a len l) (k:Nat) (hk:k<len) :
 ∃b off c,a=some ⟨b,off,none⟩∧S b∧b<w.heap.size∧l[k]? =some c∧okL cellK c=true∧c.length=55∧c.all cell1=true∧hasRow w ⟨b,off+k*55,none⟩ 55=true∧rowOf w ⟨b,off+k*55,none⟩ 55=c:=by
 obtain⟨h1,h2,h3⟩:=h
 have hv:l[k]? =some (l[k]'(by omega)):=List.getElem?_eq_getElem _
 obtain⟨b,off,e,hS,hb,hr1,hr2⟩:=h3 k _ hv
 have ho:=h2 _ (List.mem_of_getElem? hv)
 exact⟨b,off,_,e,hS,hb,hv,ho,(okL_len ho).trans len_cellK,okL_cell1 ho,hr1,hr2⟩
section
variable {H:Type} {enc:TypeId×Value→H} {P:Program} {w:World} {spare:Nat→Bool} {held:Bool}
theorem RdCs.open_ {t e:TypeId} {a:Option Addr} {len cap:Nat} {d:DataW H×List MemPlace} {fuel:Nat} (ht:P.underlying t=some (.slice e)) (hf:flatT P 7 e=some cellK) (hc:P.cellsOf e=55)
 (h:DataW.trod enc P w 0 spare held fuel t [.slice a len cap]=some d):∃l,RdCs (· <w.heap.size) w a len l∧len≤cap∧cap≤maxLen:=by
 rcases Deep.open_slice ht h with ⟨hcs,_⟩ | ⟨x,l,c,m,n,D,Pl,hcs,_,hl,hm,hmm,_,hx⟩
 ·simp at hcs
  obtain⟨rfl,rfl,rfl⟩:=hcs
  exact⟨[],⟨rfl,by simp,by simp⟩,Nat.le_refl _,by simp⟩
 ·simp at hcs
  obtain⟨rfl,rfl,rfl⟩:=hcs
  have hle:len≤m:=by rw [hmm];split <;> omega
  rw [hc] at hx
  have key:∀i,i<len→∃y:List Value,okL cellK y=true∧w.cells? 0 (x.add (i*55)) 55=some y:=by
   intro i hi
   obtain⟨cs,h1,h2⟩:=hx i (by omega)
   exact⟨cs,flat_open 7 e cellK hf (by rw [hc,len_cellK]) n cs _ h2,h1⟩
  obtain⟨F,hF⟩:=Deep.choose_lt (α:=List Value) key
  refine⟨(List.range len).map F,⟨by simp,fun y hy=> ?_,fun k y hy=> ?_⟩,hl,hm⟩
  ·simp at hy
   obtain⟨i,hi,rfl⟩:=hy
   exact (hF i hi).1
  ·rw [List.getElem?_map,Option.map_eq_some_iff] at hy
   obtain⟨k',hk',rfl⟩:=hy
   have hlt:k<len:=by
    rcases Nat.lt_or_ge k len with h | h
    ·exact h
    ·rw [List.getElem?_eq_none (by simpa using h)] at hk';cases hk'
   rw [List.getElem?_range hlt] at hk'
   cases hk'
   obtain⟨h1,h2⟩:=hF k hlt
   obtain⟨_,hcl,hat⟩:=World.cells?_some h2
   have hcell:∀j v,(F k)[j]? =some v→w.cell? ((x.add (k*55)).add j)=some v:=fun j v hv=>by
    have hj:j<55:=by rw [←hcl];exact (List.getElem?_eq_some_iff.1 hv).1
    rw [hat j hj,hv]
   have hr:=row_of_cells hcell
   rw [hcl] at hr
   have hlen1:(F k).length=55:=(okL_len h1).trans len_cellK
   have h0:=hcell 0 _ (List.getElem?_eq_getElem (by omega))
   obtain⟨b,off,spot⟩:=x
   have hs:spot=none:=by
    have h00:=hF 0 (by omega)
    obtain⟨_,hcl0,hat0⟩:=World.cells?_some h00.2
    have:=World.cell?_spot ((hat0 0 (by omega)).trans (List.getElem?_eq_getElem (by omega)))
    simpa [Addr.add] using this
   subst hs
   rw [add_at] at hr h0
   exact⟨b,off,rfl,World.block_lt_of_cell? w _ h0,World.block_lt_of_cell? w _ h0,hr.1,hr.2⟩
theorem okWide_array {r:Reach} {base:Nat} {t e:TypeId} {n:Nat} {v:Value} (ht:P.underlying t=some (.array n e)) (h:Value.okWide P w r base t v):∃cs,v=.agg cs∧cs.size=P.cellsOf t:=by
 simp only [Value.okWide,ht] at h
 obtain⟨cs,h1,h2,_⟩:=h
 exact⟨cs,h1,h2⟩
theorem arr_open {t e:TypeId} {n:Nat} {ks:List Kd} {v:Value} {d:DataW H} {pl:List MemPlace} (ht:P.underlying t=some (.array n e)) (hf:flatT P 7 t=some ks) (hc:P.cellsOf t=ks.length) (hv:∃cs,v=.agg cs∧cs.size=P.cellsOf t)
 (h:DataW.Trod enc P w 0 spare held t v d pl):∃l,v=.agg l.toArray∧okL ks l=true:=by
 obtain⟨cs,rfl,hs⟩:=hv
 obtain⟨fuel,hfu⟩:=h
 exact⟨cs.toList,by simp,flat_open 7 t ks hf hc fuel _ _ hfu⟩
theorem two_i64 {l:List Value} (h:okL [.i .i64,.i .i64] l=true):∃p q:Int,l=[.int .i64 p,.int .i64 q]∧(-9223372036854775808≤p∧p≤9223372036854775807)∧ -9223372036854775808≤q∧q≤9223372036854775807:=by
 match l,okL_len h with
 | [a,b],_=>
   simp only [okL,Bool.and_eq_true,and_true] at h
   cases a <;> cases b <;> simp [okK] at h
   obtain⟨⟨rfl,h1⟩,rfl,h2⟩:=h
   exact⟨_,_,rfl,by simpa [Lit.wf,IntKind.min,IntKind.max,IntKind.signed,IntKind.bits] using h1,by simpa [Lit.wf,IntKind.min,IntKind.max,IntKind.signed,IntKind.bits] using h2⟩
theorem three_u8 {l:List Value} (h:okL [.i .u8,.i .u8,.i .u8] l=true):∃p q r:Int,l=[.int .u8 p,.int .u8 q,.int .u8 r]∧(0≤p∧p≤255)∧(0≤q∧q≤255)∧0≤r∧r≤255:=by
 match l,okL_len h with
 | [a,b,c],_=>
   simp only [okL,Bool.and_eq_true,and_true] at h
   cases a <;> cases b <;> cases c <;> simp [okK] at h
   obtain⟨⟨rfl,h1⟩,⟨rfl,h2⟩,rfl,h3⟩:=h
   exact⟨_,_,_,rfl,by simpa [Lit.wf,IntKind.min,IntKind.max,IntKind.signed,IntKind.bits] using h1,by simpa [Lit.wf,IntKind.min,IntKind.max,IntKind.signed,IntKind.bits] using h2,by simpa [Lit.wf,IntKind.min,IntKind.max,IntKind.signed,IntKind.bits] using h3⟩
theorem two_u8 {l:List Value} (h:okL [.i .u8,.i .u8] l=true):∃p q:Int,l=[.int .u8 p,.int .u8 q]∧(0≤p∧p≤255)∧0≤q∧q≤255:=by
 match l,okL_len h with
 | [a,b],_=>
   simp only [okL,Bool.and_eq_true,and_true] at h
   cases a <;> cases b <;> simp [okK] at h
   obtain⟨⟨rfl,h1⟩,rfl,h2⟩:=h
   exact⟨_,_,rfl,by simpa [Lit.wf,IntKind.min,IntKind.max,IntKind.signed,IntKind.bits] using h1,by simpa [Lit.wf,IntKind.min,IntKind.max,IntKind.signed,IntKind.bits] using h2⟩
end
end Go.Proofs.YtdilbjikeilhbaaGreatDoor
