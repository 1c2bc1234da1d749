import Derived.Test.YtdilbjikeilhbaaGreatDoorGn06
import Derived.Test.YtdilbjikeilhbaaGreatDoorGn24
import Derived.Test.YtdilbjikeilhbaaGreatDoorGn21
import Derived.Test.YtdilbjikeilhbaaGreatDoorGn25
namespace Go.Proofs.YtdilbjikeilhbaaGreatDoor
open Go.RowKit
set_option linter.unusedVariables false
set_option linter.unusedSimpArgs false
def FlatL (sz:Nat) (L:List (List Value)):Prop:=∀r ∈ L,r.length=sz∧r.all cell1=true
def RdF (S:Nat→Prop) (w:World) (a:Option Addr) (n sz:Nat) (L:List (List Value)):Prop:=
 L.length=n∧FlatL sz L∧∀k r,L[k]? =some r→∃b off,a=some ⟨b,off,none⟩∧S b∧b<w.heap.size∧hasRow w ⟨b,off+k*sz,none⟩ sz=true∧rowOf w ⟨b,off+k*sz,none⟩ sz=r
theorem RdF.keep {S:Nat→Prop} {w w':World} {a:Option Addr} {n sz:Nat} {L:List (List Value)} (h:RdF S w a n sz L) (hs:w.heap.size≤w'.heap.size) (hk:∀b,S b→b<w.heap.size→w'.heap[b]? =w.heap[b]?):RdF S w' a n sz L:=
 ⟨h.1,h.2.1,fun k r hr=>by
   obtain⟨b,off,e,hS,hb,h1,h2⟩:=h.2.2 k r hr
   have:=row_block (n:=sz) (p:=⟨b,off+k*sz,none⟩) (hk b hS hb)
   exact⟨b,off,e,hS,by omega,this.1.trans h1,this.2.trans h2⟩⟩
theorem RdF.mono {S S':Nat→Prop} {w:World} {a:Option Addr} {n sz:Nat} {L:List (List Value)} (h:RdF S w a n sz L) (hs:∀b,b<w.heap.size→S b→S' b):RdF S' w a n sz L:=
 ⟨h.1,h.2.1,fun k r hr=>by
   obtain⟨b,off,e,hS,hb,h1,h2⟩:=h.2.2 k r hr
   exact⟨b,off,e,hs b hb hS,hb,h1,h2⟩⟩
theorem RdF.below {S:Nat→Prop} {w w':World} {a:Option Addr} {n sz:Nat} {L:List (List Value)} (h:RdF S w a n sz L) (hb:Below w.heap.size w w'):RdF S w' a n sz L:=h.keep hb.size fun b _ hl=>hb.block b hl
theorem RdF.nil (S:Nat→Prop) (w:World) (a:Option Addr) (sz:Nat):RdF S w a 0 sz []:=⟨rfl,(fun r hr=>by cases hr),fun k r hr=>by simp at hr⟩
theorem flat_len {sz:Nat} {L:List (List Value)} (h:FlatL sz L):L.flatten.length=L.length*sz:=by
 induction L with
 | nil=>simp
 | cons r L ih=>
   rw [List.flatten_cons,List.length_append,(h r (by simp)).1,ih (fun x hx=>h x (by simp [hx])),List.length_cons,Nat.succ_mul,Nat.add_comm]
theorem flat_at {sz:Nat} {L:List (List Value)} (h:FlatL sz L) {k:Nat} {r:List Value} (hk:L[k]? =some r) {j:Nat} (hj:j<sz):L.flatten[k*sz+j]? =r[j]?:=by
 induction L generalizing k with
 | nil=>simp at hk
 | cons x L ih=>
   have hx:=(h x (by simp)).1
   cases k with
   | zero=>
     simp at hk
     subst hk
     rw [List.flatten_cons,List.getElem?_append_left (by omega)]
     congr 1;omega
   | succ k=>
     simp at hk
     have hs:(k+1)*sz=k*sz+sz:=Nat.succ_mul _ _
     rw [List.flatten_cons,List.getElem?_append_right (by omega),←ih (fun y hy=>h y (by simp [hy])) hk]
     congr 1;omega
theorem flat_cell1 {sz:Nat} {L:List (List Value)} (h:FlatL sz L):L.flatten.all cell1=true:=by
 rw [List.all_flatten,List.all_eq_true]
 intro r hr
 exact (h r hr).2
theorem RdF.whole {S:Nat→Prop} {w:World} {x:Option Addr} {m sz:Nat} {L:List (List Value)} (h:RdF S w x m sz L) (hm:0<m) (hsz:0<sz) :
 ∃b off,x=some ⟨b,off,none⟩∧S b∧b<w.heap.size∧hasRow w ⟨b,off,none⟩ (m*sz)=true∧rowOf w ⟨b,off,none⟩ (m*sz)=L.flatten:=by
 obtain⟨h1,h2,h3⟩:=h
 obtain⟨b,off,hx,hS,hb,-⟩:=h3 0 _ (List.getElem?_eq_getElem (by omega))
 refine⟨b,off,hx,hS,hb,?_⟩
 have hl:L.flatten.length=m*sz:=by rw [flat_len h2,h1]
 have:=row_of_cells (w:=w) (p:=⟨b,off,none⟩) (l:=L.flatten) (fun j v hv=>by
  have hj:j<m*sz:=by rw [←hl];exact (List.getElem?_eq_some_iff.1 hv).1
  have hk:j / sz<L.length:=by rw [h1];exact Nat.div_lt_of_lt_mul (by rw [Nat.mul_comm];exact hj)
  have hkk:L[j / sz]? =some (L[j / sz]'hk):=List.getElem?_eq_getElem hk
  obtain⟨b',off',hx',-,-,hr1,hr2⟩:=h3 (j / sz) _ hkk
  rw [hx] at hx'
  cases hx'
  have hj2:j % sz<sz:=Nat.mod_lt _ hsz
  have e1:=flat_at h2 hkk hj2
  have hdm:j / sz*sz+j % sz=j:=by rw [Nat.mul_comm];exact Nat.div_add_mod j sz
  rw [hdm,hv] at e1
  have e2:=rowOf_at hr1 (j % sz) hj2
  rw [hr2,←e1] at e2
  rw [add_at] at e2 ⊢
  rw [←e2]
  congr 2;omega)
 rwa [hl] at this
theorem own_rdf {e:TypeId} {base n sz:Nat} {w:World} {v:Value} {L:List (List Value)} (hL:FlatL sz L) (hn:L.length=n) (h:w.ownsRow base e sz v n L.flatten):∃a cap,v=.slice a n cap∧RdF (base≤·) w a n sz L∧n≤cap∧cap≤maxLen:=by
 rcases h.2 with ⟨rfl,h0⟩ | ⟨g,cap,cur,rfl,hb,hg,hnc,hcm,hcs,htake⟩
 ·subst h0
  have:L=[]:=List.eq_nil_of_length_eq_zero hn
  subst this
  exact⟨none,0,rfl,RdF.nil _ _ _ _,Nat.le_refl _,by simp⟩
 ·refine⟨_,cap,rfl,⟨hn,hL,fun k r hr=> ?_⟩,hnc,hcm⟩
  have hk:k<L.length:=(List.getElem?_eq_some_iff.1 hr).1
  have hrl:=(hL r (List.mem_of_getElem? hr)).1
  have hks:k*sz+sz≤n*sz:=by rw [←Nat.succ_mul];exact Nat.mul_le_mul_right _ (by omega)
  have:=row_of_cells (w:=w) (p:=⟨g,0+k*sz,none⟩) (l:=r) (fun j u hu=>by
   have hj:j<sz:=by rw [←hrl];exact (List.getElem?_eq_some_iff.1 hu).1
   rw [add_at,cell_of_row w g _ cur _ (0,0) hg,Nat.zero_add]
   have e1:cur[k*sz+j]? =(cur.toList.take (n*sz))[k*sz+j]?:=by rw [List.getElem?_take,if_pos (by omega)];simp
   rw [e1,htake,flat_at hL hr hj,hu])
  rw [hrl] at this
  exact⟨g,0,rfl,hb,lt_of_heap hg,this.1,this.2⟩
theorem wpList_appF {P:Program} {t e:TypeId} {sz:Nat} (hA:AppOk P t e sz) (hsz0:0<sz) {w:World} {ops:Array Oper} {rest:List Oper} {o:Oper} {a:Act} {Q:Exit→Act→World→Prop} (hgd:o.guard=none) (s x:Operand)
 (ho:o.op=.call { callee:=.builtin .append,args:=#[s,x],argTypes:=#[t,t] })
 (base:Nat) (v:Value) (n:Nat) (xs:List Value) (hs:a.eval s=v) (hown:w.ownsRow base e sz v n xs)
 {S:Nat→Prop} (ad:Option Addr) (m c:Nat) (L:List (List Value)) (hx:a.eval x=.slice ad m c) (hrd:RdF S w ad m sz L)
 (hn:n+m≤1000000000) (hbase:base≤w.heap.size)
 (h:∀v' w',w'.ownsRow base e sz v' (n+m) (xs++L.flatten)→w.grownBy w' v.ownBlock→(∃x c,v'=.slice x (n+m) c)→wpList P ops Q rest (a.put o.dst v') w'):wpList P ops Q (o :: rest) a w:=by
 rcases Nat.eq_zero_or_pos m with rfl | hm
 ·have hl:L=[]:=List.eq_nil_of_length_eq_zero hrd.1
  subst hl
  obtain⟨ht,i,z,hi,hz,hsize,hby,hzs,hsz⟩:=hA
  refine wpList_plain hgd fun K hK=> ?_
  unfold Oper.wp execOp
  simp only [ho,resolve,invoke,builtin,Sem.run_bind,Sem.run_pure,Result.andThen_ok,List.map_toArray,List.map_cons,List.map_nil,hs,hx,run_append_zero ht hi v n xs hown ad c]
  refine hK _ _ (h v w (by simpa using hown) ⟨rfl,rfl,rfl,Nat.le_refl _,fun _ _ _=>rfl⟩ ?_)
  rcases hown.2 with ⟨rfl,rfl⟩ | ⟨g,cap,cur,rfl,_⟩
  ·exact⟨_,_,rfl⟩
  ·exact⟨_,_,rfl⟩
 ·obtain⟨b,off,rfl,-,-,h1,h2⟩:=hrd.whole hm hsz0
  refine wpList_lies hA hgd s x ho base v n xs hs hown _ m c L.flatten hx (by rw [flat_len hrd.2.1,hrd.1]) h1 h2 (flat_cell1 hrd.2.1) hm hn hbase (fun g cap w' k1 k2 _=>h _ w' k1 k2 ⟨_,_,rfl⟩)
def NewF (sz:Nat) (L:List (List Value)) (w:World) (e:Ending) (w':World):Prop:=∃a cap,e=.returned (.slice a L.length cap)∧RdF (w.heap.size≤·) w' a L.length sz L∧L.length≤cap∧cap≤maxLen∧Below w.heap.size w w'
theorem app_sp:AppOk Tryz.prog 27 127 5:=appOk_of Tryz.underlying27 (by kernel_rfl)
theorem app_ent:AppOk Tryz.prog 102 99 6:=appOk_of Tryz.underlying102 (by kernel_rfl)
@[go_sem ↓] theorem bs_sp0 (ρ:Operand→Value) (d:Option Tmp) (ty:TypeId) (s:String) (af:Array Edge) (g:Option (Nat×Bool)) (w:World) :
 (execOp ρ { dst:=d,op:=.buildSlice 27 0 #[],type:=ty,pos:=s,after:=af,guard:=g }).run Tryz.prog w=.ok (.value (.slice (some ⟨w.heap.size,0,none⟩) 0 0)) (w.alloc (.cells #[] 127)):=by
 obtain⟨ht,i,z,hi,hz,h1,h2,h3,h4⟩:=app_sp
 have e:Instr.fill (fun i=>some (i*5,5)) (Array.map (fun _=>(default:Value)) (Array.range 0)) []=some #[]:=by
  simp [Instr.fill]
 simp [execOp,Instr.buildSlice,run_underlying ht,sizeOf,typeInfo,hi,h1,newRow,newObj,Sem.run,e]
@[go_sem ↓] theorem bs_ent0 (ρ:Operand→Value) (d:Option Tmp) (ty:TypeId) (s:String) (af:Array Edge) (g:Option (Nat×Bool)) (w:World) :
 (execOp ρ { dst:=d,op:=.buildSlice 102 0 #[],type:=ty,pos:=s,after:=af,guard:=g }).run Tryz.prog w=.ok (.value (.slice (some ⟨w.heap.size,0,none⟩) 0 0)) (w.alloc (.cells #[] 99)):=by
 obtain⟨ht,i,z,hi,hz,h1,h2,h3,h4⟩:=app_ent
 have e:Instr.fill (fun i=>some (i*6,6)) (Array.map (fun _=>(default:Value)) (Array.range 0)) []=some #[]:=by
  simp [Instr.fill]
 simp [execOp,Instr.buildSlice,run_underlying ht,sizeOf,typeInfo,hi,h1,newRow,newObj,Sem.run,e]
@[go_sem] theorem eql_nil_sp (w:World) (a:Option Addr) (n c:Nat):(binOp .eql 27 (.slice a n c) (.slice none 0 0)).run Tryz.prog w=.ok (.bool a.isNone) w:=by
 simp only [binOp]
 simp [run_equal_slice_nil w _ _ a n c Tryz.underlying27]
@[go_sem] theorem eql_nil_ent (w:World) (a:Option Addr) (n c:Nat):(binOp .eql 102 (.slice a n c) (.slice none 0 0)).run Tryz.prog w=.ok (.bool a.isNone) w:=by
 simp only [binOp]
 simp [run_equal_slice_nil w _ _ a n c Tryz.underlying102]
set_option maxRecDepth 100000 in
set_option maxHeartbeats 1000000 in
theorem cloneSp_any (S:Nat→Prop) (x:Option Addr) (m cap:Nat) (L:List (List Value)) (w:World) (hrd:RdF S w x m 5 L) (hbig:m≤100000) :
 Calls Tryz.prog 36 #[.slice x m cap] w (NewF 5 L w):=by
 have hl:L.length=m:=hrd.1
 have hfl:=hrd.2.1
 cases x with
 | none=>
   have hm0:m=0:=by
    rcases Nat.eq_zero_or_pos m with h | h
    ·exact h
    ·obtain⟨b,off,hx,-⟩:=hrd.whole h (by omega);cases hx
   subst hm0
   have ht:L=[]:=List.eq_nil_of_length_eq_zero hl
   subst ht
   clear hrd hl
   go_enter Tryz.func36,Tryz.ntmps36
   go_wp2
   go_ret
   exact⟨none,0,rfl,RdF.nil _ _ _ _,Nat.le_refl _,by simp,Below.refl _ _⟩
 | some p=>
   have HR:=Lib.hid (And.intro hl hfl)
   have hisn:(some p:Option Addr).isNone=false:=rfl
   have hown:=World.ownsRow_lit (base:=w.heap.size) (size:=5) (e:=127) w #[] 0 (Nat.le_refl _) (by simp) rfl
   have hB:Below w.heap.size w (w.alloc (.cells #[] 127)):=(Below.refl _ _).alloc (Nat.le_refl _) _
   have HO:=Lib.hid (And.intro hown (And.intro hB (hrd.below hB)))
   clear hown hB hrd hl hfl
   go_enter Tryz.func36,Tryz.ntmps36
   go_wp2_with (at_builtin;refine wpList_appF app_sp (by omega) (by rfl) (.tmp 5) (.tmp 6) (by rfl) w.heap.size _ _ _ (by rfl) HO.out.1 (some p) m cap L (by rfl) HO.out.2.2 (by omega) (by simp) ?_;intro v1 w1 hown1 hg1 hv1;have H1:=Lib.hid (And.intro hown1 (And.intro hg1 hv1));clear hown1 hg1 hv1)
   go_ret
   obtain⟨h1,h2,x1,c1,rfl⟩:=H1.out
   rw [Nat.zero_add] at h1
   have hll:=HR.out.1
   have ho:w1.ownsRow w.heap.size 127 5 (.slice x1 m c1) m L.flatten:=by simpa using h1
   obtain⟨a',c',he,k1,k2,k3⟩:=own_rdf HR.out.2 hll ho
   cases he
   subst hll
   exact⟨_,_,by simp,k1,k2,k3,HO.out.2.1.grown h2 (by simp) (fun q hq=>(HO.out.1.lt q hq).1)⟩
set_option maxRecDepth 100000 in
set_option maxHeartbeats 1000000 in
theorem cloneEn_any (S:Nat→Prop) (x:Option Addr) (m cap:Nat) (L:List (List Value)) (w:World) (hrd:RdF S w x m 6 L) (hbig:m≤100000) :
 Calls Tryz.prog 40 #[.slice x m cap] w (NewF 6 L w):=by
 have hl:L.length=m:=hrd.1
 have hfl:=hrd.2.1
 cases x with
 | none=>
   have hm0:m=0:=by
    rcases Nat.eq_zero_or_pos m with h | h
    ·exact h
    ·obtain⟨b,off,hx,-⟩:=hrd.whole h (by omega);cases hx
   subst hm0
   have ht:L=[]:=List.eq_nil_of_length_eq_zero hl
   subst ht
   clear hrd hl
   go_enter Tryz.func40,Tryz.ntmps40
   go_wp2
   go_ret
   exact⟨none,0,rfl,RdF.nil _ _ _ _,Nat.le_refl _,by simp,Below.refl _ _⟩
 | some p=>
   have HR:=Lib.hid (And.intro hl hfl)
   have hisn:(some p:Option Addr).isNone=false:=rfl
   have hown:=World.ownsRow_lit (base:=w.heap.size) (size:=6) (e:=99) w #[] 0 (Nat.le_refl _) (by simp) rfl
   have hB:Below w.heap.size w (w.alloc (.cells #[] 99)):=(Below.refl _ _).alloc (Nat.le_refl _) _
   have HO:=Lib.hid (And.intro hown (And.intro hB (hrd.below hB)))
   clear hown hB hrd hl hfl
   go_enter Tryz.func40,Tryz.ntmps40
   go_wp2_with (at_builtin;refine wpList_appF app_ent (by omega) (by rfl) (.tmp 5) (.tmp 6) (by rfl) w.heap.size _ _ _ (by rfl) HO.out.1 (some p) m cap L (by rfl) HO.out.2.2 (by omega) (by simp) ?_;intro v1 w1 hown1 hg1 hv1;have H1:=Lib.hid (And.intro hown1 (And.intro hg1 hv1));clear hown1 hg1 hv1)
   go_ret
   obtain⟨h1,h2,x1,c1,rfl⟩:=H1.out
   rw [Nat.zero_add] at h1
   have hll:=HR.out.1
   have ho:w1.ownsRow w.heap.size 99 6 (.slice x1 m c1) m L.flatten:=by simpa using h1
   obtain⟨a',c',he,k1,k2,k3⟩:=own_rdf HR.out.2 hll ho
   cases he
   subst hll
   exact⟨_,_,by simp,k1,k2,k3,HO.out.2.1.grown h2 (by simp) (fun q hq=>(HO.out.1.lt q hq).1)⟩
theorem ag_flt:aggOf Tryz.prog 29 3=true:=by kernel_rfl
section
variable (ρ:Operand→Value) (d:Option Tmp) (x y z u:Operand) (ty:TypeId) (s:String) (af:Array Edge) (g:Option (Nat×Bool)) (w:World)
@[go_sem ↓] theorem ld_flt (h:hasRowV w 3 (ρ x)=true):(execOp ρ { dst:=d,op:=.load 29 x,type:=ty,pos:=s,after:=af,guard:=g }).run Tryz.prog w=.ok (.value (.agg (rowV w 3 (ρ x)).toArray)) w:=exec_load ag_flt ρ d x ty s af g w h
theorem bt_mouth:buildT Tryz.prog 166 [Value.int .i64 0,.int .i64 0,.int .i64 0,.slice none 0 0,.map none,.map none] [(0,1),(1,3),(4,1),(5,1)]:=⟨by kernel_rfl,by kernel_rfl⟩
@[go_sem ↓] theorem bd_mouth (h0:lenC (ρ x) 1=true) (h1:lenC (ρ y) 3=true) (h2:lenC (ρ z) 1=true) (h3:lenC (ρ u) 1=true):(execOp ρ { dst:=d,op:=.build 166 #[(0,x),(1,y),(2,z),(3,u)],type:=ty,pos:=s,after:=af,guard:=g }).run Tryz.prog w=.ok (.value (.agg (cellsL (ρ x)++(cellsL (ρ y)++(cellsL (ρ z)++cellsL (ρ u)))).toArray)) w:=by
 obtain⟨a0,e0⟩:∃a,cellsL (ρ x)=[a]:=by
  have:(cellsL (ρ x)).length=1:=by simpa [lenC] using h0
  match h:cellsL (ρ x),this with
  | [a],_=>exact⟨a,rfl⟩
 obtain⟨b0,b1,b2,e1⟩:∃a b c,cellsL (ρ y)=[a,b,c]:=by
  have:(cellsL (ρ y)).length=3:=by simpa [lenC] using h1
  match h:cellsL (ρ y),this with
  | [a,b,c],_=>exact⟨a,b,c,rfl⟩
 obtain⟨c0,e2⟩:∃a,cellsL (ρ z)=[a]:=by
  have:(cellsL (ρ z)).length=1:=by simpa [lenC] using h2
  match h:cellsL (ρ z),this with
  | [a],_=>exact⟨a,rfl⟩
 obtain⟨d0,e3⟩:∃a,cellsL (ρ u)=[a]:=by
  have:(cellsL (ρ u)).length=1:=by simpa [lenC] using h3
  match h:cellsL (ρ u),this with
  | [a],_=>exact⟨a,rfl⟩
 refine exec_build ρ d _ ty s af g w ?_
 simp only [List.map_toArray,List.map_cons,List.map_nil]
 rw [built_of bt_mouth]
 rw [fill_one _ _ 0 0 1 _ _ rfl (by rw [e0];rfl) (by simp),fill_one _ _ 1 1 3 _ _ rfl (by rw [e1];rfl) (by simp [spl,e0]),fill_one _ _ 2 4 1 _ _ rfl (by rw [e2];rfl) (by simp [spl,e0,e1]),fill_one _ _ 3 5 1 _ _ rfl (by rw [e3];rfl) (by simp [spl,e0,e1,e2]),fill_nil]
 simp [spl,e0,e1,e2,e3]
end
@[go_sem] theorem mk_told (w:World):(Instr.makeMap 163 none).run Tryz.prog w=.ok (.map (some w.heap.size)) (w.alloc (.map #[] 0)):=by
 simp [Instr.makeMap,newObj,Sem.run]
@[go_sem] theorem mk_last (w:World):(Instr.makeMap 164 none).run Tryz.prog w=.ok (.map (some w.heap.size)) (w.alloc (.map #[] 0)):=by
 simp [Instr.makeMap,newObj,Sem.run]
theorem one_any (i m:Int) (w:World):Calls Tryz.prog 35 #[.int .i64 i,.int .i64 m] w fun e w'=>e=.returned (.bool (decide (-1≤i)&&decide (i<m)))∧w=w':=by
 by_cases h: -1≤i
 ·go_enter Tryz.func35,Tryz.ntmps35
  go_wp2
  go_ret
  exact⟨by simp [h],rfl⟩
 ·go_enter Tryz.func35,Tryz.ntmps35
  go_wp2
  go_ret
  exact⟨by simp;intro h';omega,rfl⟩
def FNewNo (w:World) (e:Ending) (w':World):Prop:=e=.returned (.tuple #[.pointer none,.int .i64 1])∧Below w.heap.size w w'
def FNewYes (n nd lk:Int) (L:List (List Value)) (w:World) (e:Ending) (w':World):Prop:=∃mb tm lm a cap,e=.returned (.tuple #[.pointer (some ⟨mb,0,none⟩),.int .i64 0])∧w.heap.size≤mb∧w.heap.size≤tm∧w.heap.size≤lm∧MoB w' mb n nd lk (.slice a L.length cap) tm lm∧
 w'.heap[tm]? =some (.map #[] 0)∧w'.heap[lm]? =some (.map #[] 0)∧tm≠lm∧RdF (w.heap.size≤·) w' a L.length 5 L∧Below w.heap.size w w'
def fOk (n nd lk:Int) (m:Nat):Prop:=(-1≤nd∧nd<n)∧(-1≤lk∧lk<4*n)∧m≤64
set_option maxRecDepth 100000 in
set_option maxHeartbeats 2000000 in
theorem fnew_no (n nd lk:Int) (a:Option Addr) (m cap:Nat) (w:World) (h4:4≤n) (h16:n≤16) (hm:m≤1000000) (hno:¬fOk n nd lk m) :
 Calls Tryz.prog 21 #[.int .i64 n,.agg #[.int .i64 nd,.int .i64 lk,.slice a m cap]] w (FNewNo w):=by
 have hB:Below w.heap.size w (w.alloc (.cells #[Value.int .i64 nd,.int .i64 lk,.slice a m cap] 29)):=(Below.refl _ _).alloc (Nat.le_refl _) _
 have k1:=Blk.new w 29 #[Value.int .i64 nd,.int .i64 lk,.slice a m cap]
 have c0:(w.alloc (.cells #[Value.int .i64 nd,.int .i64 lk,.slice a m cap] 29)).cell? ⟨w.heap.size,0,none⟩=some (.int .i64 nd):=k1.cell 0
 have c1:(w.alloc (.cells #[Value.int .i64 nd,.int .i64 lk,.slice a m cap] 29)).cell? ⟨w.heap.size,1,none⟩=some (.int .i64 lk):=k1.cell 1
 have c2:(w.alloc (.cells #[Value.int .i64 nd,.int .i64 lk,.slice a m cap] 29)).cell? ⟨w.heap.size,2,none⟩=some (.slice a m cap):=k1.cell 2
 have h1:¬n<4:=by omega
 have h2:¬16<n:=by omega
 have hw:IntKind.i64.wrap (4*n)=4*n:=IntWalk.i64_in _ (by omega)
 have HB:=Lib.hid hB
 have H1:=Lib.hid (fun w=>one_any nd n w)
 have H2:=Lib.hid (fun w=>one_any lk (4*n) w)
 clear hB k1
 go_enter Tryz.func21,Tryz.ntmps21
 go_upto_region 1 with fail
 generalize w.alloc (.cells #[Value.int .i64 nd,.int .i64 lk,.slice a m cap] 29)=w1 at HB c0 c1 c2 ⊢
 by_cases hnd: -1≤nd∧nd<n
 ·have e1:(decide (-1≤nd)&&decide (nd<n))=true:=by simp [hnd]
  rw [e1] at H1
  by_cases hlk: -1≤lk∧lk<4*n
  ·have e2:(decide (-1≤lk)&&decide (lk<4*n))=true:=by simp [hlk]
   rw [e2] at H2
   have hmm:¬m≤64:=fun h=>hno ⟨hnd,hlk,h⟩
   have hm3:(64:Int)<m:=by omega
   clear hnd hlk hno e1 e2
   go_wp2_with fail
   (with_reducible refine (H1.out _).mono ?_)
   rintro e w' ⟨rfl,rfl⟩
   go_wp2_with fail
   (with_reducible refine (H2.out _).mono ?_)
   rintro e w' ⟨rfl,rfl⟩
   go_wp2_with fail
   go_ret2
   exact⟨rfl,HB.out⟩
  ·have e2:(decide (-1≤lk)&&decide (lk<4*n))=false:=by
    rw [Bool.and_eq_false_iff,decide_eq_false_iff_not,decide_eq_false_iff_not];omega
   rw [e2] at H2
   clear hnd hlk hno e1 e2
   go_wp2_with fail
   (with_reducible refine (H1.out _).mono ?_)
   rintro e w' ⟨rfl,rfl⟩
   go_wp2_with fail
   (with_reducible refine (H2.out _).mono ?_)
   rintro e w' ⟨rfl,rfl⟩
   go_wp2_with fail
   go_ret2
   exact⟨rfl,HB.out⟩
 ·have e1:(decide (-1≤nd)&&decide (nd<n))=false:=by
   rw [Bool.and_eq_false_iff,decide_eq_false_iff_not,decide_eq_false_iff_not];omega
  rw [e1] at H1
  clear hnd hno e1
  go_wp2_with fail
  (with_reducible refine (H1.out _).mono ?_)
  rintro e w' ⟨rfl,rfl⟩
  go_wp2_with fail
  go_ret2
  exact⟨rfl,HB.out⟩
set_option maxRecDepth 100000 in
set_option maxHeartbeats 2000000 in
theorem fnew_yes (S:Nat→Prop) (n nd lk:Int) (a:Option Addr) (m cap:Nat) (L:List (List Value)) (w:World) (h4:4≤n) (h16:n≤16) (hok:fOk n nd lk m) (hrd:RdF S w a m 5 L) :
 Calls Tryz.prog 21 #[.int .i64 n,.agg #[.int .i64 nd,.int .i64 lk,.slice a m cap]] w (FNewYes n nd lk L w):=by
 obtain⟨hnd,hlk,hm⟩:=hok
 have hB:Below w.heap.size w (w.alloc (.cells #[Value.int .i64 nd,.int .i64 lk,.slice a m cap] 29)):=(Below.refl _ _).alloc (Nat.le_refl _) _
 have k1:=Blk.new w 29 #[Value.int .i64 nd,.int .i64 lk,.slice a m cap]
 have c0:(w.alloc (.cells #[Value.int .i64 nd,.int .i64 lk,.slice a m cap] 29)).cell? ⟨w.heap.size,0,none⟩=some (.int .i64 nd):=k1.cell 0
 have c1:(w.alloc (.cells #[Value.int .i64 nd,.int .i64 lk,.slice a m cap] 29)).cell? ⟨w.heap.size,1,none⟩=some (.int .i64 lk):=k1.cell 1
 have c2:(w.alloc (.cells #[Value.int .i64 nd,.int .i64 lk,.slice a m cap] 29)).cell? ⟨w.heap.size,2,none⟩=some (.slice a m cap):=k1.cell 2
 have h1:¬n<4:=by omega
 have h2:¬16<n:=by omega
 have h3:¬(64:Int)<m:=by omega
 have hw:IntKind.i64.wrap (4*n)=4*n:=IntWalk.i64_in _ (by omega)
 have HR:=Lib.hid (hrd.below hB)
 have HL:=Lib.hid hrd.1
 have HB:=Lib.hid hB
 have H1:=Lib.hid (fun w=>one_any nd n w)
 have H2:=Lib.hid (fun w=>one_any lk (4*n) w)
 have e1:(decide (-1≤nd)&&decide (nd<n))=true:=by simp [hnd]
 rw [e1] at H1
 have e2:(decide (-1≤lk)&&decide (lk<4*n))=true:=by simp [hlk]
 rw [e2] at H2
 clear hB hrd hnd hlk e1 e2
 go_enter Tryz.func21,Tryz.ntmps21
 go_upto_region 1 with fail
 generalize w.alloc (.cells #[Value.int .i64 nd,.int .i64 lk,.slice a m cap] 29)=w1 at HB HR k1 c0 c1 c2 ⊢
 obtain⟨g,hg⟩:∃g,Hid (g=w.heap.size):=⟨_,Lib.hid rfl⟩
 rw [←hg.out] at k1 c0 c1 c2 ⊢
 have HC:=Lib.hid (cloneSp_any S a m cap L w1 HR.out (by omega))
 have K1:=Lib.hid k1
 clear k1 HR
 go_wp2_with fail
 (with_reducible refine (H1.out _).mono ?_)
 rintro e w' ⟨rfl,rfl⟩
 go_wp2_with fail
 (with_reducible refine (H2.out _).mono ?_)
 rintro e w' ⟨rfl,rfl⟩
 go_wp2_with fail
 (with_reducible refine HC.out.mono ?_)
 rintro e w2 ⟨a2,cap2,rfl,hr2,hc1,hc2,hb2⟩
 rw [HL.out] at hr2 hc1 ⊢
 have k2:=K1.out.below hb2 K1.out.lt
 have z2:w2.frozen? ⟨g,2,none⟩=false:=k2.frozen 2
 have d2:w2.cell? ⟨g,2,none⟩=some (.slice a m cap):=k2.cell 2
 have k3:Blk (w2.setCell ⟨g,2,none⟩ (.slice a2 m cap2)) g 29 #[Value.int .i64 nd,.int .i64 lk,.slice a2 m cap2]:=by simpa using k2.set_ 2 (.slice a2 m cap2)
 obtain⟨r1,r2,-⟩:=Blk.whole (l:=[Value.int .i64 nd,.int .i64 lk,.slice a2 m cap2]) k3 (n:=3) rfl
 have HE:Hid (FNewYes n nd lk L w (.returned (.tuple #[.pointer (some ⟨w2.heap.size+1+1,0,none⟩),.int .i64 0])) ((((w2.setCell ⟨g,2,none⟩ (.slice a2 m cap2)).alloc (.map #[] 0)).alloc (.map #[] 0)).alloc (.cells #[Value.int .i64 n,.int .i64 nd,.int .i64 lk,.slice a2 m cap2,.map (some w2.heap.size),.map (some (w2.heap.size+1))] 166))):=Lib.hid (by
  have hgw:=hg.out
  have hbs:=HB.out.size
  have hb2s:=hb2.size
  obtain⟨W,hW⟩:∃W,W=w2.setCell ⟨g,2,none⟩ (.slice a2 m cap2):=⟨_,rfl⟩
  have hWs:W.heap.size=w2.heap.size:=by rw [hW];simp
  have hW0:Below w.heap.size w W:=by rw [hW];exact (HB.out.trans (hb2.mono hbs)).setCell (p:=⟨g,2,none⟩) (by show w.heap.size≤g;omega) _
  have hr3:RdF (w.heap.size≤·) W a2 m 5 L:=by
   rw [hW]
   exact (hr2.keep (by simp) fun b hb _=>Below.heap_setCell _ _ _ _ (by show b≠g;have:=K1.out.lt;omega)).mono fun b _ h=>by omega
  rw [←hW,←hWs]
  have e1:(W.alloc (.map #[] 0)).heap.size=W.heap.size+1:=by simp
  have e2:((W.alloc (.map #[] 0)).alloc (.map #[] 0)).heap.size=W.heap.size+1+1:=by simp
  have b0:=balP (Below.refl W.heap.size W) (.map #[] 0)
  have b1:=balP (Below.refl (W.alloc (.map #[] 0)).heap.size (W.alloc (.map #[] 0))) (.map #[] 0)
  have b2:=balP (Below.refl ((W.alloc (.map #[] 0)).alloc (.map #[] 0)).heap.size ((W.alloc (.map #[] 0)).alloc (.map #[] 0))) (.cells #[Value.int .i64 n,.int .i64 nd,.int .i64 lk,.slice a2 m cap2,.map (some W.heap.size),.map (some (W.heap.size+1))] 166)
  have m1:(W.alloc (.map #[] 0)).heap[W.heap.size]? =some (.map #[] 0):=heap_alloc_new _ _
  have m2:((W.alloc (.map #[] 0)).alloc (.map #[] 0)).heap[W.heap.size+1]? =some (.map #[] 0):=by rw [←e1];exact heap_alloc_new _ _
  have k3:=Blk.new ((W.alloc (.map #[] 0)).alloc (.map #[] 0)) 166 #[Value.int .i64 n,.int .i64 nd,.int .i64 lk,.slice a2 m cap2,.map (some W.heap.size),.map (some (W.heap.size+1))]
  rw [e2] at k3
  have hws:=hW0.size
  refine⟨W.heap.size+1+1,W.heap.size,W.heap.size+1,a2,cap2,rfl,by omega,by omega,by omega,by rw [HL.out];exact k3,?_,?_,by omega,?_,?_⟩
  ·exact (b2.block _ (by rw [e2];omega)).trans ((b1.block _ (by rw [e1];omega)).trans m1)
  ·exact (b2.block _ (by rw [e2];omega)).trans m2
  ·rw [HL.out]
   exact ((hr3.below b0).below b1).below b2
  ·exact ((hW0.alloc hws _).alloc (by rw [e1];omega) _).alloc (by rw [e2];omega) _)
 clear k2 k3 hr2 hc1 hc2 hb2
 go_wp2_with fail
 go_ret2
 exact HE.out
set_option maxRecDepth 100000
def NewW (w:World) (e:Ending) (w':World):Prop:=∃g,e=.returned (.tuple #[.pointer (some ⟨g,0,none⟩),.int .i64 0])∧w.heap.size≤g∧g<w'.heap.size∧Below w.heap.size w w'
theorem newW_a {w w0:World} {o:Obj} (h:Below w.heap.size w w0):NewW w (.returned (.tuple #[.pointer (some ⟨w0.heap.size,0,none⟩),.int .i64 0])) (w0.alloc o):=⟨_,rfl,h.size,by simp,h.alloc h.size o⟩
theorem rf14_any (n me:Nat) (h4:4≤n) (h16:n≤16) (hm:me<n) (w:World):Calls Tryz.prog 90 #[.int .i64 n,.int .i64 me] w (NewW w):=by
 have b1:decide ((n:Int)<4)=false:=by simp;omega
 have b2:decide (16<(n:Int))=false:=by simp;omega
 have b3:decide ((me:Int)<0)=false:=by simp
 have b4:decide (n≤me)=false:=by simp;omega
 go_enter Tryz.func90,Tryz.ntmps90
 go_wp2_with fail
 go_ret2
 exact newW_a (Below.refl _ _)
theorem rf16_any (n:Nat) (h4:4≤n) (h16:n≤16) (w:World):Calls Tryz.prog 91 #[.int .i64 n] w (NewW w):=by
 have b1:decide ((n:Int)<4)=false:=by simp;omega
 have b2:decide (16<(n:Int))=false:=by simp;omega
 go_enter Tryz.func91,Tryz.ntmps91
 go_wp2_with fail
 go_ret2
 exact newW_a (Below.refl _ _)
theorem rf17_any (n:Nat) (h4:4≤n) (h16:n≤16) (w:World):Calls Tryz.prog 92 #[.int .i64 n] w (NewW w):=by
 have b1:decide ((n:Int)<4)=false:=by simp;omega
 have b2:decide (16<(n:Int))=false:=by simp;omega
 go_enter Tryz.func92,Tryz.ntmps92
 go_wp2_with fail
 go_ret2
 exact newW_a (Below.refl _ _)
theorem rf18_any (b:Int) (h0:0≤b) (h1:b≤4096) (w:World):Calls Tryz.prog 46 #[.int .i64 b] w (NewW w):=by
 have b1:decide (b<0)=false:=by simp;omega
 have b2:decide (4096<b)=false:=by simp;omega
 go_enter Tryz.func46,Tryz.ntmps46
 go_wp2_with fail
 go_ret2
 exact newW_a (Below.refl _ _)
set_option maxHeartbeats 1000000 in
theorem rf29_yes (n nd lk:Int) (a:Option Addr) (m cap:Nat) (w:World) (h4:4≤n) (h16:n≤16) (hok:fOk n nd lk m):Calls Tryz.prog 26 #[.int .i64 n,.agg #[.int .i64 nd,.int .i64 lk,.slice a m cap]] w (NewW w):=by
 obtain⟨⟨h1,h2⟩,⟨h3,h5⟩,h6⟩:=hok
 have b1:decide (n<4)=false:=by simp;omega
 have b2:decide (16<n)=false:=by simp;omega
 have b3:decide (nd< -1)=false:=by simp;omega
 have b4:decide (n≤nd)=false:=by simp;omega
 have b5:decide (lk< -1)=false:=by simp;omega
 have b6:decide (4*n≤lk)=false:=by simp;omega
 have b7:decide (64<m)=false:=by simp;omega
 have b8:decide ((64:Int)<(m:Int))=false:=by simp;omega
 have w1:IntKind.i64.wrap (4*n)=4*n:=IntWalk.i64_in _ (by omega)
 have hB:=balP (Below.refl w.heap.size w) (.cells #[Value.int .i64 nd,.int .i64 lk,.slice a m cap] 45)
 have HB:=Lib.hid hB
 clear hB
 go_enter Tryz.func26,Tryz.ntmps26
 go_upto_region 1 with fail
 have c0:(w.alloc (.cells #[Value.int .i64 nd,.int .i64 lk,.slice a m cap] 45)).cell? ⟨w.heap.size,0,none⟩=some (.int .i64 nd):=(Blk.new w 45 _).cell 0
 have c1:(w.alloc (.cells #[Value.int .i64 nd,.int .i64 lk,.slice a m cap] 45)).cell? ⟨w.heap.size,1,none⟩=some (.int .i64 lk):=(Blk.new w 45 _).cell 1
 have c2:(w.alloc (.cells #[Value.int .i64 nd,.int .i64 lk,.slice a m cap] 45)).cell? ⟨w.heap.size,2,none⟩=some (.slice a m cap):=(Blk.new w 45 _).cell 2
 generalize w.alloc (.cells #[Value.int .i64 nd,.int .i64 lk,.slice a m cap] 45)=w0 at HB c0 c1 c2 ⊢
 go_wp2_with fail
 go_ret2
 exact newW_a HB.out
set_option maxHeartbeats 1000000 in
theorem rf29_no (n nd lk:Int) (a:Option Addr) (m cap:Nat) (w:World) (h4:4≤n) (h16:n≤16) (hm:m≤1000000) (hno:¬fOk n nd lk m):Calls Tryz.prog 26 #[.int .i64 n,.agg #[.int .i64 nd,.int .i64 lk,.slice a m cap]] w (FNewNo w):=by
 have b1:decide (n<4)=false:=by simp;omega
 have b2:decide (16<n)=false:=by simp;omega
 have w1:IntKind.i64.wrap (4*n)=4*n:=IntWalk.i64_in _ (by omega)
 have hB:=balP (Below.refl w.heap.size w) (.cells #[Value.int .i64 nd,.int .i64 lk,.slice a m cap] 45)
 have HB:=Lib.hid hB
 clear hB
 go_enter Tryz.func26,Tryz.ntmps26
 go_upto_region 1 with fail
 have c0:(w.alloc (.cells #[Value.int .i64 nd,.int .i64 lk,.slice a m cap] 45)).cell? ⟨w.heap.size,0,none⟩=some (.int .i64 nd):=(Blk.new w 45 _).cell 0
 have c1:(w.alloc (.cells #[Value.int .i64 nd,.int .i64 lk,.slice a m cap] 45)).cell? ⟨w.heap.size,1,none⟩=some (.int .i64 lk):=(Blk.new w 45 _).cell 1
 have c2:(w.alloc (.cells #[Value.int .i64 nd,.int .i64 lk,.slice a m cap] 45)).cell? ⟨w.heap.size,2,none⟩=some (.slice a m cap):=(Blk.new w 45 _).cell 2
 generalize w.alloc (.cells #[Value.int .i64 nd,.int .i64 lk,.slice a m cap] 45)=w0 at HB c0 c1 c2 ⊢
 by_cases d3:nd< -1
 ·go_wp2_with fail
  go_ret2
  exact⟨rfl,HB.out⟩
 ·have b3:decide (nd< -1)=false:=by simpa using d3
  by_cases d4:n≤nd
  ·go_wp2_with fail
   go_ret2
   exact⟨rfl,HB.out⟩
  ·have b4:decide (n≤nd)=false:=by simpa using d4
   by_cases d5:lk< -1
   ·go_wp2_with fail
    go_ret2
    exact⟨rfl,HB.out⟩
   ·have b5:decide (lk< -1)=false:=by simpa using d5
    by_cases d6:4*n≤lk
    ·go_wp2_with fail
     go_ret2
     exact⟨rfl,HB.out⟩
    ·have b6:decide (4*n≤lk)=false:=by simpa using d6
     have d7:64<m:=by
      unfold fOk at hno
      omega
     have b8:decide ((64:Int)<(m:Int))=true:=by simp;omega
     go_wp2_with fail
     go_ret2
     exact⟨rfl,HB.out⟩
end Go.Proofs.YtdilbjikeilhbaaGreatDoor
