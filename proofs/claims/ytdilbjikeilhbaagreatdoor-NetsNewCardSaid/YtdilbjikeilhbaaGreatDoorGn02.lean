import Derived.Test.YtdilbjikeilhbaaGreatDoorRows
import Derived.Test.YtdilbjikeilhbaaGreatDoorGn01
import Derived.Maps.Own
import Derived.Maps.OwnSet
import Derived.Maps.RangeWalk
import Derived.Maps.Views
import Derived.RangeFuncBox
import Derived.RangeFuncLeaves
import Derived.RangeFuncNested
import Derived.RangeFuncBound
import Derived.RangeFuncCalls
namespace Go.Proofs.YtdilbjikeilhbaaGreatDoor
open Go.RowKit
set_option linter.unusedVariables false
set_option linter.unusedSimpArgs false
def zeroIs (P:Program) (t:TypeId) (z:List Value):Prop:=(P.info? t).map (fun i=>i.zero.map fun v=>v.cells.toList)=some (some z)
theorem run_zero {P:Program} {t:TypeId} {z:List Value} (h:zeroIs P t z) (w:World):∃v,(zeroValue t).run P w=.ok v w∧v.cells=z.toArray:=by
 unfold zeroIs at h
 cases hi:P.info? t with
 | none=>simp [hi] at h
 | some i=>
   cases hz:i.zero with
   | none=>simp [hi,hz] at h
   | some v=>
     simp [hi,hz] at h
     exact⟨v,by simp [zeroValue,typeInfo,hi,hz],by rw [←h]⟩
theorem exec_alloc {P:Program} {t:TypeId} {z:List Value} (hz:zeroIs P t z) (ρ:Operand→Value) (d:Option Tmp) (ty:TypeId) (s:String) (af:Array Edge) (g:Option (Nat×Bool)) (w:World) :
 (execOp ρ { dst:=d,op:=.alloc t,type:=ty,pos:=s,after:=af,guard:=g }).run P w=.ok (.value (.pointer (some ⟨w.heap.size,0,none⟩))) (w.alloc (.cells z.toArray t)):=by
 obtain⟨v,h1,h2⟩:=run_zero hz w
 simp [execOp,Instr.alloc,h1,newVar,newRow,h2,newObj,Sem.run]
@[go_sem] theorem canPut_new (w:World) (l:List Value) (t:TypeId) (i n:Nat):canPut (w.alloc (.cells l.toArray t)) ⟨w.heap.size,i,none⟩ n=decide (i+n≤l.length):=by
 unfold canPut
 rw [heap_alloc_new]
 simp
theorem setRow_new (w:World) (a b:Array Value) (t:TypeId):(w.alloc (.cells a t)).setRow w.heap.size b=w.alloc (.cells b t):=by
 have:∀(f:Obj→Obj) (o:Obj),(w.heap.push o).modify w.heap.size f=w.heap.push (f o):=by
  intro f o
  apply Array.ext (by simp)
  intro i h1 h2
  rw [Array.getElem_modify,Array.getElem_push,Array.getElem_push]
  by_cases hi:i<w.heap.size
  ·simp only [hi,dif_pos,if_neg (Nat.ne_of_gt hi)]
  ·have:w.heap.size=i:=by simp at h2;omega
   simp [hi,this]
 show ({ w with heap:=(w.heap.push _).modify _ _ }:World)={ w with heap:=w.heap.push _ }
 rw [this]
theorem putRow_new_at (w:World) (z l:List Value) (t:TypeId) (i:Nat):putRow (w.alloc (.cells z.toArray t)) ⟨w.heap.size,i,none⟩ l=w.alloc (.cells (z.take i++l++z.drop (i+l.length)).toArray t):=by
 unfold putRow
 simp only [heap_alloc_new,setRow_new]
@[go_sem] theorem putRow_new (w:World) (z l:List Value) (t:TypeId) (h:z.length=l.length):putRow (w.alloc (.cells z.toArray t)) ⟨w.heap.size,0,none⟩ l=w.alloc (.cells l.toArray t):=by
 rw [putRow_new_at];simp [←h]
@[go_sem] theorem canPut_drew (w:World) (p:Addr) (n:Nat):canPut w.drew p n=canPut w p n:=(rfl)
@[go_sem] theorem canPut_drewN (w:World) (k:Nat) (p:Addr) (n:Nat):canPut (w.drewN k) p n=canPut w p n:=(rfl)
@[go_sem] theorem putRow_drew (w:World) (p:Addr) (l:List Value):putRow w.drew p l=(putRow w p l).drew:=by
 have e:w.drew.heap=w.heap:=rfl
 unfold putRow;rw [e];split <;> rfl
@[go_sem] theorem putRow_drewN (w:World) (k:Nat) (p:Addr) (l:List Value):putRow (w.drewN k) p l=(putRow w p l).drewN k:=by
 have e:(w.drewN k).heap=w.heap:=rfl
 unfold putRow;rw [e];split <;> rfl
theorem setRow_block (w:World) (g k:Nat) (cs:Array Value) (h:k≠g):(w.setRow g cs).heap[k]? =w.heap[k]?:=setRow_other w g k cs h
theorem putRow_other (w:World) (p:Addr) (l:List Value) (k:Nat) (h:k≠p.block):(putRow w p l).heap[k]? =w.heap[k]?:=by
 unfold putRow;split
 ·exact setRow_block _ _ _ _ h
 ·rfl
@[simp] theorem size_putRow (w:World) (p:Addr) (l:List Value):(putRow w p l).heap.size=w.heap.size:=by
 unfold putRow;split <;> simp
theorem Blk.put {w:World} {g:Nat} {t:TypeId} {z:List Value} (h:Blk w g t z.toArray) (i:Nat) (l:List Value):Blk (putRow w ⟨g,i,none⟩ l) g t (z.take i++l++z.drop (i+l.length)).toArray:=by
 unfold Blk at h ⊢
 simp only [putRow,h]
 exact setRow_heap w g _ _ t _ h
theorem Chg.put {S:Nat→Prop} {a w:World} (h:Chg S a w) {p:Addr} (hp:S p.block∨a.heap.size≤p.block) (l:List Value):Chg S a (putRow w p l):=
 ⟨by unfold putRow;split <;> exact h.os,by unfold putRow;split <;> exact h.tape,by unfold putRow;split <;> exact h.output,by have:=h.size;simp;omega,
  fun k hk hn=>(putRow_other _ _ _ _ (by rintro rfl;rcases hp with hp | hp;exact hn hp;omega)).trans (h.block k hk hn)⟩
theorem Below.put {B:Nat} {a w:World} (h:Below B a w) {p:Addr} (hp:B≤p.block) (l:List Value):Below B a (putRow w p l):=
 h.trans ⟨by unfold putRow;split <;> rfl,by unfold putRow;split <;> rfl,by unfold putRow;split <;> rfl,by simp,fun k hk=>putRow_other _ _ _ _ (by omega)⟩
theorem Blk.rules {w:World} {g:Nat} {t:TypeId} {l:List Value} (h:Blk w g t l.toArray) :
 (∀i,w.cell? ⟨g,i,none⟩=l[i]?)∧(∀i,w.frozen? ⟨g,i,none⟩=false)∧(∀i n,hasRow w ⟨g,i,none⟩ n=(n==0||decide (i+n≤l.length)))∧
 (∀i n,i+n≤l.length→rowOf w ⟨g,i,none⟩ n=(l.drop i).take n)∧(∀i n,canPut w ⟨g,i,none⟩ n=decide (i+n≤l.length)):=by
 have hc:∀i,w.cell? ⟨g,i,none⟩=l[i]?:=fun i=>by rw [h.cell i];simp
 refine⟨hc,h.frozen,fun i n=> ?_,fun i n hn=> ?_,fun i n=> ?_⟩
 ·by_cases h0:n=0
  ·subst h0;simp [hasRow]
  ·by_cases hin:i+n≤l.length
   ·rw [show (n==0||decide (i+n≤l.length))=true from by simp [hin]]
    rw [hasRow_iff]
    intro j hj
    rw [add_at,hc]
    simp;omega
   ·rw [show (n==0||decide (i+n≤l.length))=false from by simp [hin,h0]]
    rw [Bool.eq_false_iff]
    intro hh
    have:=hasRow_iff.1 hh (n - 1) (by omega)
    rw [add_at,hc] at this
    simp at this
    omega
 ·apply List.ext_getElem?
  intro j
  by_cases hj:j<n
  ·have hx:i+j<l.length:=by omega
   simp [rowOf,hj,add_at,hc,List.getElem?_take,List.getElem?_drop,List.getElem?_eq_getElem hx]
  ·rw [List.getElem?_eq_none (by rw [length_rowOf];omega),List.getElem?_take,if_neg hj]
 ·unfold Blk at h
  simp [canPut,h]
def saidK:List Kd:=[.b,.i .i64,.i .u8,.i .u8,.i .u32,.i .u32]
def viewK:List Kd:=[.b,.b,.b,.b,.b,.b,.b,.b] ++(List.replicate 8 (.i .u8)++(List.replicate 8 (.i .u8)++(List.replicate 8 (.i .u16)++([.b,.b,.b,.b,.b,.b,.b,.b] ++ [.i .i8,.i .u8]))))
def cellK:List Kd:=.i .i64 :: (saidK++(saidK++viewK))
def heldK:List Kd:=.b :: cellK
def saidZ:List Value:=[.bool false,.int .i64 0,.int .u8 0,.int .u8 0,.int .u32 0,.int .u32 0]
def viewZ:List Value:=List.replicate 8 (.bool false)++(List.replicate 8 (.int .u8 0)++(List.replicate 8 (.int .u8 0)++(List.replicate 8 (.int .u16 0)++(List.replicate 8 (.bool false)++ [.int .i8 0,.int .u8 0]))))
def cellZ:List Value:=.int .i64 0 :: (saidZ++(saidZ++viewZ))
def heldZ:List Value:=.bool false :: cellZ
theorem cellZ_ok:okL cellK cellZ=true:=by kernel_rfl
theorem len_cellK:cellK.length=55:=by kernel_rfl
theorem len_heldK:heldK.length=56:=by kernel_rfl
@[go_sem] theorem len_cellZ:cellZ.length=55:=by kernel_rfl
@[go_sem] theorem len_heldZ:heldZ.length=56:=by kernel_rfl
theorem okL_held (b:Bool) (c:List Value):okL heldK (.bool b :: c)=okL cellK c:=by simp [heldK,okL,okK]
structure Hd where
 is:Bool
 c:List Value
def Hd.vals (h:Hd):List Value:=.bool h.is :: h.c
def Hd.ok (h:Hd):Prop:=okL cellK h.c=true
def hd0:Hd:=⟨false,cellZ⟩
theorem hd0_ok:hd0.ok:=cellZ_ok
theorem hd0_vals:hd0.vals=heldZ:=rfl
theorem Hd.ok_len {h:Hd} (hk:h.ok):h.c.length=55:=(okL_len hk).trans len_cellK
theorem Hd.vals_len {h:Hd} (hk:h.ok):h.vals.length=56:=by simp [Hd.vals,Hd.ok_len hk]
theorem Hd.vals_ok {h:Hd} (hk:h.ok):okL heldK h.vals=true:=by rw [Hd.vals,okL_held];exact hk
theorem Hd.vals_inj {h h':Hd}:h.vals=h'.vals↔h=h':=by cases h;cases h';simp [Hd.vals]
theorem cell_age {c:List Value} (h:okL cellK c=true):∃n r,c=.int .i64 n :: r∧ -9223372036854775808≤n∧n≤9223372036854775807:=by
 cases c with
 | nil=>simp [cellK,okL] at h
 | cons v r=>
   simp only [cellK,okL,Bool.and_eq_true] at h
   cases v <;> simp [okK] at h
   obtain⟨⟨rfl,hw⟩,_⟩:=h
   exact⟨_,r,rfl,by simpa [Lit.wf,IntKind.min,IntKind.max,IntKind.signed,IntKind.bits] using hw⟩
def ageL:List Value→Int
 | .int _ n :: _=>n
 | _=>0
@[go_sem ↓] theorem ld_cell (ρ:Operand→Value) (d:Option Tmp) (x:Operand) (ty:TypeId) (s:String) (af:Array Edge) (g:Option (Nat×Bool)) (w:World) (h:hasRowV w 55 (ρ x)=true) :
 (execOp ρ { dst:=d,op:=.load 131 x,type:=ty,pos:=s,after:=af,guard:=g }).run Tryz.prog w=.ok (.value (.agg (rowV w 55 (ρ x)).toArray)) w:=exec_load (by kernel_rfl) ρ d x ty s af g w h
@[go_sem ↓] theorem ld_held (ρ:Operand→Value) (d:Option Tmp) (x:Operand) (ty:TypeId) (s:String) (af:Array Edge) (g:Option (Nat×Bool)) (w:World) (h:hasRowV w 56 (ρ x)=true) :
 (execOp ρ { dst:=d,op:=.load 204 x,type:=ty,pos:=s,after:=af,guard:=g }).run Tryz.prog w=.ok (.value (.agg (rowV w 56 (ρ x)).toArray)) w:=exec_load (by kernel_rfl) ρ d x ty s af g w h
@[go_sem ↓] theorem ld_row (ρ:Operand→Value) (d:Option Tmp) (x:Operand) (ty:TypeId) (s:String) (af:Array Edge) (g:Option (Nat×Bool)) (w:World) (h:hasRowV w 57 (ρ x)=true) :
 (execOp ρ { dst:=d,op:=.load 134 x,type:=ty,pos:=s,after:=af,guard:=g }).run Tryz.prog w=.ok (.value (.agg (rowV w 57 (ρ x)).toArray)) w:=exec_load (by kernel_rfl) ρ d x ty s af g w h
@[go_sem ↓] theorem st_cell (ρ:Operand→Value) (d:Option Tmp) (x y:Operand) (ty:TypeId) (s:String) (af:Array Edge) (g:Option (Nat×Bool)) (w:World) (h1:okAgg 55 (ρ y)=true) (h2:canPutV w 55 (ρ x)=true) :
 (execOp ρ { dst:=d,op:=.store 131 x y,type:=ty,pos:=s,after:=af,guard:=g }).run Tryz.prog w=.ok .skip (putV w (ρ x) (ρ y)):=exec_store (by kernel_rfl) ρ d x y ty s af g w h1 h2
@[go_sem ↓] theorem st_held (ρ:Operand→Value) (d:Option Tmp) (x y:Operand) (ty:TypeId) (s:String) (af:Array Edge) (g:Option (Nat×Bool)) (w:World) (h1:okAgg 56 (ρ y)=true) (h2:canPutV w 56 (ρ x)=true) :
 (execOp ρ { dst:=d,op:=.store 204 x y,type:=ty,pos:=s,after:=af,guard:=g }).run Tryz.prog w=.ok .skip (putV w (ρ x) (ρ y)):=exec_store (by kernel_rfl) ρ d x y ty s af g w h1 h2
@[go_sem ↓] theorem st_row (ρ:Operand→Value) (d:Option Tmp) (x y:Operand) (ty:TypeId) (s:String) (af:Array Edge) (g:Option (Nat×Bool)) (w:World) (h1:okAgg 57 (ρ y)=true) (h2:canPutV w 57 (ρ x)=true) :
 (execOp ρ { dst:=d,op:=.store 134 x y,type:=ty,pos:=s,after:=af,guard:=g }).run Tryz.prog w=.ok .skip (putV w (ρ x) (ρ y)):=exec_store (by kernel_rfl) ρ d x y ty s af g w h1 h2
@[go_sem ↓] theorem al_cell (ρ:Operand→Value) (d:Option Tmp) (ty:TypeId) (s:String) (af:Array Edge) (g:Option (Nat×Bool)) (w:World) :
 (execOp ρ { dst:=d,op:=.alloc 131,type:=ty,pos:=s,after:=af,guard:=g }).run Tryz.prog w=.ok (.value (.pointer (some ⟨w.heap.size,0,none⟩))) (w.alloc (.cells cellZ.toArray 131)):=exec_alloc (by unfold zeroIs;kernel_rfl) ρ d ty s af g w
@[go_sem ↓] theorem al_held (ρ:Operand→Value) (d:Option Tmp) (ty:TypeId) (s:String) (af:Array Edge) (g:Option (Nat×Bool)) (w:World) :
 (execOp ρ { dst:=d,op:=.alloc 204,type:=ty,pos:=s,after:=af,guard:=g }).run Tryz.prog w=.ok (.value (.pointer (some ⟨w.heap.size,0,none⟩))) (w.alloc (.cells heldZ.toArray 204)):=exec_alloc (by unfold zeroIs;kernel_rfl) ρ d ty s af g w
def rowZ:List Value:=.bool false :: (cellZ++ [.slice none 0 0])
@[go_sem] theorem len_rowZ:rowZ.length=57:=by kernel_rfl
@[go_sem ↓] theorem al_row (ρ:Operand→Value) (d:Option Tmp) (ty:TypeId) (s:String) (af:Array Edge) (g:Option (Nat×Bool)) (w:World) :
 (execOp ρ { dst:=d,op:=.alloc 134,type:=ty,pos:=s,after:=af,guard:=g }).run Tryz.prog w=.ok (.value (.pointer (some ⟨w.heap.size,0,none⟩))) (w.alloc (.cells rowZ.toArray 134)):=exec_alloc (by unfold zeroIs;kernel_rfl) ρ d ty s af g w
@[go_sem ↓] theorem eq_cell (ρ:Operand→Value) (ds:Option Tmp) (x y:Operand) (t' ty:TypeId) (s:String) (af:Array Edge) (g:Option (Nat×Bool)) (w:World) (h1:okV cellK (ρ x)=true) (h2:okV cellK (ρ y)=true) :
 (execOp ρ { dst:=ds,op:=.binOp .eql 131 x y t',type:=ty,pos:=s,after:=af,guard:=g }).run Tryz.prog w=.ok (.value (.bool (eqV (ρ x) (ρ y)))) w:=exec_eql (d:=6) (by kernel_rfl) (by omega) (by kernel_rfl) (by kernel_rfl) ρ ds x y t' ty s af g w h1 h2
@[go_sem ↓] theorem ne_held (ρ:Operand→Value) (ds:Option Tmp) (x y:Operand) (t' ty:TypeId) (s:String) (af:Array Edge) (g:Option (Nat×Bool)) (w:World) (h1:okV heldK (ρ x)=true) (h2:okV heldK (ρ y)=true) :
 (execOp ρ { dst:=ds,op:=.binOp .neq 204 x y t',type:=ty,pos:=s,after:=af,guard:=g }).run Tryz.prog w=.ok (.value (.bool (!eqV (ρ x) (ρ y)))) w:=exec_neq (d:=6) (by kernel_rfl) (by omega) (by kernel_rfl) (by kernel_rfl) ρ ds x y t' ty s af g w h1 h2
def RdHs (S:Nat→Prop) (w:World) (a:Option Addr) (len:Nat) (l:List Hd):Prop:=
 l.length=len∧(∀h ∈ l,h.ok)∧∀k h,l[k]? =some h→∃b off,a=some ⟨b,off,none⟩∧S b∧b<w.heap.size∧hasRow w ⟨b,off+k*56,none⟩ 56=true∧rowOf w ⟨b,off+k*56,none⟩ 56=h.vals
theorem RdHs.keep {S:Nat→Prop} {w w':World} {a:Option Addr} {len:Nat} {l:List Hd} (h:RdHs S w a len l) (hs:w.heap.size≤w'.heap.size) (hk:∀b,S b→b<w.heap.size→w'.heap[b]? =w.heap[b]?):RdHs S w' a len l:=
 ⟨h.1,h.2.1,fun k x hx=>by
   obtain⟨b,off,e,hS,hb,h1,h2⟩:=h.2.2 k x hx
   have:=row_block (n:=56) (p:=⟨b,off+k*56,none⟩) (hk b hS hb)
   exact⟨b,off,e,hS,by omega,this.1.trans h1,this.2.trans h2⟩⟩
theorem RdHs.mono {S S':Nat→Prop} {w:World} {a:Option Addr} {len:Nat} {l:List Hd} (h:RdHs S w a len l) (hs:∀b,b<w.heap.size→S b→S' b):RdHs S' w a len l:=
 ⟨h.1,h.2.1,fun k x hx=>by
   obtain⟨b,off,e,hS,hb,h1,h2⟩:=h.2.2 k x hx
   exact⟨b,off,e,hs b hb hS,hb,h1,h2⟩⟩
theorem RdHs.below {S:Nat→Prop} {w w':World} {B:Nat} {a:Option Addr} {len:Nat} {l:List Hd} (h:RdHs S w a len l) (hb:Below B w w') (hB:∀b,S b→b<w.heap.size→b<B):RdHs S w' a len l:=
 h.keep hb.size fun b hS hlt=>hb.block b (hB b hS hlt)
theorem RdHs.chg {S S':Nat→Prop} {w w':World} {a:Option Addr} {len:Nat} {l:List Hd} (h:RdHs S w a len l) (hc:Chg S' w w') (hd:∀b,b<w.heap.size→S b→¬S' b):RdHs S w' a len l:=
 h.keep hc.size fun b hS hlt=>hc.block b hlt (hd b hlt hS)
theorem RdHs.at_ {S:Nat→Prop} {w:World} {a:Option Addr} {len:Nat} {l:List Hd} (h:RdHs S w a len l) (k:Nat) (hk:k<len) :
 ∃b off is n r,a=some ⟨b,off,none⟩∧S b∧b<w.heap.size∧l[k]? =some ⟨is,.int .i64 n :: r⟩∧okL cellK (.int .i64 n :: r)=true∧r.length=54∧r.all cell1=true∧
  hasRow w ⟨b,off+k*56,none⟩ 56=true∧rowOf w ⟨b,off+k*56,none⟩ 56=.bool is :: .int .i64 n :: r∧
  hasRow w ⟨b,off+k*56+1,none⟩ 55=true∧rowOf w ⟨b,off+k*56+1,none⟩ 55=.int .i64 n :: r∧
  w.cell? ⟨b,off+k*56,none⟩=some (.bool is)∧w.cell? ⟨b,off+k*56+1,none⟩=some (.int .i64 n)∧ -9223372036854775808≤n∧n≤9223372036854775807:=by
 obtain⟨h1,h2,h3⟩:=h
 have hv:l[k]? =some (l[k]'(by omega)):=List.getElem?_eq_getElem _
 obtain⟨b,off,e,hS,hb,hr1,hr2⟩:=h3 k _ hv
 have ho:=h2 _ (List.mem_of_getElem? hv)
 generalize l[k]'(by omega)=x at hv hr2 ho
 obtain⟨is,c⟩:=x
 obtain⟨n,r,hc,hn1,hn2⟩:=cell_age ho
 simp only at hc
 subst hc
 have hlen:=Hd.ok_len ho
 simp only [List.length_cons] at hlen
 have hp:=row_part hr1 hr2 1 55 (by omega)
 refine⟨b,off,is,n,r,e,hS,hb,hv,ho,by omega,by simpa [cell1] using okL_cell1 ho,hr1,hr2,hp.1,?_,?_,?_,hn1,hn2⟩
 ·rw [hp.2];simp [Hd.vals,List.take_of_length_le,hlen]
 ·have:=row_cell hr1 hr2 0 (by omega)
  simpa [Hd.vals] using this
 ·have:=row_cell hr1 hr2 1 (by omega)
  simpa [Hd.vals] using this
open Go Go.Maps Go.WideElems Go.ChangeMaps Go.MapKept
def anyR (v:Value):Option (DataW Value×List MemPlace):=some (.held v,[])
def MapI (P:Program) (k:TypeId) (w:World) (b n:Nat) (f:Int→Option Value):Prop:=
 ∃D:DataW Value,w.ownsMap P k anyR b n D∧∀i,(Lit.int .i64 i).wf=true→Maps.has D (.int .i64 i)=(f i).isSome∧∀v,f i=some v→∀z,D.atKey (.int .i64 i) z=.held v
section
variable {P:Program} {k e t:TypeId} {w w':World} {b n:Nat} {f:Int→Option Value}
theorem MapI.made (P:Program) (k:TypeId) (w:World):MapI P k (w.alloc (.map #[] 0)) w.heap.size 0 (fun _=>none):=
 ⟨.map [],World.ownsMap_made w P k anyR,fun i _=>⟨rfl,fun v h=>by cases h⟩⟩
theorem MapI.lt (h:MapI P k w b n f):b<w.heap.size:=by
 obtain⟨D,h1,-⟩:=h
 exact h1.lt
theorem MapI.keep (h:MapI P k w b n f) (hb:w'.heap[b]? =w.heap[b]?):MapI P k w' b n f:=by
 obtain⟨D,⟨es,clock,h1,h2⟩,h3⟩:=h
 exact⟨D,⟨es,clock,hb.trans h1,h2⟩,h3⟩
theorem MapI.mono (h:MapI P k w b n f) {m:Nat} (hm:n≤m):MapI P k w b m f:=by
 obtain⟨D,h1,h2⟩:=h
 exact⟨D,h1.mono hm,h2⟩
theorem MapI.congr {g:Int→Option Value} (h:MapI P k w b n f) (hg:∀i,f i=g i):MapI P k w b n g:=by
 obtain rfl:f=g:=funext hg
 exact h
theorem MapI.look (h:MapI P k w b n f) (hk:P.underlying k=some (.int .i64)) (ht:P.underlying t=some (.map k e)) {z:Value} (hz:(zeroValue e).run P w=.ok z w) {i:Int} (hi:(Lit.int .i64 i).wf=true) :
 (Instr.lookup t (.map (some b)) (.int .i64 i) true).run P w=.ok (.tuple #[(f i).getD z,.bool (f i).isSome]) w:=by
 obtain⟨D,h1,h2⟩:=h
 obtain⟨v,ps,hrun,hv⟩:=h1.look_ok (int_keyed hk) ht hz (zd:=.held z) (zp:=[]) rfl (keyOf_int_mk hk hi)
 obtain⟨h3,h4⟩:=h2 i hi
 rw [hrun,h3]
 have hv':DataW.held v=D.atKey (.int .i64 i) (.held z):=by simpa [anyR] using (congrArg (Option.map Prod.fst) hv)
 cases hf:f i with
 | none=>
   rw [hf] at h3
   rw [atKey_of_not_has (by simpa using h3)] at hv'
   cases hv'
   rfl
 | some u=>
   rw [h4 u hf] at hv'
   cases hv'
   rfl
theorem MapI.look1 (h:MapI P k w b n f) (hk:P.underlying k=some (.int .i64)) (ht:P.underlying t=some (.map k e)) {z:Value} (hz:(zeroValue e).run P w=.ok z w) {i:Int} (hi:(Lit.int .i64 i).wf=true) :
 (Instr.lookup t (.map (some b)) (.int .i64 i) false).run P w=.ok ((f i).getD z) w:=by
 obtain⟨D,h1,h2⟩:=h
 obtain⟨v,ps,hrun,hv⟩:=h1.lookup (int_keyed hk) ht hz (zd:=.held z) (zp:=[]) rfl (keyOf_int_mk hk hi)
 obtain⟨h3,h4⟩:=h2 i hi
 rw [hrun]
 have hv':DataW.held v=D.atKey (.int .i64 i) (.held z):=by simpa [anyR] using (congrArg (Option.map Prod.fst) hv)
 cases hf:f i with
 | none=>
   rw [hf] at h3
   rw [atKey_of_not_has (by simpa using h3)] at hv'
   cases hv'
   rfl
 | some u=>
   rw [h4 u hf] at hv'
   cases hv'
   rfl
theorem MapI.put (h:MapI P k w b n f) (hk:P.underlying k=some (.int .i64)) (ht:P.underlying t=some (.map k e)) (hn:n<maxLen) {i:Int} (hi:(Lit.int .i64 i).wf=true) (v:Value) :
 ∃w',(Instr.mapUpdate t (.map (some b)) (.int .i64 i) v).run P w=.ok () w'∧MapI P k w' b (n+1) (fun j=>if j=i then some v else f j)∧w.grownBy w' (some b):=by
 obtain⟨D,h1,h2⟩:=h
 obtain⟨w',hrun,ho,hg⟩:=h1.update (int_keyed hk) ht hn (keyOf_int_mk hk hi) (val:=v) (d:=.held v) (ps:=[]) rfl
 refine⟨w',hrun,⟨_,ho,fun j hj=> ?_⟩,hg⟩
 by_cases hji:j=i
 ·subst hji
  have e1:(if j=j then some v else f j)=some v:=if_pos rfl
  refine⟨?_,fun u hu z=> ?_⟩
  ·show _=(if j=j then some v else f j).isSome
   rw [has_put_same h1.isMap (by trivial),e1]
   rfl
  ·replace hu:(if j=j then some v else f j)=some u:=hu
   rw [e1] at hu
   cases hu
   exact atKey_put_same h1.isMap (by trivial) _ _
 ·have hne:Lit.int .i64 j≠Lit.int .i64 i:=fun e=>hji (by injection e)
  have e1:(if j=i then some v else f j)=f j:=if_neg hji
  obtain⟨h3,h4⟩:=h2 j hj
  refine⟨?_,fun u hu z=> ?_⟩
  ·show _=(if j=i then some v else f j).isSome
   rw [has_put_other hne,e1]
   exact h3
  ·replace hu:(if j=i then some v else f j)=some u:=hu
   rw [e1] at hu
   rw [atKey_put_other hne]
   exact h4 u hu z
theorem MapI.clear (h:MapI P k w b n f) (ht:P.underlying t=some (.map k e)) (ty:TypeId):∃w',(Builtin.clear_ #[t] ty #[.map (some b)]).run P w=.ok (.tuple #[]) w'∧MapI P k w' b 0 (fun _=>none)∧w.grownBy w' (some b):=by
 obtain⟨D,⟨es,clock,hb,F,hs,rfl⟩,h2⟩:=h
 refine⟨setBlock w b (.map #[] clock),?_,⟨.map [],⟨#[],clock,heap_setBlock_same hb _,⟨by simp,stamped_empty clock,by simp⟩,Nat.le_refl _,rfl⟩,fun i _=>⟨rfl,fun v h=>by cases h⟩⟩,⟨rfl,rfl,rfl,by simp [setBlock],fun i _ hi=>heap_setBlock_other hb _ (fun e=>hi (by rw [e]))⟩⟩
 simp [Builtin.clear_,run_underlying ht,Go.MapKept.run_getObj_map hb,Go.MapKept.run_setObj_map _ hb,Result.andThen,setBlock]
def RngI (P:Program) (k:TypeId) (w:World) (b r n:Nat) (f:Int→Option Value) (left:Int→Bool) (cnt:Nat):Prop:=
 ∃(D:DataW Value) (lf:Lit→Bool),w.ranges P k anyR b r n D lf cnt∧(∀i,(Lit.int .i64 i).wf=true→Maps.has D (.int .i64 i)=(f i).isSome∧∀v,f i=some v→∀z,D.atKey (.int .i64 i) z=.held v)∧∀i,(Lit.int .i64 i).wf=true→lf (.int .i64 i)=left i
theorem RngI.map {r cnt:Nat} {left:Int→Bool} (h:RngI P k w b r n f left cnt):MapI P k w b n f:=by
 obtain⟨D,lf,h1,h2,-⟩:=h
 exact⟨D,h1.owns,h2⟩
theorem RngI.left_eq {r cnt:Nat} {left:Int→Bool} (h:RngI P k w b r n f left cnt):w.rangeLeft b r=cnt:=by
 obtain⟨D,lf,h1,-⟩:=h
 exact h1.left_eq
theorem RngI.kept {r cnt:Nat} {left:Int→Bool} (h:RngI P k w b r n f left cnt) (hb:w'.heap[b]? =w.heap[b]?) (hr:w'.heap[r]? =w.heap[r]?):RngI P k w' b r n f left cnt:=by
 obtain⟨D,lf,⟨es,clock,since,seen,c0,h1,h2,h3,h4,h5,h6⟩,h7⟩:=h
 exact⟨D,lf,⟨es,clock,since,seen,c0,hb.trans h1,h2,h3,h4,hr.trans h5,h6⟩,h7⟩
theorem RngI.lt {r cnt:Nat} {left:Int→Bool} (h:RngI P k w b r n f left cnt):b<w.heap.size∧r<w.heap.size∧r≠b:=by
 obtain⟨D,lf,h1,-⟩:=h
 exact⟨h1.owns.lt,h1.lt,h1.ne⟩
theorem MapI.range (h:MapI P k w b n f) (hk:P.underlying k=some (.int .i64)) (ht:P.underlying t=some (.map k e)) :
 ∃w' cnt,(Instr.range t (.map (some b))).run P w=.ok (.pointer (some ⟨w.heap.size,0,none⟩)) w'∧RngI P k w' b w.heap.size n f (fun i=>(f i).isSome) cnt∧w.grownBy w' none∧w'.heap.size=w.heap.size+1:=by
 obtain⟨D,h1,h2⟩:=h
 obtain⟨w',hrun,hr,hg,hs⟩:=h1.range (int_keyed hk) ht
 exact⟨w',_,hrun,⟨D,_,hr,h2,fun i hi=>(h2 i hi).1⟩,hg,hs⟩
theorem keyI_inv (hk:P.underlying k=some (.int .i64)) {key:Value} {kl:Lit} (h:keyOf P k key=some kl):∃x,key=.int .i64 x∧kl=.int .i64 x∧(Lit.int .i64 x).wf=true:=by
 cases key <;> simp [keyOf,hk,mapKey] at h
 obtain⟨⟨rfl,h1⟩,h2⟩:=h
 exact⟨_,rfl,h2.symm,h1⟩
theorem RngI.next {r cnt:Nat} {left:Int→Bool} (h:RngI P k w b r n f left cnt) (hk:P.underlying k=some (.int .i64)) (ty:TypeId) :
 ((∀i,(Lit.int .i64 i).wf=true→left i=false)∧(Instr.next (.pointer (some ⟨r,0,none⟩)) false ty).run P w=.ok (.tuple #[.bool false]) w)∨
 ∃i v w' cnt',(Lit.int .i64 i).wf=true∧f i=some v∧left i=true∧(Instr.next (.pointer (some ⟨r,0,none⟩)) false ty).run P w=.ok (.tuple #[.bool true,.int .i64 i,v]) w'∧
  RngI P k w' b r n f (fun j=>left j&&decide (j≠i)) cnt'∧cnt'<cnt∧w.grownBy w' (some r)∧w'.heap.size=w.heap.size∧(Instr.entry (.pointer (some ⟨r,0,none⟩))).run P w'=.ok (.tuple #[.int .i64 i,v]) w':=by
 obtain⟨D,lf,h1,h2,h3⟩:=h
 rcases h1.next (int_keyed hk) ty with ⟨-,hl,hrun⟩ | ⟨key,v,kl,y,w',cnt',hkey,hlk,hv,hat,hrun,hrg,hlt,hgr,hsz,hen⟩
 ·exact .inl ⟨fun i hi=>(h3 i hi).symm.trans (hl _),hrun⟩
 ·obtain⟨i,rfl,rfl,hi⟩:=keyI_inv hk hkey
  refine .inr ⟨i,v,w',cnt',hi,?_,(h3 i hi).symm.trans hlk,hrun,⟨D,_,hrg,h2,fun j hj=> ?_⟩,hlt,hgr,hsz,hen⟩
  ·cases hv
   have ha:=hat (.held undef)
   have hhas:Maps.has D (.int .i64 i)=true:=has_true_of_atKey hat
   obtain⟨h4,h5⟩:=h2 i hi
   rw [hhas] at h4
   cases hf:f i with
   | none=>rw [hf] at h4;cases h4
   | some u=>
     rw [h5 u hf] at ha
     have:u=v:=by simpa using ha
     rw [this]
  ·show (lf (.int .i64 j)&& !(Lit.int .i64 j).sameKey (.int .i64 i))=_
   rw [h3 j hj]
   congr 1
   by_cases hji:j=i
   ·subst hji
    rw [WideAt.sameKey_self (by trivial)]
    simp
   ·rw [sameKey_ne (fun e=>hji (by injection e))]
    simp [hji]
end
end Go.Proofs.YtdilbjikeilhbaaGreatDoor
namespace Go.Proofs.YtdilbjikeilhbaaGreatDoor
open Go Go.RowKit
set_option linter.unusedVariables false
set_option linter.unusedSimpArgs false
def RecAt (D:Nat) (rec:Loop) (W:World):Prop:=W.heap[D+1]? =some (.loop rec)∧W.heap[D]? =some (.deferred (some []))
def twoPost (D:Nat) (IA:World→Prop) (W:World):Exit→Act→World→Prop
 | .normal,_,W'=>IA W'∧W'.heap[D+1]? =W.heap[D+1]?∧W'.heap[D]? =W.heap[D]?
 | _,_,_=>False
theorem wpIn_rangeFunc_two {F:Fence} {n:Nat} {P:Program} {g:Operand} {ps:Array Tmp} {assign body:Code} {Q:Exit→Act→World→Prop} {a:Act} {w:World}
 (hro:F.round=none) (h1:1≤n) {gf:Nat} {lb:Array Value} (hg:a.eval g=.func (.func gf) #[] lb) (hFg:F.fn gf) (eg:∀args w,(callFunc gf args).run P w=.ok (.enter gf args) w)
 {N:Nat} {encs:Nat→Array Value} (hps:∀k,(encs k).size=ps.size) (I IA:Nat→World→Prop)
 (hIl:∀k W r o,I k W→W.heap[w.heap.size+1]? =some (.loop r)→I k (W.putObj (w.heap.size+1) o))
 (hIAl:∀k W r o,IA k W→W.heap[w.heap.size+1]? =some (.loop r)→IA k (W.putObj (w.heap.size+1) o))
 (h0:∀r,I 0 ((w.alloc (.deferred (some []))).alloc (.loop r)))
 (hseq:∀(rec:Loop) (W1:World),(∀k W,I k W→RecAt w.heap.size rec W→k<N→YieldAt F (n - 1 - 1) P (w.heap.size+1) (encs k) W fun e W'=>e=.returned (.bool true)∧IA k W'∧RecAt w.heap.size rec W')→I 0 W1→RecAt w.heap.size rec W1→
   CallsIn F (n - 1) P gf (#[.func (.yield (w.heap.size+1)) #[] #[]] ++lb) W1 fun e W'=>(∃v,e=.returned v)∧I N W'∧RecAt w.heap.size rec W')
 (a₁:Nat→Act)
 (hassign:∀(l k:Nat) (W:World) (K:Act→World→Prop),K (a₁ k) W→
   assign.wpIn (F.inRound l) (n - 1 - 1) P (Exit.then K (fun _ _ _=>False)) { tmps:=(ps.zip (encs k)).foldl (fun t (p,v)=>t.setIfInBounds p v) a.tmps,defers:=[] } W)
 (hbody:∀(k:Nat) (W:World) (r:Loop),I k W→W.heap[w.heap.size+1]? =some (.loop r)→W.heap[w.heap.size]? =some (.deferred (some []))→k<N→body.wpIn (F.inRound (w.heap.size+1)) (n - 1 - 1) P (twoPost w.heap.size (IA k) W) (a₁ k) W)
 (hdone:∀(W:World),I N W→W.heap[w.heap.size]? =some (.deferred (some []))→Q .normal { a with defers:={ target:=.collected w.heap.size,args:=#[] } :: a.defers } W) :
 (Code.rangeFunc g ps assign body).wpIn F n P Q a w:=by
 refine wpIn_rangeFunc ?_
 intro fn hfn
 rw [hro]
 obtain⟨rec,hrec⟩:∃rec:LoopState→Option Code→Loop,rec=fun st pe=>{ state:=st,pending:=pe,fn,tmps:=a.tmps,params:=ps,assign,body,defers:=w.heap.size }:=⟨_,rfl⟩
 obtain⟨W1,hW1⟩:∃W1,(w.alloc (.deferred (some []))).alloc (.loop (rec .ready none))=W1:=⟨_,rfl⟩
 have hL1:W1.heap[w.heap.size+1]? =some (.loop (rec .ready none)):=by
  rw [←hW1];have:=World.alloc_heap_new (w.alloc (.deferred (some []))) (.loop (rec .ready none));rwa [World.size_alloc] at this
 have hK1:W1.heap[w.heap.size]? =some (.deferred (some [])):=by
  rw [←hW1];exact (Below.heap_alloc _ _ _ (by simp)).trans (World.alloc_heap_new w _)
 have hI1:I 0 W1:=by rw [←hW1];exact h0 _
 refine⟨w.heap.size+1,[{ target:=.collected w.heap.size,args:=#[] }],W1,{ target:=.fn (.func gf) lb,args:=#[.func (.yield (w.heap.size+1)) #[] #[]] },W1,gf,
  #[.func (.yield (w.heap.size+1)) #[] #[]] ++lb,W1,?_,?_,?_,?_,fun _=>h1,?_⟩
 ·rw [←hW1,hrec];exact run_enterLoop_outer _ _ _ _ _
 ·simp only [resolve,hg]
  simp [go_sem]
 ·intro f' hf';simp [Target.leads] at hf';subst hf';exact hFg
 ·simp [invoke,go_sem,eg]
 ·refine (hseq (rec .ready none) W1 ?_ hI1 ⟨hL1,hK1⟩).mono ?_
  ·rintro k W hi ⟨hl,hk⟩ hlen
   have hlt:w.heap.size+1<W.heap.size:=(Array.getElem?_eq_some_iff.1 hl).1
   have hy:=run_yield (P:=P) (args:=encs k) hl (by rw [hrec];exact hps k)
   rw [hrec] at hy
   refine⟨fn,_,assign,body,hy,roundIn_of_wpIn hfn (hassign _ k W _ ⟨_,run_beginRound hl (by rw [hrec]),?_⟩)⟩
   have hl2:(W.putObj (w.heap.size+1) (.loop { rec .ready none with state:=.busy })).heap[w.heap.size+1]? =some (.loop { rec .ready none with state:=.busy }):=World.putObj_heap_same hlt
   have hk2:(W.putObj (w.heap.size+1) (.loop { rec .ready none with state:=.busy })).heap[w.heap.size]? =some (.deferred (some [])):=(World.putObj_heap_other (by omega)).trans hk
   refine wpIn_mono (hbody k _ _ (hIl k W _ _ hi hl) hl2 hk2 hlen) ?_
   rintro e a3 W3 hp
   cases e with
   | normal=>
     obtain⟨hi3,hl3,hk3⟩:=hp
     rw [hl2] at hl3
     rw [hk2] at hk3
     have hr:=run_endRound (P:=P) none hl3
     refine⟨_,_,hr,rfl,hIAl k W3 _ _ hi3 hl3,?_,(World.putObj_heap_other (by omega)).trans hk3⟩
     rw [World.putObj_heap_same (Array.getElem?_eq_some_iff.1 hl3).1]
     simp [hrec]
   | ret=>exact hp.elim
   | exit id=>exact hp.elim
   | goto t=>exact hp.elim
   | panic ch=>exact hp.elim
   | outgrown=>exact hp.elim
  ·rintro e W2 ⟨⟨v,rfl⟩,hi,hl,hk⟩
   have he:=run_endLoop (P:=P) hl (by rw [hrec];simp)
   have hp:(rec .ready none).pending=none:=by rw [hrec]
   rw [hp] at he
   exact⟨none,_,he,hdone _ (hIl N W2 _ _ hi hl) ((World.putObj_heap_other (by omega)).trans hk)⟩
end Go.Proofs.YtdilbjikeilhbaaGreatDoor
namespace Go.Proofs.YtdilbjikeilhbaaGreatDoor
open Go.RowKit
set_option linter.unusedVariables false
set_option linter.unusedSimpArgs false
def Hld (tag:Nat→Nat) (j:Nat) (Pr:World→Prop) (w:World):Prop:=
 Pr w∧∀w',w.heap.size≤w'.heap.size→(∀b,b<w.heap.size→tag b=j∨tag b=0→w'.heap[b]? =w.heap[b]?)→Pr w'
def Ext (w:World) (tag tag':Nat→Nat):Prop:=∀b,b<w.heap.size→tag' b=tag b
def Snp (tag:Nat→Nat) (w:World) (b:Nat):Prop:=tag b=0∧b<w.heap.size
structure Trn (tag:Nat→Nat) (j:Nat) (w w':World) (tag':Nat→Nat):Prop where
 c:Chg (fun b=>tag b=j) w w'
 e:Ext w tag tag'
section
variable {tag tag' tag'':Nat→Nat} {i j:Nat} {Pr Pr':World→Prop} {w w' w'':World}
theorem Ext.refl (w:World) (tag:Nat→Nat):Ext w tag tag:=fun _ _=>rfl
theorem Ext.trans (h:Ext w tag tag') (hs:w.heap.size≤w'.heap.size) (k:Ext w' tag' tag''):Ext w tag tag'':=fun b hb=>(k b (Nat.lt_of_lt_of_le hb hs)).trans (h b hb)
theorem Hld.step (h:Hld tag j Pr w) (hs:w.heap.size≤w'.heap.size) (hk:∀b,b<w.heap.size→tag b=j∨tag b=0→w'.heap[b]? =w.heap[b]?) (ht:Ext w tag tag'):Hld tag' j Pr w':=
 ⟨h.2 w' hs hk,fun w'' hs2 hk2=>h.2 w'' (Nat.le_trans hs hs2) fun b hb ht'=>(hk2 b (Nat.lt_of_lt_of_le hb hs) (by rw [ht b hb];exact ht')).trans (hk b hb ht')⟩
theorem Hld.below (h:Hld tag j Pr w) (hb:Below w.heap.size w w') (ht:Ext w tag tag'):Hld tag' j Pr w':=h.step hb.size (fun b hl _=>hb.block b hl) ht
theorem Hld.drew (h:Hld tag j Pr w):Hld tag j Pr w.drew:=h.below (Below.refl _ _).drew (Ext.refl _ _)
theorem Hld.imp (h:Hld tag j Pr w) (hp:∀w',Pr w'→Pr' w'):Hld tag j Pr' w:=⟨hp _ h.1,fun w' hs hk=>hp _ (h.2 w' hs hk)⟩
theorem Hld.and (h:Hld tag j Pr w) (h':Hld tag j Pr' w):Hld tag j (fun w=>Pr w∧Pr' w) w:=⟨⟨h.1,h'.1⟩,fun w' hs hk=>⟨h.2 w' hs hk,h'.2 w' hs hk⟩⟩
theorem Hld.of (h:Pr w) (hk:∀w',w.heap.size≤w'.heap.size→(∀b,b<w.heap.size→tag b=j∨tag b=0→w'.heap[b]? =w.heap[b]?)→Pr w'):Hld tag j Pr w:=⟨h,hk⟩
theorem Hld.turn (h:Hld tag i Pr w) (ht:Trn tag j w w' tag') (hij:i≠j) (hj:0≠j):Hld tag' i Pr w':=
 h.step ht.c.size (fun b hl hb=>ht.c.block b hl (by rintro e;rcases hb with hb | hb <;> omega)) ht.e
theorem Hld.chg {S:Nat→Prop} (h:Hld tag i Pr w) (hc:Chg S w w') (hS:∀b,b<w.heap.size→S b→tag b≠i∧tag b≠0) (ht:Ext w tag tag'):Hld tag' i Pr w':=
 h.step hc.size (fun b hl hb=>hc.block b hl (fun e=>by have:=hS b hl e;rcases hb with hb | hb <;> omega)) ht
theorem Snp.turn {b:Nat} (h:Snp tag w b) (ht:Trn tag j w w' tag'):Snp tag' w' b:=⟨(ht.e b h.2).trans h.1,Nat.lt_of_lt_of_le h.2 ht.c.size⟩
theorem Snp.ext {b:Nat} (h:Snp tag w b) (hs:w.heap.size≤w'.heap.size) (ht:Ext w tag tag'):Snp tag' w' b:=⟨(ht b h.2).trans h.1,Nat.lt_of_lt_of_le h.2 hs⟩
theorem Trn.trans (h:Trn tag j w w' tag') (k:Trn tag' j w' w'' tag''):Trn tag j w w'' tag'':=
 ⟨⟨k.c.os.trans h.c.os,k.c.tape.trans h.c.tape,k.c.output.trans h.c.output,Nat.le_trans h.c.size k.c.size,fun b hb hn=>(k.c.block b (Nat.lt_of_lt_of_le hb h.c.size) (by rw [h.e b hb];exact hn)).trans (h.c.block b hb hn)⟩,h.e.trans h.c.size k.e⟩
theorem Trn.below (hb:Below w.heap.size w w') (he:Ext w tag tag'):Trn tag j w w' tag':=⟨Chg.of_below hb _,he⟩
theorem Trn.refl (tag:Nat→Nat) (j:Nat) (w:World):Trn tag j w w tag:=⟨Chg.refl _ _,Ext.refl _ _⟩
theorem Trn.mono_ {S:Nat→Prop} (hc:Chg S w w') (hs:∀b,b<w.heap.size→S b→tag b=j) (he:Ext w tag tag'):Trn tag j w w' tag':=⟨hc.mono hs,he⟩
theorem Hld.blk {g:Nat} {t:TypeId} {cs:Array Value} (h:Blk w g t cs) (hg:tag g=j∨tag g=0):Hld tag j (fun w=>Blk w g t cs) w:=
 ⟨h,fun w' hs hk=>(hk g h.lt hg).trans h⟩
def extT (n:Nat) (tag f:Nat→Nat) (b:Nat):Nat:=if b<n then tag b else f b
theorem extT_ext (w:World) (tag f:Nat→Nat):Ext w tag (extT w.heap.size tag f):=fun b hb=>if_pos hb
theorem extT_new {n b:Nat} (tag f:Nat→Nat) (h:n≤b):extT n tag f b=f b:=if_neg (by omega)
end
end Go.Proofs.YtdilbjikeilhbaaGreatDoor
