import Derived.Below
import Derived.Laws.OwnMore
import Derived.Laws.Rows
import Derived.Deep.Draws
import Derived.Lib.Hide
import Derived.Deep.Slices
import Derived.ChangeOld
import Derived.ProofKit
import Derived.WalkKit
import Derived.ChangeKeysEq
namespace Go.Proofs.YtdilbjikeilhbaaGreatDoor
open Go.RowKit
set_option linter.unusedVariables false
set_option linter.unusedSimpArgs false
def Blk (w:World) (g:Nat) (t:TypeId) (cs:Array Value):Prop:=w.heap[g]? =some (.cells cs t (0,0))
section
variable {w w':World} {g:Nat} {t:TypeId} {cs:Array Value}
theorem Blk.lt (h:Blk w g t cs):g<w.heap.size:=by
 rcases Nat.lt_or_ge g w.heap.size with hlt | hge
 ·exact hlt
 ·unfold Blk at h;rw [Array.getElem?_eq_none hge] at h;cases h
theorem Blk.cell (h:Blk w g t cs) (i:Nat):w.cell? ⟨g,i,none⟩=cs[i]?:=cell_of_row w g i cs t (0,0) h
theorem Blk.frozen (h:Blk w g t cs) (i:Nat):w.frozen? ⟨g,i,none⟩=false:=by
 unfold Blk at h
 simp [World.frozen?,h]
theorem Blk.new (w:World) (t:TypeId) (cs:Array Value):Blk (w.alloc (.cells cs t)) w.heap.size t cs:=heap_alloc_new w _
theorem Blk.drew (h:Blk w g t cs):Blk w.drew g t cs:=h
theorem Blk.drewN (h:Blk w g t cs) (n:Nat):Blk (w.drewN n) g t cs:=h
theorem Blk.alloc (h:Blk w g t cs) (o:Obj):Blk (w.alloc o) g t cs:=(Below.heap_alloc w o g h.lt).trans h
theorem Blk.set_ (h:Blk w g t cs) (i:Nat) (u:Value):Blk (w.setCell ⟨g,i,none⟩ u) g t (cs.setIfInBounds i u):=by
 unfold Blk at h ⊢
 simp [World.setCell,Array.getElem?_modify,h]
theorem Blk.far (h:Blk w g t cs) {p:Addr} (hp:g≠p.block) (u:Value):Blk (w.setCell p u) g t cs:=(Below.heap_setCell w p u g hp).trans h
theorem Blk.below {B:Nat} (h:Blk w g t cs) (hb:Below B w w') (hg:g<B):Blk w' g t cs:=(hb.block g hg).trans h
theorem Blk.ne_ {g':Nat} {t':TypeId} {cs':Array Value} (h:Blk w g t cs) (h':Blk w g' t' cs') (hne:t≠t'):g≠g':=by
 rintro rfl
 unfold Blk at h h'
 rw [h] at h'
 injection h' with h'
 injection h' with _ ht
 exact hne ht
end
structure Chg (S:Nat→Prop) (w w':World):Prop where
 os:w'.os=w.os
 tape:w'.tape=w.tape
 output:w'.output=w.output
 size:w.heap.size≤w'.heap.size
 block:∀k,k<w.heap.size→¬S k→w'.heap[k]? =w.heap[k]?
section
variable {S S':Nat→Prop} {a b c w w':World}
theorem Chg.refl (S:Nat→Prop) (w:World):Chg S w w:=⟨rfl,rfl,rfl,Nat.le_refl _,fun _ _ _=>rfl⟩
theorem Chg.trans (h:Chg S a b) (k:Chg S b c):Chg S a c:=
 ⟨k.os.trans h.os,k.tape.trans h.tape,k.output.trans h.output,Nat.le_trans h.size k.size,
  fun i hi hs=>(k.block i (Nat.lt_of_lt_of_le hi h.size) hs).trans (h.block i hi hs)⟩
theorem Chg.mono (h:Chg S a b) (hs:∀k,k<a.heap.size→S k→S' k):Chg S' a b:=
 ⟨h.os,h.tape,h.output,h.size,fun k hk hn=>h.block k hk fun hS=>hn (hs k hk hS)⟩
theorem Chg.drew (h:Chg S a w):Chg S a w.drew:=⟨h.os,h.tape,h.output,h.size,h.block⟩
theorem Chg.drewN (h:Chg S a w) (n:Nat):Chg S a (w.drewN n):=⟨h.os,h.tape,h.output,h.size,h.block⟩
theorem Chg.alloc (h:Chg S a w) (o:Obj):Chg S a (w.alloc o):=
 ⟨h.os,h.tape,h.output,by have:=h.size;simp;omega,fun k hk hn=>(Below.heap_alloc _ _ _ (by have:=h.size;omega)).trans (h.block k hk hn)⟩
theorem Chg.setCell (h:Chg S a w) {p:Addr} (hp:S p.block∨a.heap.size≤p.block) (u:Value):Chg S a (w.setCell p u):=
 ⟨h.os,h.tape,h.output,by have:=h.size;simp;omega,fun k hk hn=>(Below.heap_setCell _ _ _ _ (by rintro rfl;rcases hp with hp | hp;exact hn hp;omega)).trans (h.block k hk hn)⟩
theorem Chg.set_at {g:Nat} (h:Chg (· =g) a w) (i:Nat) (u:Value):Chg (· =g) a (w.setCell ⟨g,i,none⟩ u):=h.setCell (.inl rfl) u
theorem Chg.of_below (h:Below a.heap.size a b) (S:Nat→Prop):Chg S a b:=⟨h.os,h.tape,h.output,h.size,fun k hk _=>h.block k hk⟩
theorem Chg.below {B:Nat} (h:Chg S a b) (hB:B≤a.heap.size) (hs:∀k,S k→B≤k):Below B a b:=
 ⟨h.os,h.tape,h.output,h.size,fun k hk=>h.block k (by omega) fun hS=>by have:=hs k hS;omega⟩
theorem Blk.chg {g:Nat} {t:TypeId} {cs:Array Value} (h:Blk a g t cs) (hc:Chg S a b) (hn:¬S g):Blk b g t cs:=(hc.block g h.lt hn).trans h
theorem Chg.cell (hc:Chg S a b) {p:Addr} (hp:p.block<a.heap.size) (hn:¬S p.block):b.cell? p=a.cell? p:=World.cell?_of_block (hc.block p.block hp hn)
theorem Chg.frozen (hc:Chg S a b) {p:Addr} (hp:p.block<a.heap.size) (hn:¬S p.block):b.frozen? p=a.frozen? p:=World.frozen?_of_block (hc.block p.block hp hn)
end
def Rd1 (w:World) (a:Option Addr) (len:Nat) (vs:List Value):Prop:=
 vs.length=len∧∀k v,vs[k]? =some v→∃b off,a=some ⟨b,off,none⟩∧w.cell? ⟨b,off+k,none⟩=some v
theorem Rd1.below {w w':World} {a:Option Addr} {len:Nat} {vs:List Value} (h:Rd1 w a len vs) (hb:Below w.heap.size w w'):Rd1 w' a len vs:=
 ⟨h.1,fun k v hk=>by
   obtain⟨b,off,e,hc⟩:=h.2 k v hk
   exact⟨b,off,e,(hb.cell (p:=⟨b,off+k,none⟩) (World.block_lt_of_cell? w _ hc)).trans hc⟩⟩
theorem Rd1.open_ {H:Type} {enc:TypeId×Value→H} {P:Program} {w:World} {spare:Nat→Bool} {held:Bool} {t e:TypeId} {a:Option Addr} {len cap:Nat} {d:DataW H} {pl:List MemPlace}
 (ht:P.underlying t=some (.slice e)) (hc:P.cellsOf e=1) (h:DataW.Trod enc P w 0 spare held t (.slice a len cap) d pl) :
 ∃vs,Rd1 w a len vs∧len≤maxLen∧∀v ∈ vs,∃y n,DataW.trod enc P w 0 spare held n e [v]=some y:=by
 obtain⟨fuel,hf⟩:=h
 rcases Deep.open_slice1 ht hc hf with ⟨hcs,_⟩ | ⟨x,l,c,m,n,V,D,Pl,hcs,_,hl,hm,hmm,_,hx⟩
 ·simp [Value.cells] at hcs
  obtain⟨rfl,rfl,rfl⟩:=hcs
  exact⟨[],⟨rfl,by simp⟩,by simp,by simp⟩
 ·simp [Value.cells] at hcs
  obtain⟨rfl,rfl,rfl⟩:=hcs
  have hle:len≤m:=by rw [hmm];split <;> omega
  refine⟨(List.range len).map V,⟨by simp,fun k v hk=> ?_⟩,by omega,fun v hv=> ?_⟩
  ·rw [List.getElem?_map,Option.map_eq_some_iff] at hk
   obtain⟨k',hk',rfl⟩:=hk
   have hlt:k<len:=by
    rcases Nat.lt_or_ge k len with h | h
    ·exact h
    ·rw [List.getElem?_eq_none (by simpa using h)] at hk';cases hk'
   rw [List.getElem?_range hlt] at hk'
   ·cases hk'
    obtain⟨b,off,spot⟩:=x
    have h1:=(hx k (by omega)).1
    have hs:spot=none:=by
     have:=World.cell?_spot (hx 0 (by omega)).1
     simpa [Addr.add] using this
    subst hs
    refine⟨b,off,rfl,?_⟩
    have ha:(⟨b,off,none⟩:Addr).add k=⟨b,off+k,none⟩:=by unfold Addr.add;split <;> simp_all
    rwa [ha] at h1
  ·simp at hv
   obtain⟨i,hi,rfl⟩:=hv
   exact⟨_,_,(hx i (by omega)).2⟩
def hasRow (w:World) (p:Addr) (n:Nat):Bool:=(List.range n).all fun j=>(w.cell? (p.add j)).isSome
def rowOf (w:World) (p:Addr) (n:Nat):List Value:=(List.range n).map fun j=>(w.cell? (p.add j)).getD undef
def hasRowV (w:World) (n:Nat):Value→Bool
 | .pointer (some p)=>hasRow w p n
 | _=>false
def rowV (w:World) (n:Nat):Value→List Value
 | .pointer (some p)=>rowOf w p n
 | _=>[]
@[go_sem] theorem hasRowV_ptr (w:World) (n:Nat) (p:Addr):hasRowV w n (.pointer (some p))=hasRow w p n:=(rfl)
@[go_sem] theorem rowV_ptr (w:World) (n:Nat) (p:Addr):rowV w n (.pointer (some p))=rowOf w p n:=(rfl)
theorem add_at (b off:Nat) (j:Nat):(⟨b,off,none⟩:Addr).add j=⟨b,off+j,none⟩:=by unfold Addr.add;split <;> simp_all
theorem hasRow_iff {w:World} {p:Addr} {n:Nat}:hasRow w p n=true↔∀j,j<n→(w.cell? (p.add j)).isSome=true:=by
 simp [hasRow]
theorem length_rowOf (w:World) (p:Addr) (n:Nat):(rowOf w p n).length=n:=by simp [rowOf]
theorem rowOf_at {w:World} {p:Addr} {n:Nat} (h:hasRow w p n=true) (j:Nat) (hj:j<n):w.cell? (p.add j)=(rowOf w p n)[j]?:=by
 have h1:=hasRow_iff.1 h j hj
 obtain⟨v,hv⟩:=Option.isSome_iff_exists.1 h1
 simp [rowOf,hj,hv]
theorem row_of_cells {w:World} {p:Addr} {l:List Value} (h:∀j v,l[j]? =some v→w.cell? (p.add j)=some v):hasRow w p l.length=true∧rowOf w p l.length=l:=by
 refine⟨hasRow_iff.2 fun j hj=>by rw [h j _ (List.getElem?_eq_getElem hj)];rfl,?_⟩
 apply List.ext_getElem?
 intro j
 by_cases hj:j<l.length
 ·have:=h j _ (List.getElem?_eq_getElem hj)
  simp [rowOf,hj,this]
 ·rw [List.getElem?_eq_none (by rw [length_rowOf];omega),List.getElem?_eq_none (by omega)]
theorem row_part {w:World} {b off n:Nat} {l:List Value} (h:hasRow w ⟨b,off,none⟩ n=true) (he:rowOf w ⟨b,off,none⟩ n=l) (i m:Nat) (hm:i+m≤n) :
 hasRow w ⟨b,off+i,none⟩ m=true∧rowOf w ⟨b,off+i,none⟩ m=(l.drop i).take m:=by
 have hl:l.length=n:=by rw [←he,length_rowOf]
 have h2:=row_of_cells (w:=w) (p:=⟨b,off+i,none⟩) (l:=(l.drop i).take m) (fun j v hv=>by
  rw [add_at]
  rw [List.getElem?_take] at hv
  split at hv
  ·rename_i hjm
   rw [List.getElem?_drop] at hv
   have:=rowOf_at h (i+j) (by omega)
   rw [he,add_at] at this
   rw [show off+i+j=off+(i+j) from by omega,this,hv]
  ·cases hv)
 have hlen:((l.drop i).take m).length=m:=by rw [List.length_take,List.length_drop];omega
 rwa [hlen] at h2
theorem row_cell {w:World} {b off n:Nat} {l:List Value} (h:hasRow w ⟨b,off,none⟩ n=true) (he:rowOf w ⟨b,off,none⟩ n=l) (i:Nat) (hi:i<n):w.cell? ⟨b,off+i,none⟩=l[i]?:=by
 have:=rowOf_at h i hi
 rwa [he,add_at] at this
theorem hasRow_congr {w w':World} {p:Addr} {n:Nat} (h:∀j,w'.cell? (p.add j)=w.cell? (p.add j)):hasRow w' p n=hasRow w p n∧rowOf w' p n=rowOf w p n:=by
 simp [hasRow,rowOf,h]
theorem block_add (p:Addr) (j:Nat):(p.add j).block=p.block:=by unfold Addr.add;split <;> rfl
theorem row_block {w w':World} {p:Addr} {n:Nat} (h:w'.heap[p.block]? =w.heap[p.block]?):hasRow w' p n=hasRow w p n∧rowOf w' p n=rowOf w p n:=
 hasRow_congr fun j=>World.cell?_of_block (by rw [block_add];exact h)
theorem row_below {B:Nat} {w w':World} (hb:Below B w w') {p:Addr} (hp:p.block<B) (n:Nat):hasRow w' p n=hasRow w p n∧rowOf w' p n=rowOf w p n:=row_block (hb.block _ hp)
@[go_sem] theorem hasRow_drew (w:World) (p:Addr) (n:Nat):hasRow w.drew p n=hasRow w p n:=(rfl)
@[go_sem] theorem rowOf_drew (w:World) (p:Addr) (n:Nat):rowOf w.drew p n=rowOf w p n:=(rfl)
@[go_sem] theorem hasRow_drewN (w:World) (k:Nat) (p:Addr) (n:Nat):hasRow (w.drewN k) p n=hasRow w p n:=(rfl)
@[go_sem] theorem rowOf_drewN (w:World) (k:Nat) (p:Addr) (n:Nat):rowOf (w.drewN k) p n=rowOf w p n:=(rfl)
@[go_sem] theorem hasRow_alloc (w:World) (o:Obj) (p:Addr) (n:Nat) (h:p.block<w.heap.size):hasRow (w.alloc o) p n=hasRow w p n:=(row_block (Below.heap_alloc w o _ h)).1
@[go_sem] theorem rowOf_alloc (w:World) (o:Obj) (p:Addr) (n:Nat) (h:p.block<w.heap.size):rowOf (w.alloc o) p n=rowOf w p n:=(row_block (Below.heap_alloc w o _ h)).2
@[go_sem] theorem hasRow_new (w:World) (l:List Value) (t:TypeId) (i n:Nat) (h:i+n≤l.length):hasRow (w.alloc (.cells l.toArray t)) ⟨w.heap.size,i,none⟩ n=true:=by
 rw [hasRow_iff]
 intro j hj
 rw [add_at,World.cell?_alloc_new]
 simp;omega
@[go_sem] theorem rowOf_new (w:World) (l:List Value) (t:TypeId) (i n:Nat) (h:i+n≤l.length):rowOf (w.alloc (.cells l.toArray t)) ⟨w.heap.size,i,none⟩ n=(l.drop i).take n:=by
 apply List.ext_getElem?
 intro j
 by_cases hj:j<n
 ·have hx:i+j<l.length:=by omega
  simp [rowOf,hj,add_at,World.cell?_alloc_new,List.getElem?_take,List.getElem?_drop,List.getElem?_eq_getElem hx]
 ·rw [List.getElem?_eq_none (by rw [length_rowOf];omega),List.getElem?_take,if_neg hj]
def aggOf (P:Program) (t:TypeId) (n:Nat):Bool:=
 (match P.underlying t with | some (.struct _)=>true | some (.array _ _)=>true | _=>false)&&(match P.info? t with | some i=>i.size==n | none=>false)
theorem run_isAgg {P:Program} {t:TypeId} {n:Nat} (h:aggOf P t n=true) (w:World):(isAgg t).run P w=.ok true w:=by
 unfold aggOf at h
 cases hu:P.underlying t with
 | none=>simp [hu] at h
 | some d=>cases d <;> simp [hu] at h <;> simp [isAgg,run_underlying hu]
theorem run_sizeAgg {P:Program} {t:TypeId} {n:Nat} (h:aggOf P t n=true) (w:World):(sizeOf t).run P w=.ok n w:=by
 unfold aggOf at h
 cases hi:P.info? t with
 | none=>simp [hi] at h
 | some i=>simp [hi] at h;simp [sizeOf,typeInfo,hi,h.2]
theorem run_load_row {P:Program} {t:TypeId} {n:Nat} (hT:aggOf P t n=true) {w:World} {p:Addr} (h:hasRow w p n=true):(loadVar t p).run P w=.ok (.agg (rowOf w p n).toArray) w:=by
 have h1:=run_loadCells_list (P:=P) w p (rowOf w p n) (fun j v hv=>by
  have hj:j<n:=by have:=(List.getElem?_eq_some_iff.1 hv).1;rwa [length_rowOf] at this
  rw [rowOf_at h j hj,hv])
 rw [length_rowOf] at h1
 simp [loadVar,run_isAgg hT,run_sizeAgg hT,h1]
theorem exec_load {P:Program} {t:TypeId} {n:Nat} (hT:aggOf P t n=true) (ρ:Operand→Value) (d:Option Tmp) (x:Operand) (ty:TypeId) (s:String) (af:Array Edge) (g:Option (Nat×Bool)) (w:World)
 (h:hasRowV w n (ρ x)=true):(execOp ρ { dst:=d,op:=.load t x,type:=ty,pos:=s,after:=af,guard:=g }).run P w=.ok (.value (.agg (rowV w n (ρ x)).toArray)) w:=by
 generalize hv:ρ x=v at h ⊢
 cases v with
 | pointer a=>
   cases a with
   | none=>simp [hasRowV] at h
   | some p=>
     simp only [hasRowV] at h
     simp [execOp,hv,Instr.loadAt,Instr.sureAddr,run_load_row hT h,rowV]
 | _=>simp [hasRowV] at h
def cell1:Value→Bool
 | .agg _=>false
 | .tuple _=>false
 | _=>true
@[go_sem] theorem cell1_bool (b:Bool):cell1 (.bool b)=true:=(rfl)
@[go_sem] theorem cell1_int (k:IntKind) (n:Int):cell1 (.int k n)=true:=(rfl)
@[go_sem] theorem cell1_slice (a:Option Addr) (n c:Nat):cell1 (.slice a n c)=true:=(rfl)
theorem cell1_one {v:Value} (h:cell1 v=true):v.oneCell'=true:=by cases v <;> first | rfl | simp [cell1] at h
def canPut (w:World) (p:Addr) (n:Nat):Bool:=
 match w.heap[p.block]? with
 | some (.cells cur _ (0,0))=>p.spot.isNone&&decide (p.off+n≤cur.size)
 | _=>false
def putRow (w:World) (p:Addr) (l:List Value):World:=
 match w.heap[p.block]? with
 | some (.cells cur _ _)=>w.setRow p.block (cur.toList.take p.off++l++cur.toList.drop (p.off+l.length)).toArray
 | _=>w
def okAgg (n:Nat):Value→Bool
 | .agg cs=>cs.size==n&&cs.all cell1
 | _=>false
def canPutV (w:World) (n:Nat):Value→Bool
 | .pointer (some p)=>canPut w p n
 | _=>false
def putV (w:World):Value→Value→World
 | .pointer (some p),.agg cs=>putRow w p cs.toList
 | _,_=>w
@[go_sem] theorem canPutV_ptr (w:World) (n:Nat) (p:Addr):canPutV w n (.pointer (some p))=canPut w p n:=(rfl)
@[go_sem] theorem putV_ptr (w:World) (p:Addr) (l:List Value):putV w (.pointer (some p)) (.agg l.toArray)=putRow w p l:=(rfl)
@[go_sem] theorem okAgg_list (n:Nat) (l:List Value):okAgg n (.agg l.toArray)=(l.length==n&&l.all cell1):=by simp [okAgg]
theorem exec_store {P:Program} {t:TypeId} {n:Nat} (hT:aggOf P t n=true) (ρ:Operand→Value) (d:Option Tmp) (x y:Operand) (ty:TypeId) (s:String) (af:Array Edge) (g:Option (Nat×Bool)) (w:World)
 (h1:okAgg n (ρ y)=true) (h2:canPutV w n (ρ x)=true) :
 (execOp ρ { dst:=d,op:=.store t x y,type:=ty,pos:=s,after:=af,guard:=g }).run P w=.ok .skip (putV w (ρ x) (ρ y)):=by
 generalize hx:ρ x=vx at h2 ⊢
 generalize hy:ρ y=vy at h1 ⊢
 cases vy with
 | agg cs=>
   cases vx with
   | pointer a=>
     cases a with
     | none=>simp [canPutV] at h2
     | some p=>
       simp only [canPutV,canPut] at h2
       split at h2
       ·rename_i cur e hg
        obtain⟨pb,po,psp⟩:=p
        simp only [Bool.and_eq_true,Option.isNone_iff_eq_none,decide_eq_true_eq] at h2
        obtain⟨rfl,hle⟩:=h2
        simp only [okAgg,Bool.and_eq_true,beq_iff_eq] at h1
        obtain⟨hsz,hall⟩:=h1
        subst hsz
        have h1':∀u ∈ cs.toList,u.oneCell'=true:=fun u hu=>cell1_one (by
         obtain⟨i,hi,rfl⟩:=Array.getElem_of_mem (Array.mem_toList_iff.1 hu)
         exact (Array.all_eq_true.1 hall) i hi)
        have hst:=run_storeCells_at P pb po e cs.toList 0 cur w hg (by simp;omega) h1'
        simp only [Nat.add_zero] at hst
        have hadd:(⟨pb,po,none⟩:Addr)=⟨pb,po,none⟩:=rfl
        have hcs:Value.cells (.agg cs)=cs:=rfl
        simp [execOp,hx,hy,Instr.storeAt,Instr.sureAddr,storeVar,run_sizeAgg hT,hcs,putV,putRow,hg]
        simp at hst
        rw [hst]
        simp
       ·cases h2
   | _=>simp [canPutV] at h2
 | _=>simp [okAgg] at h1
inductive Kd where
 | b
 | i (k:IntKind)
def okK:Kd→Value→Bool
 | .b,.bool _=>true
 | .i k,.int k' n=>k==k'&&(Lit.int k n).wf
 | _,_=>false
def okL:List Kd→List Value→Bool
 | [],[] =>true
 | k :: ks,v :: vs=>okK k v&&okL ks vs
 | _,_=>false
theorem okL_len:∀{ks:List Kd} {l:List Value},okL ks l=true→l.length=ks.length
 | [],[],_=>rfl
 | k :: ks,v :: vs,h=>by simp [okL] at h;simp [okL_len h.2]
 | [],_ :: _,h=>by simp [okL] at h
 | _ :: _,[],h=>by simp [okL] at h
theorem okL_append {ks ks':List Kd} {l l':List Value}:okL ks l=true→okL ks' l'=true→okL (ks++ks') (l++l')=true:=by
 intro h h'
 induction ks generalizing l with
 | nil=>cases l with | nil=>simpa using h' | cons v vs=>simp [okL] at h
 | cons k ks ih=>
   cases l with
   | nil=>simp [okL] at h
   | cons v vs=>simp [okL] at h ⊢;exact⟨h.1,ih h.2⟩
theorem okL_split {ks ks':List Kd} {l:List Value} (h:okL (ks++ks') l=true):okL ks (l.take ks.length)=true∧okL ks' (l.drop ks.length)=true:=by
 induction ks generalizing l with
 | nil=>exact⟨by simp [okL],by simpa using h⟩
 | cons k ks ih=>
   cases l with
   | nil=>simp [okL] at h
   | cons v vs=>
     simp [okL] at h
     have:=ih h.2
     simp [okL,h.1,this]
theorem okK_cell1 {k:Kd} {v:Value} (h:okK k v=true):cell1 v=true:=by cases k <;> cases v <;> first | rfl | simp [okK] at h
theorem okL_cell1:∀{ks:List Kd} {l:List Value},okL ks l=true→l.all cell1=true
 | [],[],_=>rfl
 | k :: ks,v :: vs,h=>by
   simp [okL] at h
   rw [List.all_cons,okK_cell1 h.1,okL_cell1 h.2];rfl
 | [],_ :: _,h=>by simp [okL] at h
 | _ :: _,[],h=>by simp [okL] at h
def flatFs (P:Program) (F:TypeId→Option (List Kd)):Nat→List Field→Option (List Kd)
 | _,[] =>some []
 | o,f :: fs=>
   if f.name= "_" ∨f.offset≠o then none else
   match F f.type,P.info? f.type with
   | some ks,some i=>if i.size=ks.length then (flatFs P F (o+ks.length) fs).map (ks++ ·) else none
   | _,_=>none
def flatT (P:Program):Nat→TypeId→Option (List Kd)
 | 0,_=>none
 | d+1,t=>
   match P.underlying t with
   | some .bool=>some [.b]
   | some (.int k)=>some [.i k]
   | some (.struct fs)=>if P.stoodInHeld t then none else flatFs P (flatT P d) 0 fs.toList
   | some (.array n e)=>
     match flatT P d e,P.info? e with
     | some ks,some i=>if i.size=ks.length then some (List.replicate n ks).flatten else none
     | _,_=>none
   | _=>none
def isAggB (P:Program) (t:TypeId):Bool:=match P.underlying t with | some (.struct _)=>true | some (.array _ _)=>true | _=>false
def wrapV (P:Program) (t:TypeId) (l:List Value):Value:=if isAggB P t then .agg l.toArray else l.headD undef
theorem run_isAggB {P:Program} {t:TypeId} (w:World) (h:∃d,P.underlying t=some d):(isAgg t).run P w=.ok (isAggB P t) w:=by
 obtain⟨d,hu⟩:=h
 cases d <;> simp [isAgg,isAggB,run_underlying hu,hu]
theorem flatT_under {P:Program} {d:Nat} {t:TypeId} {ks:List Kd} (h:flatT P d t=some ks):∃u,P.underlying t=some u:=by
 cases d with
 | zero=>simp [flatT] at h
 | succ d=>
   unfold flatT at h
   cases hu:P.underlying t with
   | none=>simp [hu] at h
   | some u=>exact⟨u,rfl⟩
theorem flatT_one {P:Program} {d:Nat} {t:TypeId} {ks:List Kd} (h:flatT P d t=some ks) (hn:isAggB P t=false):∃k,ks=[k]:=by
 cases d with
 | zero=>simp [flatT] at h
 | succ d=>
   unfold flatT at h
   unfold isAggB at hn
   cases hu:P.underlying t with
   | none=>simp [hu] at h
   | some u=>
     rw [hu] at h hn
     cases u <;> simp at h hn
     ·exact⟨.b,h.symm⟩
     ·exact⟨_,h.symm⟩
theorem run_part {P:Program} {d:Nat} {t:TypeId} {ks:List Kd} (h:flatT P d t=some ks) {i:TypeInfo} (hi:P.info? t=some i) (hs:i.size=ks.length) (w:World) (X:List Value) (o:Nat) (hl:o+ks.length≤X.length) :
 (part t X.toArray o).run P w=.ok (wrapV P t ((X.drop o).take ks.length)) w:=by
 have hA:=run_isAggB w (flatT_under h)
 unfold part
 rw [Sem.run_bind,hA]
 simp only [Result.andThen_ok]
 cases hg:isAggB P t with
 | true=>
   simp only [if_true,Sem.run_bind,sizeOf,typeInfo,hi,wrapV,hg]
   simp [hi,hs,List.extract]
 | false=>
   obtain⟨k,rfl⟩:=flatT_one h hg
   simp at hl
   have hlt:o<X.length:=by omega
   have e1:((X.drop o).take [k].length).headD undef=X[o]:=by rw [List.drop_eq_getElem_cons hlt];rfl
   simp only [wrapV,hg,Bool.false_eq_true,if_false,e1]
   simp [hlt]
theorem dec_append {X Y:List Value} {n:Nat} [Decidable (X=Y)] [Decidable (X.take n=Y.take n)] [Decidable (X.drop n=Y.drop n)] :
 decide (X=Y)=(decide (X.take n=Y.take n)&&decide (X.drop n=Y.drop n)):=by
 by_cases h:X=Y
 ·subst h;simp
 ·have:¬(X.take n=Y.take n∧X.drop n=Y.drop n):=fun ⟨h1,h2⟩=>h (by rw [←List.take_append_drop n X,h1,h2,List.take_append_drop])
  simp [h]
  by_cases h1:X.take n=Y.take n
  ·simp [h1];exact fun h2=>this ⟨h1,h2⟩
  ·simp [h1]
open Classical in
theorem run_eqFs {P:Program} {d e:Nat} (IH:∀t ks,flatT P d t=some ks→∀(X Y:List Value) (w:World),okL ks X=true→okL ks Y=true→(Op.equalIn e t (wrapV P t X) (wrapV P t Y)).run P w=.ok (decide (X=Y)) w)
 (X Y:List Value) (w:World):∀(fs:List Field) (o:Nat) (ks:List Kd),flatFs P (flatT P d) o fs=some ks→okL ks (X.drop o)=true→okL ks (Y.drop o)=true→
 (Op.eqFields e X.toArray Y.toArray fs).run P w=.ok (decide (X.drop o=Y.drop o)) w
 | [],o,ks,h,hx,hy=>by
   simp [flatFs] at h
   subst h
   have h1:=okL_len hx
   have h2:=okL_len hy
   simp only [List.length_nil] at h1 h2
   rw [List.eq_nil_of_length_eq_zero h1,List.eq_nil_of_length_eq_zero h2]
   simp [Op.eqFields]
 | f :: fs,o,ks,h,hx,hy=>by
   unfold flatFs at h
   split at h
   ·cases h
   ·rename_i hno
    simp only [not_or,ne_eq,Decidable.not_not] at hno
    obtain⟨hn,ho⟩:=hno
    split at h
    ·rename_i k1 i hk1 hi
     split at h
     ·rename_i hs
      rw [Option.map_eq_some_iff] at h
      obtain⟨k2,hk2,rfl⟩:=h
      have hlx:=okL_len hx
      have hly:=okL_len hy
      rw [List.length_drop,List.length_append] at hlx hly
      obtain⟨hx1,hx2⟩:=okL_split hx
      obtain⟨hy1,hy2⟩:=okL_split hy
      have hob:o+k1.length≤X.length∨k1.length=0:=by omega
      have px:=run_part hk1 hi hs w X o
      have py:=run_part hk1 hi hs w Y o
      subst ho
      have one:∀Z:List Value,okL k1 ((Z.drop f.offset).take k1.length)=true→(part f.type Z.toArray f.offset).run P w=.ok (wrapV P f.type ((Z.drop f.offset).take k1.length)) w:=by
       intro Z hz
       by_cases hle:f.offset+k1.length≤Z.length
       ·exact run_part hk1 hi hs w Z f.offset hle
       ·have hzl:=okL_len hz
        rw [List.length_take,List.length_drop] at hzl
        have hk0:k1.length=0:=by omega
        have hA:=run_isAggB w (flatT_under hk1)
        have hg:isAggB P f.type=true:=by
         cases hg:isAggB P f.type with
         | true=>rfl
         | false=>obtain⟨k,rfl⟩:=flatT_one hk1 hg;simp at hk0
        unfold part
        rw [Sem.run_bind,hA]
        simp only [Result.andThen_ok,hg,if_true,Sem.run_bind,sizeOf,typeInfo,hi,wrapV]
        simp [hi,hs,hk0]
      simp only [Op.eqFields,ne_eq,hn,not_false_eq_true,if_true,Sem.run_bind,one X hx1,one Y hy1,Result.andThen_ok,IH f.type k1 hk1 _ _ w hx1 hy1]
      rw [List.drop_drop] at hx2 hy2
      have ih:=run_eqFs IH X Y w fs (f.offset+k1.length) k2 hk2 (by simpa [Nat.add_comm] using hx2) (by simpa [Nat.add_comm] using hy2)
      rw [dec_append (X:=X.drop f.offset) (Y:=Y.drop f.offset) (n:=k1.length)]
      by_cases h1:(X.drop f.offset).take k1.length=(Y.drop f.offset).take k1.length
      ·simp [h1,ih,List.drop_drop]
      ·simp [h1]
     ·cases h
    ·cases h
open Classical in
theorem run_eqIs {P:Program} {d e:Nat} {t:TypeId} {k1:List Kd} {i:TypeInfo} (hk1:flatT P d t=some k1) (hi:P.info? t=some i) (hs:i.size=k1.length)
 (IH:∀(X Y:List Value) (w:World),okL k1 X=true→okL k1 Y=true→(Op.equalIn e t (wrapV P t X) (wrapV P t Y)).run P w=.ok (decide (X=Y)) w)
 (X Y:List Value) (w:World):∀(n s:Nat),okL (List.replicate n k1).flatten (X.drop (s*k1.length))=true→okL (List.replicate n k1).flatten (Y.drop (s*k1.length))=true→
 (Op.eqItems e t k1.length X.toArray Y.toArray (List.range' s n)).run P w=.ok (decide (X.drop (s*k1.length)=Y.drop (s*k1.length))) w
 | 0,s,hx,hy=>by
   have h1:=okL_len hx
   have h2:=okL_len hy
   simp only [List.replicate_zero,List.flatten_nil,List.length_nil] at h1 h2
   rw [List.eq_nil_of_length_eq_zero h1,List.eq_nil_of_length_eq_zero h2]
   simp [Op.eqItems]
 | n+1,s,hx,hy=>by
   rw [List.replicate_succ,List.flatten_cons] at hx hy
   have hlx:=okL_len hx
   have hly:=okL_len hy
   rw [List.length_drop,List.length_append] at hlx hly
   obtain⟨hx1,hx2⟩:=okL_split hx
   obtain⟨hy1,hy2⟩:=okL_split hy
   have one:∀Z:List Value,okL k1 ((Z.drop (s*k1.length)).take k1.length)=true→(part t Z.toArray (s*k1.length)).run P w=.ok (wrapV P t ((Z.drop (s*k1.length)).take k1.length)) w:=by
    intro Z hz
    by_cases hle:s*k1.length+k1.length≤Z.length
    ·exact run_part hk1 hi hs w Z _ hle
    ·have hzl:=okL_len hz
     rw [List.length_take,List.length_drop] at hzl
     have hk0:k1.length=0:=by omega
     have hA:=run_isAggB w (flatT_under hk1)
     have hg:isAggB P t=true:=by
      cases hg:isAggB P t with
      | true=>rfl
      | false=>obtain⟨k,rfl⟩:=flatT_one hk1 hg;simp at hk0
     unfold part
     rw [Sem.run_bind,hA]
     simp only [Result.andThen_ok,hg,if_true,Sem.run_bind,sizeOf,typeInfo,hi,wrapV]
     simp [hi,hs,hk0]
   rw [List.range'_succ]
   simp only [Op.eqItems,Sem.run_bind,one X hx1,one Y hy1,Result.andThen_ok,IH _ _ w hx1 hy1]
   rw [List.drop_drop] at hx2 hy2
   have e1:(s+1)*k1.length=s*k1.length+k1.length:=Nat.succ_mul _ _
   have ih:=run_eqIs hk1 hi hs IH X Y w n (s+1) (by rw [e1];simpa [Nat.add_comm] using hx2) (by rw [e1];simpa [Nat.add_comm] using hy2)
   rw [dec_append (X:=X.drop (s*k1.length)) (Y:=Y.drop (s*k1.length)) (n:=k1.length)]
   by_cases h1:(X.drop (s*k1.length)).take k1.length=(Y.drop (s*k1.length)).take k1.length
   ·simp only [h1,decide_true,Bool.not_true,Bool.false_eq_true,if_false,Bool.true_and,ih,List.drop_drop,e1]
   ·simp [h1]
open Classical in
theorem run_eqFlat {P:Program} (e:Nat):∀(d:Nat) (t:TypeId) (ks:List Kd),flatT P d t=some ks→∀(X Y:List Value) (w:World),okL ks X=true→okL ks Y=true→
 (Op.equalIn (e+d) t (wrapV P t X) (wrapV P t Y)).run P w=.ok (decide (X=Y)) w
 | 0,t,ks,h,X,Y,w,hx,hy=>by simp [flatT] at h
 | d+1,t,ks,h,X,Y,w,hx,hy=>by
   unfold flatT at h
   cases hu:P.underlying t with
   | none=>simp [hu] at h
   | some u=>
     rw [hu] at h
     cases u <;> simp only [reduceCtorEq] at h
     case bool=>
      simp at h
      subst h
      match X,Y,hx,hy with
      | [x],[y],hx,hy=>
        simp [okL] at hx hy
        cases x <;> simp [okK] at hx
        cases y <;> simp [okK] at hy
        rename_i a b
        have hn:isAggB P t=false:=by simp [isAggB,hu]
        simp only [wrapV,hn,Bool.false_eq_true,if_false,List.headD_cons,←Nat.add_assoc,run_equalIn_bool' w _ t a b hu]
        congr 1
        cases a <;> cases b <;> simp
      | [],_,hx,_=>simp [okL] at hx
      | _ :: _ :: _,_,hx,_=>simp [okL] at hx
      | [_],[],_,hy=>simp [okL] at hy
      | [_],_ :: _ :: _,_,hy=>simp [okL] at hy
     case int k=>
      simp at h
      subst h
      match X,Y,hx,hy with
      | [x],[y],hx,hy=>
        simp [okL] at hx hy
        cases x <;> simp [okK] at hx
        cases y <;> simp [okK] at hy
        rename_i ka a kb b
        obtain⟨rfl,_⟩:=hx
        obtain⟨rfl,_⟩:=hy
        have hn:isAggB P t=false:=by simp [isAggB,hu]
        simp only [wrapV,hn,Bool.false_eq_true,if_false,List.headD_cons,←Nat.add_assoc,run_equalIn_int w _ t _ _ a b hu]
        congr 1
        by_cases hab:a=b <;> simp [hab]
      | [],_,hx,_=>simp [okL] at hx
      | _ :: _ :: _,_,hx,_=>simp [okL] at hx
      | [_],[],_,hy=>simp [okL] at hy
      | [_],_ :: _ :: _,_,hy=>simp [okL] at hy
     case struct fs=>
      split at h
      ·cases h
      ·rename_i hst
       have hg:isAggB P t=true:=by simp [isAggB,hu]
       have hfs:P.fieldsOf t=fs:=by simp [Program.fieldsOf,hu]
       have:=run_eqFs (e:=e+d) (run_eqFlat e d) X Y w fs.toList 0 ks h (by simpa using hx) (by simpa using hy)
       simp only [wrapV,hg,if_true,←Nat.add_assoc]
       rw [run_equalIn_struct w (e+d) t _ _ (by rw [hfs];exact hu) (by simpa using hst),hfs,this]
       simp
     case array n el=>
      split at h
      ·rename_i k1 i hk1 hi
       split at h
       ·rename_i hs
        simp at h
        subst h
        have hg:isAggB P t=true:=by simp [isAggB,hu]
        have hc:P.cellsOf el=k1.length:=by simp [Program.cellsOf,hi,hs]
        have:=run_eqIs (e:=e+d) hk1 hi hs (run_eqFlat e d el k1 hk1) X Y w n 0 (by simpa using hx) (by simpa using hy)
        simp only [wrapV,hg,if_true,←Nat.add_assoc]
        rw [run_equalIn_array w (e+d) _ _ hu hi,hc,List.range_eq_range',this]
        simp
       ·cases h
      ·cases h
def okV (ks:List Kd):Value→Bool
 | .agg cs=>okL ks cs.toList
 | _=>false
@[go_sem] theorem okV_list (ks:List Kd) (l:List Value):okV ks (.agg l.toArray)=okL ks l:=(rfl)
open Classical in
noncomputable def eqV:Value→Value→Bool
 | .agg a,.agg b=>decide (a.toList=b.toList)
 | _,_=>false
open Classical in
@[go_sem] theorem eqV_list (a b:List Value):eqV (.agg a.toArray) (.agg b.toArray)=decide (a=b):=(rfl)
theorem exec_eql {P:Program} {d:Nat} {t:TypeId} {ks:List Kd} (hf:flatT P d t=some ks) (hd:d≤10000) (hg:isAggB P t=true) (hq:P.eqGuardType P.depth t=false)
 (ρ:Operand→Value) (ds:Option Tmp) (x y:Operand) (t' ty:TypeId) (s:String) (af:Array Edge) (g:Option (Nat×Bool)) (w:World)
 (h1:okV ks (ρ x)=true) (h2:okV ks (ρ y)=true) :
 (execOp ρ { dst:=ds,op:=.binOp .eql t x y t',type:=ty,pos:=s,after:=af,guard:=g }).run P w=.ok (.value (.bool (eqV (ρ x) (ρ y)))) w:=by
 generalize hx:ρ x=vx at h1 ⊢
 generalize hy:ρ y=vy at h2 ⊢
 cases vx <;> simp [okV] at h1
 cases vy <;> simp [okV] at h2
 rename_i xs ys
 have:=run_eqFlat (P:=P) (10000 - d) d t ks hf xs.toList ys.toList w h1 h2
 rw [Nat.sub_add_cancel hd] at this
 simp only [wrapV,hg,if_true,Array.toArray_toList] at this
 simp [execOp,hx,hy,run_eqGuard_agg w .eql t x y xs ys hq,run_eql_struct,this,eqV]
theorem exec_neq {P:Program} {d:Nat} {t:TypeId} {ks:List Kd} (hf:flatT P d t=some ks) (hd:d≤10000) (hg:isAggB P t=true) (hq:P.eqGuardType P.depth t=false)
 (ρ:Operand→Value) (ds:Option Tmp) (x y:Operand) (t' ty:TypeId) (s:String) (af:Array Edge) (g:Option (Nat×Bool)) (w:World)
 (h1:okV ks (ρ x)=true) (h2:okV ks (ρ y)=true) :
 (execOp ρ { dst:=ds,op:=.binOp .neq t x y t',type:=ty,pos:=s,after:=af,guard:=g }).run P w=.ok (.value (.bool (!eqV (ρ x) (ρ y)))) w:=by
 generalize hx:ρ x=vx at h1 ⊢
 generalize hy:ρ y=vy at h2 ⊢
 cases vx <;> simp [okV] at h1
 cases vy <;> simp [okV] at h2
 rename_i xs ys
 have:=run_eqFlat (P:=P) (10000 - d) d t ks hf xs.toList ys.toList w h1 h2
 rw [Nat.sub_add_cancel hd] at this
 simp only [wrapV,hg,if_true,Array.toArray_toList] at this
 simp [execOp,hx,hy,run_eqGuard_agg w .neq t x y xs ys hq,run_neq_struct,this,eqV]
end Go.Proofs.YtdilbjikeilhbaaGreatDoor
