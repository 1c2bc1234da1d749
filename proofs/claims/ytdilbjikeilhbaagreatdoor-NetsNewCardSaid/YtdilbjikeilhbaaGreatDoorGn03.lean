import Derived.Test.YtdilbjikeilhbaaGreatDoorGn02
import Derived.OwnWalk
import Derived.Deep.AppendLies
namespace Go.Proofs.YtdilbjikeilhbaaGreatDoor
open Go.RowKit
set_option linter.unusedVariables false
set_option linter.unusedSimpArgs false
def cellsL (v:Value):List Value:=v.cells.toList
@[go_sem] theorem cellsL_bool (b:Bool):cellsL (.bool b)=[.bool b]:=(rfl)
@[go_sem] theorem cellsL_int (k:IntKind) (n:Int):cellsL (.int k n)=[.int k n]:=(rfl)
@[go_sem] theorem cellsL_slice (a:Option Addr) (n c:Nat):cellsL (.slice a n c)=[.slice a n c]:=(rfl)
@[go_sem] theorem cellsL_agg (l:List Value):cellsL (.agg l.toArray)=l:=(rfl)
def lenC (v:Value) (n:Nat):Bool:=(cellsL v).length==n
@[go_sem] theorem lenC_bool (b:Bool):lenC (.bool b) 1=true:=(rfl)
@[go_sem] theorem lenC_int (k:IntKind) (n:Int):lenC (.int k n) 1=true:=(rfl)
@[go_sem] theorem lenC_slice (a:Option Addr) (n c:Nat):lenC (.slice a n c) 1=true:=(rfl)
@[go_sem] theorem lenC_agg (l:List Value) (n:Nat):lenC (.agg l.toArray) n=(l.length==n):=(rfl)
def spl (z:List Value) (off:Nat) (l:List Value):List Value:=z.take off++l++z.drop (off+l.length)
theorem spl_get {z l:List Value} {off:Nat} (h:off+l.length≤z.length) (k:Nat):(spl z off l)[k]? =if k<off then z[k]? else if k<off+l.length then l[k - off]? else z[k]?:=by
 unfold spl
 by_cases h1:k<off
 ·rw [if_pos h1,List.getElem?_append_left (by simp;omega),List.getElem?_append_left (by simp;omega),List.getElem?_take,if_pos h1]
 ·rw [if_neg h1]
  by_cases h2:k<off+l.length
  ·rw [if_pos h2,List.getElem?_append_left (by simp;omega),List.getElem?_append_right (by simp;omega)]
   congr 1
   simp;omega
  ·rw [if_neg h2,List.getElem?_append_right (by simp;omega),List.getElem?_drop]
   congr 1
   simp;omega
theorem foldl_set (l:List Value):∀(cs:Array Value) (off j:Nat),off+j+l.length≤cs.size→
 ((l.zipIdx j).foldl (fun cs (c,j)=>cs.setIfInBounds (off+j) c) cs)=(spl cs.toList (off+j) l).toArray:=by
 induction l with
 | nil=>intro cs off j h;simp [spl]
 | cons v l ih=>
   intro cs off j h
   simp only [List.zipIdx_cons,List.foldl_cons]
   simp only [List.length_cons] at h
   rw [ih _ off (j+1) (by simp;omega)]
   congr 1
   apply List.ext_getElem?
   intro k
   rw [spl_get (by simp;omega),spl_get (by simp;omega)]
   simp only [Array.toList_setIfInBounds,List.length_cons,List.getElem?_set,Array.length_toList]
   rcases Nat.lt_trichotomy k (off+j) with hk | hk | hk
   ·rw [if_pos (by omega),if_neg (by omega),if_pos hk]
   ·subst hk
    rw [if_pos (by omega),if_pos rfl,if_pos (by omega),if_neg (by omega),if_pos (by omega),Nat.sub_self]
    rfl
   ·rw [if_neg (show ¬k<off+(j+1) by omega),if_neg (show ¬off+j=k by omega),if_neg (show ¬k<off+j by omega)]
    by_cases h2:k<off+(j+1)+l.length
    ·rw [if_pos h2,if_pos (by omega),show k - (off+j)=(k - (off+(j+1)))+1 from by omega,List.getElem?_cons_succ]
    ·rw [if_neg h2,if_neg (by omega)]
theorem fill_one (place:Nat→Option (Nat×Nat)) (z:List Value) (i off size:Nat) (v:Value) (rest:List (Nat×Value)) (hp:place i=some (off,size)) (hv:(cellsL v).length=size) (hz:off+size≤z.length) :
 Instr.fill place z.toArray ((i,v) :: rest)=Instr.fill place (spl z off (cellsL v)).toArray rest:=by
 have h1:v.cells.size=size:=by simpa [cellsL] using hv
 rw [Instr.fill,hp]
 simp only []
 rw [if_neg (by simp [h1];omega)]
 congr 1
 have:=foldl_set v.cells.toList z.toArray off 0 (by simp [h1];omega)
 rw [←Array.foldl_toList,Array.toList_zipIdx]
 simpa [cellsL] using this
theorem fill_nil (place:Nat→Option (Nat×Nat)) (z:List Value):Instr.fill place z.toArray []=some z.toArray:=rfl
theorem len_spl {z l:List Value} {off:Nat} (h:off+l.length≤z.length):(spl z off l).length=z.length:=by simp [spl];omega
theorem spl_two {z a b:List Value} (h:z.length=a.length+b.length):spl (spl z 0 a) a.length b=a++b:=by
 apply List.ext_getElem?
 intro k
 rw [spl_get (by rw [len_spl (by omega)];omega),spl_get (by omega),List.getElem?_append]
 by_cases h1:k<a.length
 ·rw [if_pos h1,if_pos h1,if_neg (by omega),if_pos (by omega),Nat.sub_zero]
 ·rw [if_neg h1,if_neg h1]
  by_cases h2:k<a.length+b.length
  ·rw [if_pos h2]
  ·rw [if_neg h2,if_neg (by omega),if_neg (by omega),List.getElem?_eq_none (by omega),List.getElem?_eq_none (by omega)]
theorem spl_three {z a b c:List Value} (h:z.length=a.length+b.length+c.length):spl (spl (spl z 0 a) a.length b) (a.length+b.length) c=a++b++c:=by
 have l1:(spl z 0 a).length=z.length:=len_spl (by omega)
 have l2:(spl (spl z 0 a) a.length b).length=z.length:=(len_spl (by omega)).trans l1
 apply List.ext_getElem?
 intro k
 rw [spl_get (by omega),spl_get (by omega),spl_get (by omega),List.getElem?_append,List.length_append,List.getElem?_append]
 by_cases h1:k<a.length
 ·rw [if_pos (by omega),if_pos h1,if_neg (by omega),if_pos (by omega),if_pos (by omega),if_pos h1,Nat.sub_zero]
 ·by_cases h2:k<a.length+b.length
  ·rw [if_pos h2,if_neg h1,if_pos h2,if_pos h2,if_neg h1]
  ·rw [if_neg h2,if_neg h2]
   by_cases h3:k<a.length+b.length+c.length
   ·rw [if_pos h3,if_neg h2]
   ·rw [if_neg h3,if_neg h1,if_neg h2,if_neg (by omega),if_neg (by omega),List.getElem?_eq_none (by omega),List.getElem?_eq_none (by omega)]
def buildT (P:Program) (t:TypeId) (z:List Value) (pl:List (Nat×Nat)):Prop:=
 (P.info? t).map (fun i=>i.zero.map fun v=>v.cells.toList)=some (some z)∧
 (P.underlying t).bind (fun d=>match d with | .struct fs=>fs.toList.mapM (fun f=>(P.info? f.type).map fun i=>(f.offset,i.size)) | _=>none)=some pl
theorem built_of {P:Program} {t:TypeId} {z:List Value} {pl:List (Nat×Nat)} (h:buildT P t z pl) (parts:List (Nat×Value)):P.built t parts=Instr.fill (pl.toArray[·]?) z.toArray parts:=by
 obtain⟨h1,h2⟩:=h
 unfold Program.built
 cases hi:P.info? t with
 | none=>simp [hi] at h1
 | some i=>
   cases hz:i.zero with
   | none=>simp [hi,hz] at h1
   | some v=>
     simp [hi,hz] at h1
     cases hu:P.underlying t with
     | none=>simp [hu] at h2
     | some d=>
       cases d <;> simp [hu] at h2
       simp only [h2,hz]
       congr 1
       rw [←h1]
theorem exec_build {P:Program} {t:TypeId} {cells:List Value} (ρ:Operand→Value) (d:Option Tmp) (parts:Array (Nat×Operand)) (ty:TypeId) (s:String) (af:Array Edge) (g:Option (Nat×Bool)) (w:World)
 (h:P.built t (parts.map fun (i,x)=>(i,ρ x)).toList=some cells.toArray) :
 (execOp ρ { dst:=d,op:=.build t parts,type:=ty,pos:=s,after:=af,guard:=g }).run P w=.ok (.value (.agg cells.toArray)) w:=by
 simp [execOp,run_build w t _ _ h]
theorem exec_build0 {P:Program} {t:TypeId} {z:List Value} {pl:List (Nat×Nat)} (hb:buildT P t z pl) (ρ:Operand→Value) (d:Option Tmp) (ty:TypeId) (s:String) (af:Array Edge) (g:Option (Nat×Bool)) (w:World) :
 (execOp ρ { dst:=d,op:=.build t #[],type:=ty,pos:=s,after:=af,guard:=g }).run P w=.ok (.value (.agg z.toArray)) w:=
 exec_build ρ d _ ty s af g w (by rw [built_of hb];simp [fill_nil])
theorem exec_build1 {P:Program} {t:TypeId} {z:List Value} {pl:List (Nat×Nat)} (hb:buildT P t z pl) {i off sz:Nat} (hp:pl[i]? =some (off,sz)) (hz:off+sz≤z.length) (ρ:Operand→Value) (d:Option Tmp) (x:Operand) (ty:TypeId) (s:String) (af:Array Edge) (g:Option (Nat×Bool)) (w:World) (h:lenC (ρ x) sz=true) :
 (execOp ρ { dst:=d,op:=.build t #[(i,x)],type:=ty,pos:=s,after:=af,guard:=g }).run P w=.ok (.value (.agg (spl z off (cellsL (ρ x))).toArray)) w:=
 exec_build ρ d _ ty s af g w (by
  rw [built_of hb]
  simp only [List.map_toArray,List.map_cons,List.map_nil]
  rw [fill_one _ z i off sz _ _ (by simpa using hp) (by simpa [lenC] using h) hz,fill_nil])
theorem exec_build2 {P:Program} {t:TypeId} {z:List Value} {pl:List (Nat×Nat)} {s0 s1:Nat} (hb:buildT P t z pl) (h0:pl[0]? =some (0,s0)) (h1:pl[1]? =some (s0,s1)) (hz:s0+s1=z.length) (ρ:Operand→Value) (d:Option Tmp) (x y:Operand) (ty:TypeId) (s:String) (af:Array Edge) (g:Option (Nat×Bool)) (w:World)
 (hx:lenC (ρ x) s0=true) (hy:lenC (ρ y) s1=true) :
 (execOp ρ { dst:=d,op:=.build t #[(0,x),(1,y)],type:=ty,pos:=s,after:=af,guard:=g }).run P w=.ok (.value (.agg (cellsL (ρ x)++cellsL (ρ y)).toArray)) w:=
 exec_build ρ d _ ty s af g w (by
  rw [built_of hb]
  have hx':(cellsL (ρ x)).length=s0:=by simpa [lenC] using hx
  have hy':(cellsL (ρ y)).length=s1:=by simpa [lenC] using hy
  simp only [List.map_toArray,List.map_cons,List.map_nil]
  rw [fill_one _ z 0 0 s0 _ _ (by simpa using h0) hx' (by omega),fill_one _ _ 1 s0 s1 _ _ (by simpa using h1) hy' (by rw [len_spl (by omega)];omega),fill_nil]
  have:=spl_two (z:=z) (a:=cellsL (ρ x)) (b:=cellsL (ρ y)) (by omega)
  rw [hx'] at this
  rw [this])
theorem exec_build2of {P:Program} {t:TypeId} {z z2:List Value} {pl:List (Nat×Nat)} {s0 s1:Nat} (hb:buildT P t z pl) (h0:pl[0]? =some (0,s0)) (h1:pl[1]? =some (s0,s1)) (hz:s0+s1+z2.length=z.length) (hz2:z.drop (s0+s1)=z2) (ρ:Operand→Value) (d:Option Tmp) (x y:Operand) (ty:TypeId) (s:String) (af:Array Edge) (g:Option (Nat×Bool)) (w:World)
 (hx:lenC (ρ x) s0=true) (hy:lenC (ρ y) s1=true) :
 (execOp ρ { dst:=d,op:=.build t #[(0,x),(1,y)],type:=ty,pos:=s,after:=af,guard:=g }).run P w=.ok (.value (.agg (cellsL (ρ x)++(cellsL (ρ y)++z2)).toArray)) w:=
 exec_build ρ d _ ty s af g w (by
  rw [built_of hb]
  have hx':(cellsL (ρ x)).length=s0:=by simpa [lenC] using hx
  have hy':(cellsL (ρ y)).length=s1:=by simpa [lenC] using hy
  simp only [List.map_toArray,List.map_cons,List.map_nil]
  rw [fill_one _ z 0 0 s0 _ _ (by simpa using h0) hx' (by omega),fill_one _ _ 1 s0 s1 _ _ (by simpa using h1) hy' (by rw [len_spl (by omega)];omega),fill_nil]
  have h1:spl (spl z 0 (cellsL (ρ x))) s0 (cellsL (ρ y))=cellsL (ρ x)++cellsL (ρ y)++z.drop (s0+s1):=by rw [←hx',←hy'];simp [spl]
  rw [h1,hz2,List.append_assoc])
theorem exec_build3 {P:Program} {t:TypeId} {z:List Value} {pl:List (Nat×Nat)} {s0 s1 s2:Nat} (hb:buildT P t z pl) (h0:pl[0]? =some (0,s0)) (h1:pl[1]? =some (s0,s1)) (h2:pl[2]? =some (s0+s1,s2)) (hz:s0+s1+s2=z.length) (ρ:Operand→Value) (d:Option Tmp) (x y u:Operand) (ty:TypeId) (s:String) (af:Array Edge) (g:Option (Nat×Bool)) (w:World)
 (hx:lenC (ρ x) s0=true) (hy:lenC (ρ y) s1=true) (hu:lenC (ρ u) s2=true) :
 (execOp ρ { dst:=d,op:=.build t #[(0,x),(1,y),(2,u)],type:=ty,pos:=s,after:=af,guard:=g }).run P w=.ok (.value (.agg (cellsL (ρ x)++(cellsL (ρ y)++cellsL (ρ u))).toArray)) w:=
 exec_build ρ d _ ty s af g w (by
  rw [built_of hb]
  have hx':(cellsL (ρ x)).length=s0:=by simpa [lenC] using hx
  have hy':(cellsL (ρ y)).length=s1:=by simpa [lenC] using hy
  have hu':(cellsL (ρ u)).length=s2:=by simpa [lenC] using hu
  simp only [List.map_toArray,List.map_cons,List.map_nil]
  rw [fill_one _ z 0 0 s0 _ _ (by simpa using h0) hx' (by omega),fill_one _ _ 1 s0 s1 _ _ (by simpa using h1) hy' (by rw [len_spl (by omega)];omega),
   fill_one _ _ 2 (s0+s1) s2 _ _ (by simpa using h2) hu' (by rw [len_spl (by rw [len_spl (by omega)];omega),len_spl (by omega)];omega),fill_nil]
  have:=spl_three (z:=z) (a:=cellsL (ρ x)) (b:=cellsL (ρ y)) (c:=cellsL (ρ u)) (by omega)
  rw [hx',hy',List.append_assoc] at this
  rw [this])
def iparts (ρ:Operand→Value):Nat→List Operand→List (Nat×Value)
 | _,[] =>[]
 | i,x :: xs=>(i,ρ x) :: iparts ρ (i+1) xs
theorem fill_all (n:Nat) (ρ:Operand→Value):∀(xs:List Operand) (i:Nat) (z:List Value),(∀x ∈ xs,lenC (ρ x) n=true)→(i+xs.length)*n≤z.length→
 Instr.fill (fun i=>some (i*n,n)) z.toArray (iparts ρ i xs)=some (spl z (i*n) (xs.flatMap fun x=>cellsL (ρ x))).toArray
 | [],i,z,_,_=>by simp [iparts,spl,fill_nil]
 | x :: xs,i,z,h,hz=>by
   have hx:(cellsL (ρ x)).length=n:=by simpa [lenC] using h x (by simp)
   have hrest:(xs.flatMap fun x=>cellsL (ρ x)).length=xs.length*n:=by
    have h':∀y ∈ xs,lenC (ρ y) n=true:=fun y hy=>h y (by simp [hy])
    clear h hz hx
    induction xs with
    | nil=>simp
    | cons y ys ih=>
      have hy:(cellsL (ρ y)).length=n:=by simpa [lenC] using h' y (by simp)
      rw [List.flatMap_cons,List.length_append,hy,ih (fun v hv=>h' v (by simp [hv])),List.length_cons,Nat.succ_mul,Nat.add_comm]
   simp only [List.length_cons] at hz
   have e1:(i+(xs.length+1))*n=i*n+n+xs.length*n:=by rw [Nat.add_mul,Nat.succ_mul];omega
   have e2:(i+1)*n=i*n+n:=Nat.succ_mul _ _
   have e3:(i+1+xs.length)*n=i*n+n+xs.length*n:=by rw [Nat.add_mul,e2]
   rw [iparts,fill_one _ z i (i*n) n _ _ rfl hx (by omega),fill_all n ρ xs (i+1) _ (fun y hy=>h y (by simp [hy])) (by rw [len_spl (by omega)];omega)]
   congr 2
   apply List.ext_getElem?
   intro k
   have l1:(spl z (i*n) (cellsL (ρ x))).length=z.length:=len_spl (by omega)
   rw [spl_get (by rw [l1,hrest];omega),spl_get (by omega),spl_get (by rw [List.flatMap_cons,List.length_append,hrest];omega),List.flatMap_cons,List.length_append,hrest,hx,e2]
   by_cases h1:k<i*n
   ·rw [if_pos (by omega),if_pos h1,if_pos h1]
   ·by_cases h2:k<i*n+n
    ·rw [if_pos h2,if_neg h1,if_pos h2,if_neg h1,if_pos (by omega),List.getElem?_append_left (by omega)]
    ·rw [if_neg h2]
     by_cases h3:k<i*n+n+xs.length*n
     ·rw [if_pos h3,if_neg h1,if_pos (by omega),List.getElem?_append_right (by omega),hx]
      congr 1;omega
     ·rw [if_neg h3,if_neg h1,if_neg (by omega),if_neg h1,if_neg (by omega)]
theorem exec_bslice {P:Program} {t e:TypeId} {n:Nat} (ht:P.underlying t=some (.slice e)) (he:(P.info? e).map (fun i=>(i.size,i.zero.map fun v=>v.cells.size))=some (n,some n)) (ρ:Operand→Value) (d:Option Tmp) (k:Nat) (xs:List Operand) (parts:Array (Nat×Operand)) (ty:TypeId) (s:String) (af:Array Edge) (g:Option (Nat×Bool)) (w:World)
 (hp:(parts.map fun (i,x)=>(i,ρ x)).toList=iparts ρ 0 xs) (hk:xs.length=k) (hn0:0<k*n) (hn:k*n≤16777216) (hx:∀x ∈ xs,lenC (ρ x) n=true) :
 (execOp ρ { dst:=d,op:=.buildSlice t k parts,type:=ty,pos:=s,after:=af,guard:=g }).run P w =
   .ok (.value (.slice (some ⟨w.heap.size,0,none⟩) k k)) (w.alloc (.cells (xs.flatMap fun x=>cellsL (ρ x)).toArray e)):=by
 cases hi:P.info? e with
 | none=>simp [hi] at he
 | some i=>
   cases hz:i.zero with
   | none=>simp [hi,hz] at he
   | some v=>
     simp [hi,hz] at he
     obtain⟨h1,h2⟩:=he
     have hlen:(xs.flatMap fun x=>cellsL (ρ x)).length=k*n:=by
      rw [←hk]
      clear hp hk hn hn0
      induction xs with
      | nil=>simp
      | cons y ys ih=>
        have hy:(cellsL (ρ y)).length=n:=by simpa [lenC] using hx y (by simp)
        rw [List.flatMap_cons,List.length_append,hy,ih (fun v hv=>hx v (by simp [hv])),List.length_cons,Nat.succ_mul,Nat.add_comm]
     have key:∀z:List Value,z.length=k*n→Instr.fill (fun i=>some (i*n,n)) z.toArray (parts.map fun (i,x)=>(i,ρ x)).toList=some (xs.flatMap fun x=>cellsL (ρ x)).toArray:=by
      intro z hzl
      rw [hp,fill_all n ρ xs 0 z hx (by rw [Nat.zero_add,hk];omega)]
      congr 2
      apply List.ext_getElem?
      intro j
      rw [spl_get (by omega)]
      simp only [Nat.zero_mul,Nat.not_lt_zero,if_false,Nat.zero_add,Nat.sub_zero]
      by_cases h:j<(xs.flatMap fun x=>cellsL (ρ x)).length
      ·rw [if_pos h]
      ·rw [if_neg h,List.getElem?_eq_none (by omega),List.getElem?_eq_none (by omega)]
     have hpl:(parts.map fun (i,x)=>(i,ρ x)).toList=parts.toList.map fun (i,x)=>(i,ρ x):=by simp
     rw [hpl] at key
     have h0:¬k*n=0:=by omega
     have h0':¬k*n > 16777216:=by omega
     have hk2:=fun c:Array Value=>key ((List.range (k*n)).map fun x=>c[x % c.size]!) (by simp)
     have hk3:∀c:Array Value,Instr.fill (fun i=>some (i*n,n)) ((Array.range (k*n)).map fun x=>c[x % c.size]!) (parts.toList.map fun (i,x)=>(i,ρ x))=some (xs.flatMap fun x=>cellsL (ρ x)).toArray:=fun c=>by
      rw [←hk2 c];congr 1;apply Array.ext';simp
     simp [execOp,Instr.buildSlice,run_underlying ht,sizeOf,typeInfo,hi,h1,h0,h0',zeroValue,hz,newRow,newObj,Sem.run,hk3]
def cellR:List Value:=saidZ++(saidZ++viewZ)
theorem bt_held:buildT Tryz.prog 204 heldZ [(0,1),(1,55)]:=by unfold buildT;exact⟨by kernel_rfl,by kernel_rfl⟩
theorem bt_row:buildT Tryz.prog 134 rowZ [(0,1),(1,55),(56,1)]:=by unfold buildT;exact⟨by kernel_rfl,by kernel_rfl⟩
section
variable (ρ:Operand→Value) (d:Option Tmp) (x y u:Operand) (ty:TypeId) (s:String) (af:Array Edge) (g:Option (Nat×Bool)) (w:World)
@[go_sem ↓] theorem bd_held0:(execOp ρ { dst:=d,op:=.build 204 #[],type:=ty,pos:=s,after:=af,guard:=g }).run Tryz.prog w=.ok (.value (.agg heldZ.toArray)) w:=exec_build0 bt_held ρ d ty s af g w
@[go_sem ↓] theorem bd_row0:(execOp ρ { dst:=d,op:=.build 134 #[],type:=ty,pos:=s,after:=af,guard:=g }).run Tryz.prog w=.ok (.value (.agg rowZ.toArray)) w:=exec_build0 bt_row ρ d ty s af g w
@[go_sem ↓] theorem bd_held (h1:lenC (ρ x) 1=true) (h2:lenC (ρ y) 55=true):(execOp ρ { dst:=d,op:=.build 204 #[(0,x),(1,y)],type:=ty,pos:=s,after:=af,guard:=g }).run Tryz.prog w=.ok (.value (.agg (cellsL (ρ x)++cellsL (ρ y)).toArray)) w:=
 exec_build2 bt_held rfl rfl (by rw [len_heldZ]) ρ d x y ty s af g w h1 h2
@[go_sem ↓] theorem bd_row3 (h1:lenC (ρ x) 1=true) (h2:lenC (ρ y) 55=true) (h3:lenC (ρ u) 1=true):(execOp ρ { dst:=d,op:=.build 134 #[(0,x),(1,y),(2,u)],type:=ty,pos:=s,after:=af,guard:=g }).run Tryz.prog w=.ok (.value (.agg (cellsL (ρ x)++(cellsL (ρ y)++cellsL (ρ u))).toArray)) w:=
 exec_build3 bt_row rfl rfl rfl (by rw [len_rowZ]) ρ d x y u ty s af g w h1 h2 h3
end
def AppOk (P:Program) (t e:TypeId) (size:Nat):Prop:=
 P.underlying t=some (.slice e)∧∃i z,P.info? e=some i∧i.zero=some z∧i.size=size∧i.bytes≤1024∧z.cells.size=size∧0<size
theorem appOk_of {P:Program} {t e:TypeId} {size:Nat} (h1:P.underlying t=some (.slice e)) (h2:(match P.info? e with | some i=>(match i.zero with | some z=>i.size==size&&decide (i.bytes≤1024)&&z.cells.size==size&&decide (0<size) | none=>false) | none=>false)=true):AppOk P t e size:=by
 refine⟨h1,?_⟩
 cases hi:P.info? e with
 | none=>simp [hi] at h2
 | some i=>
   cases hz:i.zero with
   | none=>simp [hi,hz] at h2
   | some z=>
     simp [hi,hz] at h2
     exact⟨i,z,rfl,hz,h2.1.1.1,h2.1.1.2,h2.1.2,h2.2⟩
theorem wpList_app {P:Program} {t e:TypeId} {size:Nat} (hA:AppOk P t e size) {w:World} {ops:Array Oper} {rest:List Oper} {o:Oper} {a:Act} {Q:Exit→Act→World→Prop} (hgd:o.guard=none) (s x:Operand)
 (ho:o.op=.call { callee:=.builtin .append,args:=#[s,x],argTypes:=#[t,t] })
 (base:Nat) (v:Value) (n:Nat) (xs:List Value) (hs:a.eval s=v) (hown:w.ownsRow base e size v n xs)
 (ad:Addr) (m c:Nat) (news:List Value) (hx:a.eval x=.slice (some ad) m c) (hl:news.length=m*size) (hr:hasRow w ad (m*size)=true) (hre:rowOf w ad (m*size)=news) (h1:news.all cell1=true)
 (hn:n+m≤1000000000) (hbase:base≤w.heap.size)
 (h:∀v' w',w'.ownsRow base e size v' (n+m) (xs++news)→w.grownBy w' v.ownBlock→wpList P ops Q rest (a.put o.dst v') w'):wpList P ops Q (o :: rest) a w:=by
 obtain⟨ht,i,z,hi,hz,hsize,hby,hzs,hsz⟩:=hA
 refine wpList_append_own w hgd s x t ho base e i z size i.bytes ht hi hz hsize rfl hzs hsz v n xs hs hown ad m c news hx hl (fun j u hu=> ?_) (fun u hu=>cell1_one (List.all_eq_true.1 h1 u hu)) (by simp only [maxLen];omega) ?_ hbase (fun v' w' h2 h3 _=>h v' w' h2 h3)
 ·have hj:j<m*size:=by rw [←hl];exact (List.getElem?_eq_some_iff.1 hu).1
  rw [rowOf_at hr j hj,hre,hu]
 ·exact Nat.le_trans (Nat.mul_le_mul hn hby) (by omega)
theorem step_app {P:Program} {t e:TypeId} {size:Nat} (hA:AppOk P t e size) {w:World} {ops:Array Oper} {o:Oper} {a:Act} {K:Act→World→Prop} {Q:Exit→Act→World→Prop} {E:Prop} (hgd:o.guard=none) (s x:Operand)
 (ho:o.op=.call { callee:=.builtin .append,args:=#[s,x],argTypes:=#[t,t] })
 (base:Nat) (v:Value) (n:Nat) (xs:List Value) (hs:a.eval s=v) (hown:w.ownsRow base e size v n xs)
 (ad:Addr) (m c:Nat) (news:List Value) (hx:a.eval x=.slice (some ad) m c) (hl:news.length=m*size) (hr:hasRow w ad (m*size)=true) (hre:rowOf w ad (m*size)=news) (h1:news.all cell1=true)
 (hm:0<m) (hn:n+m≤1000000000) (hbase:base≤w.heap.size)
 (h:∀g cap w',w'.ownsRow base e size (.slice (some ⟨g,0,none⟩) (n+m) cap) (n+m) (xs++news)→w.grownBy w' v.ownBlock→K (a.put o.dst (.slice (some ⟨g,0,none⟩) (n+m) cap)) w') :
 if Region.wanted o (yielded ops a.tmps)=true then Oper.wp P o a w K Q else E:=by
 obtain⟨ht,i,z,hi,hz,hsize,hby,hzs,hsz⟩:=hA
 refine step_append_lies w hgd s x t ho base e i z size i.bytes ht hi hz hsize rfl hzs hsz v n xs hs hown ad m c news hx hl (fun j u hu=> ?_) (fun u hu=>cell1_one (List.all_eq_true.1 h1 u hu)) hm (by simp only [maxLen];omega) ?_ hbase w.heap.size rfl (fun g cap w' h2 h3 _ _=>h g cap w' h2 h3)
 ·have hj:j<m*size:=by rw [←hl];exact (List.getElem?_eq_some_iff.1 hu).1
  rw [rowOf_at hr j hj,hre,hu]
 ·exact Nat.le_trans (Nat.mul_le_mul hn hby) (by omega)
theorem row_grown {w w':World} {row:Option Nat} (hg:w.grownBy w' row) {p:Addr} (hp:p.block<w.heap.size) (hn:some p.block≠row) (n:Nat):hasRow w' p n=hasRow w p n∧rowOf w' p n=rowOf w p n:=row_block (hg.block _ hp hn)
theorem own_ne {w:World} {base:Nat} {e:TypeId} {size:Nat} {v:Value} {n:Nat} {xs:List Value} (h:w.ownsRow base e size v n xs) {b:Nat} (hb:b<base):some b≠v.ownBlock:=fun he=>by have:=(h.lt b he.symm).1;omega
theorem RdHs.of_own {w:World} {base:Nat} {e:TypeId} {v:Value} {n:Nat} {l:List Hd} (h:w.ownsRow base e 56 v n (l.flatMap Hd.vals)) (hk:∀x ∈ l,x.ok) :
 ∃a cap,v=.slice a n cap∧RdHs (base≤·) w a n l∧n≤cap∧cap≤maxLen:=by
 have hlen:l.length=n:=by
  have h1:=h.1
  have h2:(l.flatMap Hd.vals).length=l.length*56:=by
   clear h h1
   induction l with
   | nil=>rfl
   | cons x l ih=>
     rw [List.flatMap_cons,List.length_append,Hd.vals_len (hk x (by simp)),ih (fun y hy=>hk y (by simp [hy]))]
     simp [Nat.succ_mul,Nat.add_comm]
  omega
 rcases h.2 with ⟨rfl,rfl⟩ | ⟨g,cap,cur,rfl,hb,hg,hnc,hcm,hcs,htake⟩
 ·have:l=[]:=List.eq_nil_of_length_eq_zero hlen
  subst this
  exact⟨none,0,rfl,⟨rfl,by simp,by simp⟩,Nat.le_refl _,by simp⟩
 ·refine⟨_,cap,rfl,⟨hlen,hk,fun k x hx=> ?_⟩,hnc,hcm⟩
  have hglt:g<w.heap.size:=by
   rcases Nat.lt_or_ge g w.heap.size with h' | h'
   ·exact h'
   ·rw [Array.getElem?_eq_none h'] at hg;cases hg
  refine⟨g,0,rfl,hb,hglt,?_⟩
  have hkl:k<l.length:=(List.getElem?_eq_some_iff.1 hx).1
  have hxl:=Hd.vals_len (hk x (List.mem_of_getElem? hx))
  have key:∀j,j<56→w.cell? ⟨g,0+k*56+j,none⟩=x.vals[j]?:=by
   intro j hj
   have hin:k*56+j<n*56:=by
    have:(k+1)*56≤n*56:=Nat.mul_le_mul_right _ (by omega)
    omega
   rw [cell_of_row w g _ cur e (0,0) hg,show 0+k*56+j=k*56+j from by omega]
   have e1:cur[k*56+j]? =(cur.toList.take (n*56))[k*56+j]?:=by rw [List.getElem?_take,if_pos hin];simp
   rw [e1,htake]
   clear e1 htake h hg hcs
   clear hlen hin hnc
   induction l generalizing k with
   | nil=>simp at hkl
   | cons y l ih=>
     have hy:=Hd.vals_len (hk y (by simp))
     rw [List.flatMap_cons]
     cases k with
     | zero=>
       simp at hx
       subst hx
       rw [List.getElem?_append_left (by omega)]
       congr 1;omega
     | succ k=>
       rw [List.getElem?_append_right (by omega),hy,show (k+1)*56+j - 56=k*56+j from by omega]
       exact ih (fun z hz=>hk z (by simp [hz])) k (by simpa using hx) (by simpa using hkl)
  have h2:=row_of_cells (w:=w) (p:=⟨g,0+k*56,none⟩) (l:=x.vals) (fun j v hv=>by
   rw [add_at,key j (by rw [←hxl];exact (List.getElem?_eq_some_iff.1 hv).1),hv])
  rwa [hxl] at h2
def lenV:Value→Nat
 | .int _ n=>n.toNat
 | _=>0
@[go_sem] theorem lenV_nat (k:IntKind) (n:Nat):lenV (.int k (n:Int))=n:=by simp [lenV]
def madeOk:Value→Value→Bool
 | .int .i64 n,.int .i64 m=>decide (n=m)&&decide (0≤n)&&decide (n≤1048576)
 | _,_=>false
@[go_sem] theorem madeOk_nat (n:Nat):madeOk (.int .i64 (n:Int)) (.int .i64 (n:Int))=decide (n≤1048576):=by
 simp [madeOk];omega
def zrep (z:List Value) (n:Nat):List Value:=(List.replicate n z).flatten
theorem len_zrep (z:List Value) (n:Nat):(zrep z n).length=n*z.length:=by simp [zrep]
theorem zrep_at {z:List Value} (hz:0<z.length):∀(n j:Nat),j<n*z.length→(zrep z n)[j]? =z[j % z.length]?
 | 0,j,h=>by simp at h
 | n+1,j,h=>by
   rw [zrep,List.replicate_succ,List.flatten_cons]
   by_cases hj:j<z.length
   ·rw [List.getElem?_append_left hj,Nat.mod_eq_of_lt hj]
   ·rw [List.getElem?_append_right (by omega)]
    have hs:(n+1)*z.length=n*z.length+z.length:=Nat.succ_mul _ _
    have h1:=zrep_at hz n (j - z.length) (by omega)
    rw [zrep] at h1
    rw [h1]
    rw [←Nat.mod_eq_sub_mod (by omega)]
def MakeOk (P:Program) (t e:TypeId) (z:List Value):Prop:=
 P.underlying t=some (.slice e)∧(P.info? e).map (fun i=>(i.size,decide (i.bytes≤65536),i.zero.map fun v=>v.cells.toList))=some (z.length,true,some z)∧0<z.length
theorem exec_make {P:Program} {t e:TypeId} {z:List Value} (hM:MakeOk P t e z) (ρ:Operand→Value) (d:Option Tmp) (x y:Operand) (ty:TypeId) (s:String) (af:Array Edge) (g:Option (Nat×Bool)) (w:World)
 (h:madeOk (ρ x) (ρ y)=true):(execOp ρ { dst:=d,op:=.makeSlice t x y,type:=ty,pos:=s,after:=af,guard:=g }).run P w =
   .ok (.value (.slice (some ⟨w.heap.size,0,none⟩) (lenV (ρ x)) (lenV (ρ x)))) (w.alloc (.cells (zrep z (lenV (ρ x))).toArray e)):=by
 obtain⟨ht,hi,hz⟩:=hM
 generalize hx:ρ x=vx at h ⊢
 generalize hy:ρ y=vy at h
 unfold madeOk at h
 split at h
 ·rename_i n m
  simp only [Bool.and_eq_true,decide_eq_true_eq] at h
  obtain⟨⟨rfl,h0⟩,h1⟩:=h
  cases hie:P.info? e with
  | none=>simp [hie] at hi
  | some i=>
    simp only [hie,Option.map_some,Option.some.injEq,Prod.mk.injEq,decide_eq_true_eq] at hi
    obtain⟨hs,hb,hzz⟩:=hi
    cases hzv:i.zero with
    | none=>simp [hzv] at hzz
    | some v=>
      simp [hzv] at hzz
      obtain⟨N,rfl⟩:∃N:Nat,n=N:=⟨n.toNat,by omega⟩
      have hbn:i.bytes*N≤65536*1048576:=Nat.mul_le_mul hb (by omega)
      have hbz:(i.bytes:Int)*(N:Int)≤281474976710656:=by
       have:((i.bytes*N:Nat):Int)≤65536*1048576:=by omega
       rw [Int.natCast_mul] at this
       omega
      have hvs:v.cells.size=z.length:=by rw [←hzz];simp
      have harr:madeCells v.cells ((N:Int).toNat*i.size)=(zrep z N).toArray:=by
       rw [Int.toNat_natCast,hs]
       apply Array.ext'
       apply List.ext_getElem?
       intro j
       by_cases hj:j<N*z.length
       ·have hm:j % z.length<v.cells.size:=by rw [hvs];exact Nat.mod_lt _ hz
        have e1:(zrep z N)[j]? =v.cells[j % z.length]?:=by rw [zrep_at hz N j hj,←hzz];simp
        rw [show (zrep z N).toArray.toList=zrep z N from rfl,e1]
        simp only [madeCells,Array.toList_map,List.getElem?_map,Array.toList_range,List.getElem?_range hj,Option.map_some,hvs]
        rw [getElem!_pos v.cells _ hm,Array.getElem?_eq_getElem hm]
       ·have e1:(zrep z N)[j]? =none:=List.getElem?_eq_none (by rw [len_zrep];omega)
        rw [show (zrep z N).toArray.toList=zrep z N from rfl,e1]
        simp [madeCells];omega
      have:=run_make (P:=P) w t e i v ht hie hzv .i64 .i64 N N (by omega) (by omega) hbz (by omega)
      rw [harr] at this
      simp [execOp,hx,hy,this,lenV]
 ·cases h
theorem mk_held:MakeOk Tryz.prog 132 204 heldZ:=⟨Tryz.underlying132,by kernel_rfl,by rw [len_heldZ];omega⟩
@[go_sem ↓] theorem ms_held (ρ:Operand→Value) (d:Option Tmp) (x y:Operand) (ty:TypeId) (s:String) (af:Array Edge) (g:Option (Nat×Bool)) (w:World) (h:madeOk (ρ x) (ρ y)=true) :
 (execOp ρ { dst:=d,op:=.makeSlice 132 x y,type:=ty,pos:=s,after:=af,guard:=g }).run Tryz.prog w =
   .ok (.value (.slice (some ⟨w.heap.size,0,none⟩) (lenV (ρ x)) (lenV (ρ x)))) (w.alloc (.cells (zrep heldZ (lenV (ρ x))).toArray 204)):=exec_make mk_held ρ d x y ty s af g w h
def flatH (l:List Hd):List Value:=l.flatMap Hd.vals
theorem flatH_rep (n:Nat):zrep heldZ n=flatH (List.replicate n hd0):=by
 induction n with
 | zero=>rfl
 | succ n ih=>rw [zrep,List.replicate_succ,List.flatten_cons,List.replicate_succ,flatH,List.flatMap_cons,hd0_vals,←zrep,ih,flatH]
theorem len_flatH {l:List Hd} (h:∀x ∈ l,x.ok):(flatH l).length=l.length*56:=by
 unfold flatH
 induction l with
 | nil=>rfl
 | cons x l ih=>
   rw [List.flatMap_cons,List.length_append,Hd.vals_len (h x (by simp)),ih (fun y hy=>h y (by simp [hy])),List.length_cons,Nat.succ_mul,Nat.add_comm]
theorem flatH_at {l:List Hd} (h:∀x ∈ l,x.ok) {k j:Nat} {x:Hd} (hk:l[k]? =some x) (hj:j<56):(flatH l)[k*56+j]? =x.vals[j]?:=by
 unfold flatH
 induction l generalizing k with
 | nil=>simp at hk
 | cons y l ih=>
   have hy:=Hd.vals_len (h y (by simp))
   rw [List.flatMap_cons]
   cases k with
   | zero=>
     simp at hk
     subst hk
     rw [List.getElem?_append_left (by omega)]
     congr 1;omega
   | succ k=>
     rw [List.getElem?_append_right (by omega),hy,show (k+1)*56+j - 56=k*56+j from by omega]
     exact ih (fun z hz=>h z (by simp [hz])) (by simpa using hk)
theorem flatH_set {l:List Hd} (h:∀x ∈ l,x.ok) {k:Nat} (hk:k<l.length) (x:Hd) (hx:x.ok):spl (flatH l) (k*56) x.vals=flatH (l.set k x):=by
 induction l generalizing k with
 | nil=>simp at hk
 | cons y l ih=>
   have hy:=Hd.vals_len (h y (by simp))
   have hxl:=Hd.vals_len hx
   cases k with
   | zero=>
     simp only [Nat.zero_mul,List.set_cons_zero,flatH,List.flatMap_cons,spl,List.take_zero,List.nil_append,Nat.zero_add,hxl]
     rw [←hy,List.drop_left]
   | succ k=>
     have:=ih (fun z hz=>h z (by simp [hz])) (k:=k) (by simpa using hk)
     simp only [List.set_cons_succ,flatH,List.flatMap_cons] at this ⊢
     rw [←this]
     unfold spl
     rw [show (k+1)*56=y.vals.length+k*56 from by omega,List.take_append,List.drop_append]
     simp [Nat.add_sub_cancel_left,List.take_of_length_le (show y.vals.length≤y.vals.length+k*56 by omega),Nat.add_assoc]
theorem RdHs.of_blk {w:World} {g:Nat} {t:TypeId} {l:List Hd} {r:List Value} (hb:Blk w g t (flatH l++r).toArray) (h:∀x ∈ l,x.ok):RdHs (· =g) w (some ⟨g,0,none⟩) l.length l:=by
 refine⟨rfl,h,fun k x hx=>⟨g,0,rfl,rfl,hb.lt,?_⟩⟩
 have hk:k<l.length:=(List.getElem?_eq_some_iff.1 hx).1
 have hxl:=Hd.vals_len (h x (List.mem_of_getElem? hx))
 have h2:=row_of_cells (w:=w) (p:=⟨g,0+k*56,none⟩) (l:=x.vals) (fun j v hv=>by
  have hj:j<56:=by rw [←hxl];exact (List.getElem?_eq_some_iff.1 hv).1
  rw [add_at,hb.cell]
  have hlt:0+k*56+j<(flatH l).length:=by
   rw [len_flatH h]
   have:(k+1)*56≤l.length*56:=Nat.mul_le_mul_right _ (by omega)
   omega
  simp only [List.getElem?_toArray]
  rw [List.getElem?_append_left hlt,show 0+k*56+j=k*56+j from by omega,flatH_at h hx hj,hv])
 rwa [hxl] at h2
structure Sd where
 is:Bool
 tick:Int
 kind:Int
 st:Int
 seq:Int
 val:Int
def Sd.vals (s:Sd):List Value:=[.bool s.is,.int .i64 s.tick,.int .u8 s.kind,.int .u8 s.st,.int .u32 s.seq,.int .u32 s.val]
def sd0:Sd:=⟨false,0,0,0,0,0⟩
def Sd.good (s:Sd):Bool:=s.is&&decide (0≤s.tick)&&decide (s.tick≤1099511627776)&&(decide (s.kind=1)||decide (s.kind=2))
def Sd.norm (s:Sd):Sd:=if s.good then s else sd0
structure Cl where
 age:Int
 o:Sd
 r:Sd
 v:List Value
 cmd:Int
 mode:Int
def Cl.vals (c:Cl):List Value:=.int .i64 c.age :: (c.o.vals++(c.r.vals++(c.v++ [.int .i8 c.cmd,.int .u8 c.mode])))
def Cl.norm (c:Cl):Cl:=
 { age:=if c.age<0∨1099511627776<c.age then -1 else c.age,o:=c.o.norm,r:=c.r.norm,v:=c.v,
   cmd:=if c.cmd<0∨8≤c.cmd then -1 else c.cmd,mode:=if 7<c.mode then 0 else c.mode }
theorem Sd.len (s:Sd):s.vals.length=6:=rfl
def view40K:List Kd:=[.b,.b,.b,.b,.b,.b,.b,.b] ++(List.replicate 8 (.i .u8)++(List.replicate 8 (.i .u8)++(List.replicate 8 (.i .u16)++ [.b,.b,.b,.b,.b,.b,.b,.b])))
theorem cellK_split:cellK=.i .i64 :: (saidK++(saidK++(view40K++ [.i .i8,.i .u8]))):=rfl
theorem len_view40K:view40K.length=40:=rfl
def Sd.ok (s:Sd):Prop:=okL saidK s.vals=true
def Cl.ok (c:Cl):Prop:=okL cellK c.vals=true
theorem said_of {l:List Value} (h:okL saidK l=true):∃s:Sd,s.vals=l:=by
 match l,okL_len h with
 | [a,b,c,d,e,f],_=>
   simp only [saidK,okL,Bool.and_eq_true,and_true] at h
   obtain⟨h1,h2,h3,h4,h5,h6⟩:=h
   cases a <;> simp [okK] at h1
   cases b <;> simp [okK] at h2
   cases c <;> simp [okK] at h3
   cases d <;> simp [okK] at h4
   cases e <;> simp [okK] at h5
   cases f <;> simp [okK] at h6
   obtain⟨rfl,_⟩:=h2
   obtain⟨rfl,_⟩:=h3
   obtain⟨rfl,_⟩:=h4
   obtain⟨rfl,_⟩:=h5
   obtain⟨rfl,_⟩:=h6
   exact⟨⟨_,_,_,_,_,_⟩,rfl⟩
theorem okK_int {k:IntKind} {v:Value} (h:okK (.i k) v=true):∃n,v=.int k n:=by
 cases v <;> simp [okK] at h
 obtain⟨rfl,_⟩:=h
 exact⟨_,rfl⟩
theorem cell_of {l:List Value} (h:okL cellK l=true):∃c:Cl,c.vals=l∧c.v.length=40:=by
 cases l with
 | nil=>simp [cellK,okL] at h
 | cons a l=>
   rw [cellK_split,okL,Bool.and_eq_true] at h
   obtain⟨h0,h⟩:=h
   obtain⟨age,rfl⟩:=okK_int h0
   obtain⟨h1,h⟩:=okL_split h
   obtain⟨h2,h⟩:=okL_split h
   obtain⟨h3,h⟩:=okL_split h
   obtain⟨o,ho⟩:=said_of h1
   obtain⟨r,hr⟩:=said_of h2
   have h3l:=okL_len h3
   have h4l:=okL_len h
   match hd:List.drop view40K.length (List.drop saidK.length (List.drop saidK.length l)),h,h4l with
   | [x,y],h,_=>
     simp only [okL,Bool.and_eq_true,and_true] at h
     obtain⟨h5,h6⟩:=h
     obtain⟨cmd,rfl⟩:=okK_int h5
     obtain⟨mode,rfl⟩:=okK_int h6
     refine⟨⟨age,o,r,(List.drop saidK.length (List.drop saidK.length l)).take view40K.length,cmd,mode⟩,?_,h3l.trans len_view40K⟩
     simp only [Cl.vals,ho,hr]
     rw [←hd,List.take_append_drop,List.take_append_drop,List.take_append_drop]
theorem Cl.len {c:Cl} (h:c.v.length=40):c.vals.length=55:=by simp [Cl.vals,h,Sd.len]
theorem Sd.vals_inj {s s':Sd}:s.vals=s'.vals↔s=s':=by
 cases s;cases s';simp [Sd.vals]
theorem Cl.vals_inj {c c':Cl} (h:c.v.length=40) (h':c'.v.length=40):c.vals=c'.vals↔c=c':=by
 constructor
 ·intro he
  obtain⟨a,o,r,v,m,n⟩:=c
  obtain⟨a',o',r',v',m',n'⟩:=c'
  simp only [Cl.vals,List.cons.injEq,Value.int.injEq,true_and] at he
  obtain⟨rfl,he⟩:=he
  obtain⟨h1,he⟩:=List.append_inj he rfl
  obtain⟨h2,he⟩:=List.append_inj he rfl
  obtain⟨h3,he⟩:=List.append_inj he (by simp at h h';omega)
  simp at he
  rw [Sd.vals_inj.1 h1,Sd.vals_inj.1 h2,h3,he.1,he.2]
 ·rintro rfl;rfl
theorem cell_ok_parts {c:Cl} (h:c.v.length=40):okL cellK c.vals=true↔(Lit.int .i64 c.age).wf=true∧okL saidK c.o.vals=true∧okL saidK c.r.vals=true∧okL view40K c.v=true∧(Lit.int .i8 c.cmd).wf=true∧(Lit.int .u8 c.mode).wf=true:=by
 constructor
 ·intro hk
  rw [cellK_split,Cl.vals,okL,Bool.and_eq_true] at hk
  obtain⟨h0,hk⟩:=hk
  obtain⟨h1,hk⟩:=okL_split hk
  obtain⟨h2,hk⟩:=okL_split hk
  obtain⟨h3,hk⟩:=okL_split hk
  have e1:saidK.length=c.o.vals.length:=rfl
  have e2:saidK.length=c.r.vals.length:=rfl
  have e3:view40K.length=c.v.length:=by rw [h];rfl
  have d1:∀Z:List Value,(c.o.vals++Z).drop saidK.length=Z:=fun Z=>by rw [e1,List.drop_left]
  have d2:∀Z:List Value,(c.r.vals++Z).drop saidK.length=Z:=fun Z=>by rw [e2,List.drop_left]
  have t1:∀Z:List Value,(c.o.vals++Z).take saidK.length=c.o.vals:=fun Z=>by rw [e1,List.take_left]
  have t2:∀Z:List Value,(c.r.vals++Z).take saidK.length=c.r.vals:=fun Z=>by rw [e2,List.take_left]
  rw [t1] at h1
  rw [d1,t2] at h2
  rw [d1,d2,e3,List.take_left] at h3
  rw [d1,d2,e3,List.drop_left] at hk
  simp [okL,okK] at hk h0
  exact⟨h0,h1,h2,h3,hk.1,hk.2⟩
 ·rintro⟨h0,h1,h2,h3,h4,h5⟩
  rw [cellK_split,Cl.vals,okL,Bool.and_eq_true]
  refine⟨by simp [okK,h0],okL_append h1 (okL_append h2 (okL_append h3 ?_))⟩
  simp [okL,okK,h4,h5]
theorem norm_ok {c:Cl} (h:c.v.length=40) (hk:okL cellK c.vals=true):okL cellK c.norm.vals=true:=by
 obtain⟨h0,h1,h2,h3,h4,h5⟩:=(cell_ok_parts h).1 hk
 have hz:okL saidK sd0.vals=true:=by decide
 have sd:∀s:Sd,okL saidK s.vals=true→okL saidK s.norm.vals=true:=fun s hs=>by unfold Sd.norm;split;exact hs;exact hz
 refine (cell_ok_parts (c:=c.norm) h).2 ⟨?_,sd _ h1,sd _ h2,h3,?_,?_⟩
 ·simp only [Cl.norm];split
  ·decide
  ·exact h0
 ·simp only [Cl.norm];split
  ·decide
  ·exact h4
 ·simp only [Cl.norm];split
  ·decide
  ·exact h5
def intA (c:List Value) (i:Nat):Int:=match c[i]? with | some (.int _ n)=>n | _=>0
def boolA (c:List Value) (i:Nat):Bool:=match c[i]? with | some (.bool b)=>b | _=>false
def sdAt (c:List Value) (i:Nat):Sd:=⟨boolA c i,intA c (i+1),intA c (i+2),intA c (i+3),intA c (i+4),intA c (i+5)⟩
def clOf (c:List Value):Cl:=⟨intA c 0,sdAt c 1,sdAt c 7,(c.drop 13).take 40,intA c 53,intA c 54⟩
def nrm (c:List Value):List Value:=(clOf c).norm.vals
theorem clOf_vals (c:Cl) (h:c.v.length=40):clOf c.vals=c:=by
 obtain⟨a,o,r,v,m,n⟩:=c
 have h:v.length=40:=h
 have e1:((Cl.vals ⟨a,o,r,v,m,n⟩).drop 13).take 40=v:=by
  simp [Cl.vals,Sd.vals,←h]
 have e2:(Cl.vals ⟨a,o,r,v,m,n⟩)[53]? =some (.int .i8 m):=by
  simp [Cl.vals,Sd.vals,List.getElem?_append,h]
 have e3:(Cl.vals ⟨a,o,r,v,m,n⟩)[54]? =some (.int .u8 n):=by
  simp [Cl.vals,Sd.vals,List.getElem?_append,h]
 unfold clOf
 rw [e1]
 simp only [intA,e2,e3]
 rfl
theorem nrm_vals (c:Cl) (h:c.v.length=40):nrm c.vals=c.norm.vals:=by rw [nrm,clOf_vals c h]
theorem nrm_ok {c:List Value} (h:okL cellK c=true):okL cellK (nrm c)=true:=by
 obtain⟨C,rfl,hC⟩:=cell_of h
 rw [nrm_vals C hC]
 exact norm_ok hC h
def Hd.nrm (h:Hd):Hd:=if h.is then ⟨true,YtdilbjikeilhbaaGreatDoor.nrm h.c⟩ else hd0
theorem Hd.nrm_ok {h:Hd} (hk:h.ok):h.nrm.ok:=by
 unfold Hd.nrm
 split
 ·exact YtdilbjikeilhbaaGreatDoor.nrm_ok hk
 ·exact hd0_ok
structure Rw where
 is:Bool
 c:List Value
 t:List Hd
def Rw.ok (r:Rw):Prop:=okL cellK r.c=true∧∀h ∈ r.t,h.ok
def Rw.vals (r:Rw) (tv:Value):List Value:=.bool r.is :: (r.c++ [tv])
def rw0:Rw:=⟨false,cellZ,[]⟩
theorem rw0_ok:rw0.ok:=⟨cellZ_ok,by simp [rw0]⟩
theorem rw0_vals:rw0.vals (.slice none 0 0)=rowZ:=rfl
theorem Rw.len {r:Rw} (h:r.ok) (tv:Value):(r.vals tv).length=57:=by
 have:=okL_len h.1
 rw [len_cellK] at this
 simp [Rw.vals,this]
def fillH (n:Nat) (l:List Hd):List Hd:=(l.take n).map Hd.nrm++List.replicate (n - l.length) hd0
theorem fillH_len (n:Nat) (l:List Hd):(fillH n l).length=n:=by simp [fillH];omega
theorem fillH_ok {n:Nat} {l:List Hd} (h:∀x ∈ l,x.ok):∀x ∈ fillH n l,x.ok:=fun x hx=>by
 rcases List.mem_append.1 hx with hx | hx
 ·obtain⟨y,hy,rfl⟩:=List.mem_map.1 hx
  exact Hd.nrm_ok (h y (List.mem_of_mem_take hy))
 ·rw [List.eq_of_mem_replicate hx];exact hd0_ok
theorem fillH_at (n:Nat) (l:List Hd) (k:Nat) (hk:k<n):(fillH n l)[k]? =some (match l[k]? with | some h=>h.nrm | none=>hd0):=by
 unfold fillH
 by_cases h:k<l.length
 ·rw [List.getElem?_append_left (by simp;omega),List.getElem?_map,List.getElem?_take,if_pos hk,List.getElem?_eq_getElem h];rfl
 ·rw [List.getElem?_append_right (by simp;omega),List.getElem?_replicate,if_pos (by simp;omega),List.getElem?_eq_none (by omega)]
def mayN (n:Int):Bool:=decide (0≤n)&&decide (n≤16)
def Rw.plain (n:Int) (r:Rw):Rw:=if r.is&&mayN n then ⟨true,nrm r.c,fillH n.toNat r.t⟩ else rw0
theorem Rw.plain_ok {n:Int} {r:Rw} (h:r.ok):(r.plain n).ok:=by
 unfold Rw.plain
 split
 ·exact⟨nrm_ok h.1,fillH_ok h.2⟩
 ·exact rw0_ok
def fillR (n:Nat) (l:List Rw):List Rw:=(l.take n).map (Rw.plain n)++List.replicate (n - l.length) rw0
theorem fillR_len (n:Nat) (l:List Rw):(fillR n l).length=n:=by simp [fillR];omega
theorem fillR_at (n:Nat) (l:List Rw) (k:Nat) (hk:k<n):(fillR n l)[k]? =some (match l[k]? with | some r=>r.plain n | none=>rw0):=by
 unfold fillR
 by_cases h:k<l.length
 ·rw [List.getElem?_append_left (by simp;omega),List.getElem?_map,List.getElem?_take,if_pos hk,List.getElem?_eq_getElem h];rfl
 ·rw [List.getElem?_append_right (by simp;omega),List.getElem?_replicate,if_pos (by simp;omega),List.getElem?_eq_none (by omega)]
def RdRs (S:Nat→Prop) (w:World) (a:Option Addr) (len:Nat) (l:List Rw):Prop:=
 l.length=len∧(∀r ∈ l,r.ok)∧∀k r,l[k]? =some r→∃b off x m cap,a=some ⟨b,off,none⟩∧S b∧b<w.heap.size∧hasRow w ⟨b,off+k*57,none⟩ 57=true∧rowOf w ⟨b,off+k*57,none⟩ 57=r.vals (.slice x m cap)∧
  RdHs S w x m r.t∧m≤cap∧cap≤maxLen
theorem RdRs.keep {S:Nat→Prop} {w w':World} {a:Option Addr} {len:Nat} {l:List Rw} (h:RdRs S w a len l) (hs:w.heap.size≤w'.heap.size) (hk:∀b,S b→b<w.heap.size→w'.heap[b]? =w.heap[b]?):RdRs S w' a len l:=
 ⟨h.1,h.2.1,fun k x hx=>by
   obtain⟨b,off,y,m,cap,e,hS,hb,h1,h2,h3,h4⟩:=h.2.2 k x hx
   have:=row_block (n:=57) (p:=⟨b,off+k*57,none⟩) (hk b hS hb)
   exact⟨b,off,y,m,cap,e,hS,by omega,this.1.trans h1,this.2.trans h2,h3.keep hs hk,h4⟩⟩
theorem RdRs.mono {S S':Nat→Prop} {w:World} {a:Option Addr} {len:Nat} {l:List Rw} (h:RdRs S w a len l) (hs:∀b,b<w.heap.size→S b→S' b):RdRs S' w a len l:=
 ⟨h.1,h.2.1,fun k x hx=>by
   obtain⟨b,off,y,m,cap,e,hS,hb,h1,h2,h3,h4⟩:=h.2.2 k x hx
   exact⟨b,off,y,m,cap,e,hs b hb hS,hb,h1,h2,h3.mono hs,h4⟩⟩
theorem RdRs.below {S:Nat→Prop} {w w':World} {B:Nat} {a:Option Addr} {len:Nat} {l:List Rw} (h:RdRs S w a len l) (hb:Below B w w') (hB:∀b,S b→b<w.heap.size→b<B):RdRs S w' a len l:=
 h.keep hb.size fun b hS hlt=>hb.block b (hB b hS hlt)
theorem RdRs.chg {S S':Nat→Prop} {w w':World} {a:Option Addr} {len:Nat} {l:List Rw} (h:RdRs S w a len l) (hc:Chg S' w w') (hd:∀b,b<w.heap.size→S b→¬S' b):RdRs S w' a len l:=
 h.keep hc.size fun b hS hlt=>hc.block b hlt (hd b hlt hS)
theorem RdRs.at_ {S:Nat→Prop} {w:World} {a:Option Addr} {len:Nat} {l:List Rw} (h:RdRs S w a len l) (k:Nat) (hk:k<len) :
 ∃b off x m cap r,a=some ⟨b,off,none⟩∧S b∧b<w.heap.size∧l[k]? =some r∧r.ok∧r.c.length=55∧r.c.all cell1=true∧
  hasRow w ⟨b,off+k*57,none⟩ 57=true∧rowOf w ⟨b,off+k*57,none⟩ 57=.bool r.is :: (r.c++ [.slice x m cap])∧
  w.cell? ⟨b,off+k*57,none⟩=some (.bool r.is)∧w.cell? ⟨b,off+k*57+56,none⟩=some (.slice x m cap)∧
  RdHs S w x m r.t∧m≤cap∧cap≤maxLen:=by
 obtain⟨h1,h2,h3⟩:=h
 have hv:l[k]? =some (l[k]'(by omega)):=List.getElem?_eq_getElem _
 obtain⟨b,off,x,m,cap,e,hS,hb,hr1,hr2,h4,h5,h6⟩:=h3 k _ hv
 have ho:=h2 _ (List.mem_of_getElem? hv)
 generalize l[k]'(by omega)=r at hv hr2 ho h4
 have hlen:r.c.length=55:=by rw [←len_cellK];exact okL_len ho.1
 refine⟨b,off,x,m,cap,r,e,hS,hb,hv,ho,hlen,okL_cell1 ho.1,hr1,hr2,?_,?_,h4,h5,h6⟩
 ·have:=row_cell hr1 hr2 0 (by omega)
  simpa [Rw.vals] using this
 ·have:=row_cell hr1 hr2 56 (by omega)
  simpa [Rw.vals,List.getElem?_append,hlen] using this
open Classical in
noncomputable def certF:List (Rw×Rw)→Rw→Rw
 | [],out=>out
 | (r,o) :: t,out=>if r.is=true∧r=o then (if out.is=true∧out≠r then rw0 else certF t r) else certF t out
def prsAt (l:List Rw) (i:Nat):List (Rw×Rw):=(l.take i).map fun o=>(l.getD i rw0,o)
def prs (l:List Rw):List (Rw×Rw):=(List.range l.length).flatMap (prsAt l)
noncomputable def certM (l:List Rw):Rw:=certF (prs l) rw0
def hits (p:List (Rw×Rw)) (r:Rw):Prop:=r.is=true∧(r,r) ∈ p
theorem certF_none {p:List (Rw×Rw)}:∀{out:Rw},(∀r,¬hits p r)→certF p out=out:=by
 induction p with
 | nil=>intro out _;rfl
 | cons x t ih=>
   obtain⟨r,o⟩:=x
   intro out h
   have h1:¬(r.is=true∧r=o):=by
    rintro⟨a,rfl⟩
    exact h r ⟨a,List.mem_cons_self⟩
   simp only [certF,if_neg h1]
   exact ih fun q hq=>h q ⟨hq.1,List.mem_cons_of_mem _ hq.2⟩
theorem certF_one {p:List (Rw×Rw)}:∀{out v:Rw},v.is=true→(∀r,hits p r→r=v)→(out=v∨out.is=false∧hits p v)→certF p out=v:=by
 induction p with
 | nil=>
   intro out v hv _ h
   rcases h with h | ⟨-,-,h⟩
   ·exact h
   ·cases h
 | cons x t ih=>
   obtain⟨r,o⟩:=x
   intro out v hv hall h
   by_cases h1:r.is=true∧r=o
   ·obtain⟨hr,rfl⟩:=h1
    have hrv:=hall r ⟨hr,List.mem_cons_self⟩
    subst hrv
    have h2:¬(out.is=true∧out≠r):=by
     rintro⟨a,b⟩
     rcases h with h | ⟨h,-⟩
     ·exact b h
     ·rw [h] at a;cases a
    simp only [certF,hr,and_self,if_true,if_neg h2]
    exact ih hv (fun q hq=>hall q ⟨hq.1,List.mem_cons_of_mem _ hq.2⟩) (.inl rfl)
   ·simp only [certF,if_neg h1]
    refine ih hv (fun q hq=>hall q ⟨hq.1,List.mem_cons_of_mem _ hq.2⟩) ?_
    rcases h with h | ⟨h,h3,h4⟩
    ·exact .inl h
    ·refine .inr ⟨h,h3,?_⟩
     rcases List.mem_cons.1 h4 with e | e
     ·cases e;exact absurd ⟨hv,rfl⟩ h1
     ·exact e
theorem certF_two {p:List (Rw×Rw)}:∀{out v v':Rw},v≠v'→(hits p v∨out=v∧v.is=true)→hits p v'→certF p out=rw0:=by
 induction p with
 | nil=>intro out v v' _ _ h;cases h.2
 | cons x t ih=>
   obtain⟨r,o⟩:=x
   intro out v v' hne hv hv'
   by_cases h1:r.is=true∧r=o
   ·obtain⟨hr,rfl⟩:=h1
    by_cases h2:out.is=true∧out≠r
    ·simp only [certF,hr,and_self,if_true,if_pos h2,true_and]
    ·simp only [certF,hr,and_self,if_true,if_neg h2]
     by_cases e:r=v'
     ·subst e
      have hm:hits t v:=by
       rcases hv with ⟨h3,h4⟩ | ⟨h3,h4⟩
       ·refine⟨h3,?_⟩
        rcases List.mem_cons.1 h4 with e | e
        ·cases e;exact absurd rfl hne
        ·exact e
       ·subst h3
        exact absurd ⟨h4,hne⟩ h2
      exact ih (v:=r) (v':=v) (Ne.symm hne) (.inr ⟨rfl,hr⟩) hm
     ·have hm:hits t v':=by
       refine⟨hv'.1,?_⟩
       rcases List.mem_cons.1 hv'.2 with q | q
       ·cases q;exact absurd rfl e
       ·exact q
      exact ih (v:=r) (v':=v') e (.inr ⟨rfl,hr⟩) hm
   ·simp only [certF,if_neg h1]
    have hk:∀q,hits ((r,o) :: t) q→hits t q:=fun q hq=>⟨hq.1,by
     rcases List.mem_cons.1 hq.2 with e | e
     ·cases e;exact absurd ⟨hq.1,rfl⟩ h1
     ·exact e⟩
    refine ih hne ?_ (hk _ hv')
    rcases hv with h | h
    ·exact .inl (hk _ h)
    ·exact .inr h
def Dup (l:List Rw) (v:Rw):Prop:=v.is=true∧∃j i:Nat,j<i∧l[j]? =some v∧l[i]? =some v
theorem hits_prs {l:List Rw} {v:Rw}:hits (prs l) v↔Dup l v:=by
 unfold hits Dup prs prsAt
 constructor
 ·rintro⟨h,hm⟩
  refine⟨h,?_⟩
  obtain⟨i,hi,hm⟩:=List.mem_flatMap.1 hm
  obtain⟨o,ho,e⟩:=List.mem_map.1 hm
  have hil:i<l.length:=List.mem_range.1 hi
  obtain⟨j,hj,e2⟩:=List.getElem_of_mem ho
  rw [List.length_take] at hj
  cases e
  refine⟨j,i,by omega,?_,?_⟩
  ·rw [List.getElem_take] at e2
   rw [List.getElem?_eq_getElem (by omega),e2]
  ·rw [List.getElem?_eq_getElem hil,List.getD_eq_getElem?_getD,List.getElem?_eq_getElem hil];rfl
 ·rintro⟨h,j,i,hji,h1,h2⟩
  refine⟨h,List.mem_flatMap.2 ⟨i,List.mem_range.2 (List.getElem?_eq_some_iff.1 h2).1,List.mem_map.2 ⟨v,?_,?_⟩⟩⟩
  ·refine List.mem_of_getElem? (i:=j) ?_
   rw [List.getElem?_take,if_pos hji,h1]
  ·rw [List.getD_eq_getElem?_getD,h2];rfl
theorem certM_one {l:List Rw} {v:Rw} (h:Dup l v) (hall:∀r,Dup l r→r=v):certM l=v:=
 certF_one h.1 (fun r hr=>hall r (hits_prs.1 hr)) (.inr ⟨rfl,hits_prs.2 h⟩)
theorem certM_none {l:List Rw} (h:∀r,¬Dup l r):certM l=rw0:=certF_none fun r hr=>h r (hits_prs.1 hr)
theorem certM_two {l:List Rw} {v v':Rw} (hne:v≠v') (h:Dup l v) (h':Dup l v'):certM l=rw0:=certF_two hne (.inl (hits_prs.2 h)) (hits_prs.2 h')
theorem certM_or (l:List Rw):certM l=rw0∨Dup l (certM l):=by
 by_cases h:∃v,Dup l v
 ·obtain⟨v,hv⟩:=h
  by_cases h2:∀r,Dup l r→r=v
  ·exact .inr (by rw [certM_one hv h2];exact hv)
  ·have:∃r,Dup l r∧r≠v:=Classical.byContradiction fun hn=>h2 fun r hr=>Classical.byContradiction fun hne=>hn ⟨r,hr,hne⟩
   obtain⟨r,hr,hne⟩:=this
   exact .inl (certM_two hne hr hv)
 ·exact .inl (certM_none fun r hr=>h ⟨r,hr⟩)
theorem certM_ok {l:List Rw} (h:∀r ∈ l,r.ok):(certM l).ok:=by
 rcases certM_or l with e | ⟨-,-,i,-,-,e⟩
 ·rw [e];exact rw0_ok
 ·exact h _ (List.mem_of_getElem? e)
def tab (n:Nat) (f:Nat→Rw):List Rw:=(List.range n).map f
theorem tab_len (n:Nat) (f:Nat→Rw):(tab n f).length=n:=by simp [tab]
theorem tab_at {n:Nat} {f:Nat→Rw} {k:Nat} (h:k<n):(tab n f)[k]? =some (f k):=by simp [tab,h]
theorem tab_mem {n:Nat} {f:Nat→Rw} {r:Rw} (h:r ∈ tab n f):∃k,k<n∧r=f k:=by
 simp only [tab,List.mem_map,List.mem_range] at h
 obtain⟨k,h1,h2⟩:=h
 exact⟨k,h1,h2.symm⟩
theorem tab_ext {n:Nat} {l:List Rw} {f:Nat→Rw} (h1:l.length=n) (h2:∀k,k<n→l[k]? =some (f k)):l=tab n f:=by
 apply List.ext_getElem?
 intro k
 by_cases hk:k<n
 ·rw [h2 k hk,tab_at hk]
 ·rw [List.getElem?_eq_none (by omega),List.getElem?_eq_none (by rw [tab_len];omega)]
theorem tab_congr {n:Nat} {f g:Nat→Rw} (h:∀k,k<n→f k=g k):tab n f=tab n g:=tab_ext (tab_len _ _) fun k hk=>by rw [tab_at hk,h k hk]
theorem tab_set {n:Nat} {f g:Nat→Rw} {k:Nat} (hk:k<n) (h:∀j,j<n→j≠k→g j=f j):(tab n f).set k (g k)=tab n g:=by
 refine tab_ext (by rw [List.length_set,tab_len]) fun j hj=> ?_
 rw [List.getElem?_set]
 by_cases e:k=j
 ·subst e;rw [if_pos rfl,if_pos (by rw [tab_len];exact hk)]
 ·rw [if_neg e,tab_at hj,h j hj (Ne.symm e)]
theorem tab_put {n:Nat} {f g:Nat→Rw} {k:Nat} {x:Rw} (hk:k<n) (hx:g k=x) (h:∀j,j<n→j≠k→g j=f j):(tab n f).set k x=tab n g:=by rw [←hx];exact tab_set hk h
def distM (n me way s:Nat):Nat:=if way=0 then (me+n - s) % n else (s+n - me) % n
def inRow (n:Nat) (l:List Rw) (s:Nat):Rw:=match l[s]? with | some r=>r.plain n | none=>rw0
theorem fillR_tab (n:Nat) (l:List Rw):fillR n l=tab n (inRow n l):=tab_ext (fillR_len n l) fun k hk=>by rw [fillR_at n l k hk];rfl
def sideM (n me way:Nat) (near far:List Rw) (q s:Nat):Rw:=
 if distM n me way s=0 then rw0 else if distM n me way s=1 then (if q=0 then inRow n near s else rw0) else (if q=0 then inRow n far s else inRow n near s)
def momM (n me:Nat) (ins:Nat→List Rw) (q s:Nat):Rw:=sideM n me (q / 2) (ins (2*(q / 2))) (ins (2*(q / 2)+1)) (q % 2) s
structure LaneM where
 n:Nat
 me:Nat
 T:Nat
 b:Bool
 past:Nat→Nat→Nat→Rw
def LaneM.new (n me:Nat):LaneM:=⟨n,me,0,false,fun _ _ _=>rw0⟩
noncomputable def ofM (n me s:Nat) (was:Nat→Nat→Nat→Rw):Rw:=
 if s=me then was n 0 s else certM [was (n - distM n me 0 s) 0 s,was (n - distM n me 0 s) 1 s,was (n - distM n me 1 s) 2 s,was (n - distM n me 1 s) 3 s]
def LaneM.put (L:LaneM) (ins:Nat→List Rw):LaneM:=
 { L with T:=L.T+1,b:=true,past:=fun j=>if j=L.T % (L.n+1) then momM L.n L.me ins else L.past j }
noncomputable def LaneM.held (L:LaneM) (s:Nat):Rw:=
 if L.n≤L.T - 1 then ofM L.n L.me s (fun ago=>L.past ((L.T - 1 - ago) % (L.n+1))) else rw0
def LaneM.said (L:LaneM) (own:Rw):LaneM:=
 if L.b then { L with b:=false,past:=fun j q s=>if j=(L.T - 1) % (L.n+1)∧q % 2=0∧s=L.me then own.plain L.n else L.past j q s } else L
def LaneM.out (L:LaneM) (q:Nat):List Rw:=tab L.n (L.past ((L.T - 1) % (L.n+1)) q)
def LaneM.okP (L:LaneM):Prop:=∀j q s,(L.past j q s).ok
theorem inRow_ok {n:Nat} {l:List Rw} (h:∀r ∈ l,r.ok) (s:Nat):(inRow n l s).ok:=by
 unfold inRow
 split
 ·exact Rw.plain_ok (h _ (List.mem_of_getElem? ‹_›))
 ·exact rw0_ok
theorem sideM_ok {n me way:Nat} {near far:List Rw} (h1:∀r ∈ near,r.ok) (h2:∀r ∈ far,r.ok) (q s:Nat):(sideM n me way near far q s).ok:=by
 unfold sideM
 repeat' split
 all_goals first | exact rw0_ok | exact inRow_ok h1 _ | exact inRow_ok h2 _
theorem momM_ok {n me:Nat} {ins:Nat→List Rw} (h:∀i,∀r ∈ ins i,r.ok) (q s:Nat):(momM n me ins q s).ok:=sideM_ok (h _) (h _) _ _
theorem LaneM.new_ok (n me:Nat):(LaneM.new n me).okP:=fun _ _ _=>rw0_ok
theorem LaneM.put_ok {L:LaneM} (h:L.okP) {ins:Nat→List Rw} (hi:∀i,∀r ∈ ins i,r.ok):(L.put ins).okP:=fun j q s=>by
 simp only [LaneM.put]
 split
 ·exact momM_ok hi q s
 ·exact h j q s
theorem LaneM.said_ok {L:LaneM} (h:L.okP) {own:Rw} (ho:own.ok):(L.said own).okP:=fun j q s=>by
 unfold LaneM.said
 split
 ·simp only
  split
  ·exact Rw.plain_ok ho
  ·exact h j q s
 ·exact h j q s
theorem ofM_ok {n me s:Nat} {was:Nat→Nat→Nat→Rw} (h:∀a q s,(was a q s).ok):(ofM n me s was).ok:=by
 unfold ofM
 split
 ·exact h _ _ _
 ·refine certM_ok fun r hr=> ?_
  simp only [List.mem_cons,List.not_mem_nil,or_false] at hr
  rcases hr with rfl | rfl | rfl | rfl <;> exact h _ _ _
theorem LaneM.held_ok {L:LaneM} (h:L.okP) (s:Nat):(L.held s).ok:=by
 unfold LaneM.held
 split
 ·exact ofM_ok fun a q s=>h _ q s
 ·exact rw0_ok
theorem LaneM.out_ok {L:LaneM} (h:L.okP) (q:Nat):∀r ∈ L.out q,r.ok:=fun r hr=>by
 obtain⟨k,-,rfl⟩:=tab_mem hr
 exact h _ _ _
theorem plain_tlen {n:Int} {r:Rw}:(r.plain n).t.length≤16:=by
 unfold Rw.plain
 split
 ·rename_i h
  simp [mayN] at h
  rw [fillH_len]
  omega
 ·simp [rw0]
def LaneM.okT (L:LaneM):Prop:=∀j q s,(L.past j q s).t.length≤16
theorem inRow_tlen {n:Nat} {l:List Rw} (s:Nat):(inRow n l s).t.length≤16:=by
 unfold inRow
 split
 ·exact plain_tlen
 ·simp [rw0]
theorem momM_tlen {n me:Nat} {ins:Nat→List Rw} (q s:Nat):(momM n me ins q s).t.length≤16:=by
 unfold momM sideM
 repeat' split
 all_goals first | exact inRow_tlen _ | simp [rw0]
theorem LaneM.new_okT (n me:Nat):(LaneM.new n me).okT:=fun _ _ _=>by simp [LaneM.new,rw0]
theorem LaneM.put_okT {L:LaneM} (h:L.okT) (ins:Nat→List Rw):(L.put ins).okT:=fun j q s=>by
 simp only [LaneM.put]
 split
 ·exact momM_tlen q s
 ·exact h j q s
theorem LaneM.said_okT {L:LaneM} (h:L.okT) (own:Rw):(L.said own).okT:=fun j q s=>by
 unfold LaneM.said
 split
 ·simp only
  split
  ·exact plain_tlen
  ·exact h j q s
 ·exact h j q s
theorem ofM_tlen {n me s:Nat} {was:Nat→Nat→Nat→Rw} (h:∀a q s,(was a q s).t.length≤16):(ofM n me s was).t.length≤16:=by
 unfold ofM
 split
 ·exact h _ _ _
 ·rcases certM_or [was (n - distM n me 0 s) 0 s,was (n - distM n me 0 s) 1 s,was (n - distM n me 1 s) 2 s,was (n - distM n me 1 s) 3 s] with e | ⟨-,-,i,-,-,e⟩
  ·rw [e];simp [rw0]
  ·have:=List.mem_of_getElem? e
   simp only [List.mem_cons,List.not_mem_nil,or_false] at this
   rcases this with e | e | e | e <;> rw [e] <;> exact h _ _ _
theorem LaneM.held_tlen {L:LaneM} (h:L.okT) (s:Nat):(L.held s).t.length≤16:=by
 unfold LaneM.held
 split
 ·exact ofM_tlen fun a q s=>h _ q s
 ·simp [rw0]
theorem LaneM.out_tlen {L:LaneM} (h:L.okT) (q:Nat):∀r ∈ L.out q,r.t.length≤16:=fun r hr=>by
 obtain⟨k,-,rfl⟩:=tab_mem hr
 exact h _ _ _
end Go.Proofs.YtdilbjikeilhbaaGreatDoor
