import Derived.Test.YtdilbjikeilhbaaGreatDoorGn03
import Derived.Deep.RegionLaw
import Derived.LoopN
namespace Go.Proofs.YtdilbjikeilhbaaGreatDoor
open Go.RowKit
set_option linter.unusedVariables false
set_option linter.unusedSimpArgs false
theorem app_held:AppOk Tryz.prog 132 204 56:=appOk_of Tryz.underlying132 (by kernel_rfl)
def OwnHs (w0:World) (e:TypeId) (v:Value) (l:List Hd) (wr:World):Prop:=wr.ownsRow w0.heap.size e 56 v l.length (l.flatMap Hd.vals)∧(∀x ∈ l,x.ok)∧Below w0.heap.size w0 wr
theorem OwnHs.nil (w0:World) (e:TypeId) (wr:World) (h:Below w0.heap.size w0 wr):OwnHs w0 e (.slice none 0 0) [] wr:=⟨World.ownsRow_nil _ _ _ _,by simp,h⟩
def NewHs (w:World) (l:List Hd) (e:Ending) (w':World):Prop:=
 ∃a cap,e=.returned (.slice a l.length cap)∧RdHs (w.heap.size≤·) w' a l.length l∧l.length≤cap∧cap≤maxLen∧Below w.heap.size w w'
theorem OwnHs.new {w0:World} {e:TypeId} {v:Value} {l:List Hd} {wr:World} (h:OwnHs w0 e v l wr):NewHs w0 l (.returned v) wr:=by
 obtain⟨a,cap,rfl,h1,h2,h3⟩:=RdHs.of_own h.1 h.2.1
 exact⟨a,cap,rfl,h1,h2,h3,h.2.2⟩
theorem OwnHs.push {w0:World} {e:TypeId} {v:Value} {l:List Hd} {wr:World} (h:OwnHs w0 e v l wr) (x:Hd) (hx:x.ok) {w1:World} {v':Value} {n:Nat} (hn:l.length=n)
 (o1:w1.ownsRow w0.heap.size e 56 v' (n+1) (l.flatMap Hd.vals++x.vals)) {wm:World} (hm:Below w0.heap.size w0 wm) (hg:wm.grownBy w1 v.ownBlock):OwnHs w0 e v' (l++ [x]) w1:=by
 subst hn
 refine⟨by rw [List.length_append,List.flatMap_append];simpa using o1,fun y hy=> ?_,hm.grown hg hm.size fun k hk=>(h.1.lt k hk).1⟩
 rcases List.mem_append.1 hy with hy | hy
 ·exact h.2.1 y hy
 ·simp at hy;rw [hy];exact hx
theorem own_block {w w':World} {base:Nat} {e:TypeId} {size:Nat} {v:Value} {n:Nat} {xs:List Value} (h:w.ownsRow base e size v n xs) (hb:∀k,v.ownBlock=some k→w'.heap[k]? =w.heap[k]?):w'.ownsRow base e size v n xs:=by
 refine⟨h.1,?_⟩
 rcases h.2 with h2 | ⟨g,cap,cur,rfl,hg,hh,r⟩
 ·exact .inl h2
 ·exact .inr ⟨g,cap,cur,rfl,hg,(hb g rfl).trans hh,r⟩
theorem own_not {w:World} {base:Nat} {e t:TypeId} {size n g:Nat} {v:Value} {xs:List Value} {cs:Array Value} (h:w.ownsRow base e size v n xs) (hg:Blk w g t cs) (hne:e≠t):v.ownBlock≠some g:=by
 rcases h.2 with ⟨rfl,_⟩ | ⟨g',cap,cur,rfl,_,hh,_⟩
 ·simp [Value.ownBlock]
 ·intro he
  have:g'=g:=by simpa [Value.ownBlock] using he
  subst this
  exact Blk.ne_ (t:=e) hh hg hne rfl
theorem Blk.put_all {w:World} {g:Nat} {t:TypeId} {z l:List Value} (h:Blk w g t z.toArray) (hl:z.length=l.length):Blk (putRow w ⟨g,0,none⟩ l) g t l.toArray:=by
 have:=h.put 0 l
 simpa [←hl] using this
theorem Blk.whole {w:World} {g:Nat} {t:TypeId} {l:List Value} {n:Nat} (h:Blk w g t l.toArray) (hl:l.length=n):hasRow w ⟨g,0,none⟩ n=true∧rowOf w ⟨g,0,none⟩ n=l∧canPut w ⟨g,0,none⟩ n=true:=by
 subst hl
 obtain⟨-,-,h3,h4,h5⟩:=h.rules
 refine⟨by rw [h3];simp,?_,by rw [h5];simp⟩
 rw [h4 _ _ (by omega)];simp
theorem ret_row {P:Program} {fn:Func} {p:Tmp} {ty:TypeId} {n:Nat} (h:fn.results=#[.cell p ty]) (hT:aggOf P ty n=true) (tmps:Array Value) (w:World) (a:Addr)
 (hp:tmps.getD p undef=.pointer (some a)) (hr:hasRow w a n=true):(results fn tmps).run P w=.ok (.agg (rowOf w a n).toArray) w:=by
 have hp':tmps[p]?.getD undef=.pointer (some a):=by simpa using hp
 simp [results,h,hp',asAddr,run_load_row hT hr]
@[go_sem ↓] theorem ld_said (ρ:Operand→Value) (d:Option Tmp) (x:Operand) (ty:TypeId) (s:String) (af:Array Edge) (g:Option (Nat×Bool)) (w:World) (h:hasRowV w 6 (ρ x)=true) :
 (execOp ρ { dst:=d,op:=.load 82 x,type:=ty,pos:=s,after:=af,guard:=g }).run Tryz.prog w=.ok (.value (.agg (rowV w 6 (ρ x)).toArray)) w:=exec_load (by kernel_rfl) ρ d x ty s af g w h
@[go_sem ↓] theorem st_said (ρ:Operand→Value) (d:Option Tmp) (x y:Operand) (ty:TypeId) (s:String) (af:Array Edge) (g:Option (Nat×Bool)) (w:World) (h1:okAgg 6 (ρ y)=true) (h2:canPutV w 6 (ρ x)=true) :
 (execOp ρ { dst:=d,op:=.store 82 x y,type:=ty,pos:=s,after:=af,guard:=g }).run Tryz.prog w=.ok .skip (putV w (ρ x) (ρ y)):=exec_store (by kernel_rfl) ρ d x y ty s af g w h1 h2
@[go_sem ↓] theorem al_said (ρ:Operand→Value) (d:Option Tmp) (ty:TypeId) (s:String) (af:Array Edge) (g:Option (Nat×Bool)) (w:World) :
 (execOp ρ { dst:=d,op:=.alloc 82,type:=ty,pos:=s,after:=af,guard:=g }).run Tryz.prog w=.ok (.value (.pointer (some ⟨w.heap.size,0,none⟩))) (w.alloc (.cells saidZ.toArray 82)):=exec_alloc (by unfold zeroIs;kernel_rfl) ρ d ty s af g w
theorem bt_said:buildT Tryz.prog 82 saidZ [(0,1),(1,1),(2,4)]:=by unfold buildT;exact⟨by kernel_rfl,by kernel_rfl⟩
@[go_sem ↓] theorem bd_said0 (ρ:Operand→Value) (d:Option Tmp) (ty:TypeId) (s:String) (af:Array Edge) (g:Option (Nat×Bool)) (w:World):(execOp ρ { dst:=d,op:=.build 82 #[],type:=ty,pos:=s,after:=af,guard:=g }).run Tryz.prog w=.ok (.value (.agg saidZ.toArray)) w:=exec_build0 bt_said ρ d ty s af g w
@[go_sem] theorem saidZ_cell1:saidZ.all cell1=true:=by kernel_rfl
@[go_sem] theorem len_saidZ':saidZ.length=6:=(rfl)
@[go_sem] theorem canPut_last (w:World) (l:List Value) (t:TypeId) (g i n:Nat) (hg:w.heap.size=g):canPut (w.alloc (.cells l.toArray t)) ⟨g,i,none⟩ n=decide (i+n≤l.length):=by subst hg;exact canPut_new w l t i n
@[go_sem] theorem hasRow_last (w:World) (l:List Value) (t:TypeId) (g i n:Nat) (hg:w.heap.size=g) (h:i+n≤l.length):hasRow (w.alloc (.cells l.toArray t)) ⟨g,i,none⟩ n=true:=by subst hg;exact hasRow_new w l t i n h
@[go_sem] theorem rowOf_last (w:World) (l:List Value) (t:TypeId) (g i n:Nat) (hg:w.heap.size=g) (h:i+n≤l.length):rowOf (w.alloc (.cells l.toArray t)) ⟨g,i,none⟩ n=(l.drop i).take n:=by subst hg;exact rowOf_new w l t i n h
@[go_sem] theorem putRow_last (w:World) (z l:List Value) (t:TypeId) (g:Nat) (hg:w.heap.size=g) (h:z.length=l.length):putRow (w.alloc (.cells z.toArray t)) ⟨g,0,none⟩ l=w.alloc (.cells l.toArray t):=by subst hg;exact putRow_new w z l t h
theorem said_frame (w:World) (l z:List Value) (t t':TypeId):Below w.heap.size w ((w.alloc (.cells l.toArray t)).alloc (.cells z.toArray t')):=((Below.refl _ _).alloc (Nat.le_refl _) _).alloc (by simp) _
set_option maxRecDepth 100000 in
theorem said_any (s:Sd) (w:World):Calls Tryz.prog 257 #[.agg s.vals.toArray] w fun e w'=>e=.returned (.agg s.norm.vals.toArray)∧Below w.heap.size w w':=by
 obtain⟨R,hR⟩:∃R,R=s.norm.vals:=⟨_,rfl⟩
 rw [←hR]
 have HR:=Lib.hid hR
 clear hR
 obtain⟨is,tick,kind,st,seq,val⟩:=s
 simp only [Sd.vals]
 cases is
 ·skip
  have HN:Hid (R=saidZ):=Lib.hid (by
   have hg:Sd.good ⟨false,tick,kind,st,seq,val⟩=false:=by
    rw [Bool.eq_false_iff];intro h;simp [Sd.good] at h;try omega
   rw [HR.out,Sd.norm,if_neg (by rw [hg];simp)];rfl)
  go_enter Tryz.func257,Tryz.ntmps257
  go_wp2_with fail
  try simp only [Exit.inBlock,Exit.then]
  first | refine bodyPost_ret (ret_row (n:=6) rfl (by kernel_rfl) _ _ _ rfl ?_) rfl ?_ | refine bodyPost_end (ret_row (n:=6) rfl (by kernel_rfl) _ _ _ rfl ?_) rfl ?_
  ·simp [go_sem]
  ·refine⟨?_,said_frame _ _ _ _ _⟩
   rw [HN.out]
   simp [go_sem,Sd.vals,saidZ]
 ·by_cases h1:tick<0
  ·skip
   have HN:Hid (R=saidZ):=Lib.hid (by
    have hg:Sd.good ⟨true,tick,kind,st,seq,val⟩=false:=by
     rw [Bool.eq_false_iff];intro h;simp [Sd.good] at h;try omega
    rw [HR.out,Sd.norm,if_neg (by rw [hg];simp)];rfl)
   go_enter Tryz.func257,Tryz.ntmps257
   go_wp2_with fail
   try simp only [Exit.inBlock,Exit.then]
   first | refine bodyPost_ret (ret_row (n:=6) rfl (by kernel_rfl) _ _ _ rfl ?_) rfl ?_ | refine bodyPost_end (ret_row (n:=6) rfl (by kernel_rfl) _ _ _ rfl ?_) rfl ?_
   ·simp [go_sem]
   ·refine⟨?_,said_frame _ _ _ _ _⟩
    rw [HN.out]
    simp [go_sem,Sd.vals,saidZ]
  ·by_cases h2:1099511627776<tick
   ·skip
    have HN:Hid (R=saidZ):=Lib.hid (by
     have hg:Sd.good ⟨true,tick,kind,st,seq,val⟩=false:=by
      rw [Bool.eq_false_iff];intro h;simp [Sd.good] at h;try omega
     rw [HR.out,Sd.norm,if_neg (by rw [hg];simp)];rfl)
    go_enter Tryz.func257,Tryz.ntmps257
    go_wp2_with fail
    try simp only [Exit.inBlock,Exit.then]
    first | refine bodyPost_ret (ret_row (n:=6) rfl (by kernel_rfl) _ _ _ rfl ?_) rfl ?_ | refine bodyPost_end (ret_row (n:=6) rfl (by kernel_rfl) _ _ _ rfl ?_) rfl ?_
    ·simp [go_sem]
    ·refine⟨?_,said_frame _ _ _ _ _⟩
     rw [HN.out]
     simp [go_sem,Sd.vals,saidZ]
   ·by_cases h3:kind=1
    ·subst h3
     have HN:Hid (R=Sd.vals ⟨true,tick,1,st,seq,val⟩):=Lib.hid (by
      have hg:Sd.good ⟨true,tick,1,st,seq,val⟩=true:=by
       simp [Sd.good];omega
      rw [HR.out,Sd.norm,if_pos hg])
     go_enter Tryz.func257,Tryz.ntmps257
     go_wp2_with fail
     try simp only [Exit.inBlock,Exit.then]
     first | refine bodyPost_ret (ret_row (n:=6) rfl (by kernel_rfl) _ _ _ rfl ?_) rfl ?_ | refine bodyPost_end (ret_row (n:=6) rfl (by kernel_rfl) _ _ _ rfl ?_) rfl ?_
     ·simp [go_sem]
     ·refine⟨?_,said_frame _ _ _ _ _⟩
      rw [HN.out]
      simp [go_sem,Sd.vals,saidZ]
    ·by_cases h4:kind=2
     ·subst h4
      have HN:Hid (R=Sd.vals ⟨true,tick,2,st,seq,val⟩):=Lib.hid (by
       have hg:Sd.good ⟨true,tick,2,st,seq,val⟩=true:=by
        simp [Sd.good];omega
       rw [HR.out,Sd.norm,if_pos hg])
      go_enter Tryz.func257,Tryz.ntmps257
      go_wp2_with fail
      try simp only [Exit.inBlock,Exit.then]
      first | refine bodyPost_ret (ret_row (n:=6) rfl (by kernel_rfl) _ _ _ rfl ?_) rfl ?_ | refine bodyPost_end (ret_row (n:=6) rfl (by kernel_rfl) _ _ _ rfl ?_) rfl ?_
      ·simp [go_sem]
      ·refine⟨?_,said_frame _ _ _ _ _⟩
       rw [HN.out]
       simp [go_sem,Sd.vals,saidZ]
     ·have h5:(kind != 1)=true:=by simpa using h3
      have h6:(kind != 2)=true:=by simpa using h4
      have h7:(kind==1)=false:=by simpa using h3
      have h8:(kind==2)=false:=by simpa using h4
      have HN:Hid (R=saidZ):=Lib.hid (by
       have hg:Sd.good ⟨true,tick,kind,st,seq,val⟩=false:=by
        rw [Bool.eq_false_iff];intro h;simp [Sd.good] at h;try omega
       rw [HR.out,Sd.norm,if_neg (by rw [hg];simp)];rfl)
      go_enter Tryz.func257,Tryz.ntmps257
      go_wp2_with fail
      try simp only [Exit.inBlock,Exit.then]
      first | refine bodyPost_ret (ret_row (n:=6) rfl (by kernel_rfl) _ _ _ rfl ?_) rfl ?_ | refine bodyPost_end (ret_row (n:=6) rfl (by kernel_rfl) _ _ _ rfl ?_) rfl ?_
      ·simp [go_sem]
      ·refine⟨?_,said_frame _ _ _ _ _⟩
       rw [HN.out]
       simp [go_sem,Sd.vals,saidZ]
theorem Cl.at53 {c:Cl} (h:c.v.length=40):c.vals[53]? =some (.int .i8 c.cmd):=by simp [Cl.vals,Sd.vals,List.getElem?_append,h]
theorem Cl.at54 {c:Cl} (h:c.v.length=40):c.vals[54]? =some (.int .u8 c.mode):=by simp [Cl.vals,Sd.vals,List.getElem?_append,h]
theorem Cl.o_at (c:Cl):(c.vals.drop 1).take 6=c.o.vals:=by simp [Cl.vals,Sd.vals]
theorem Cl.r_at (c:Cl):(c.vals.drop 7).take 6=c.r.vals:=by simp [Cl.vals,Sd.vals]
theorem Cl.set0 (c:Cl) (n:Int):c.vals.toArray.setIfInBounds 0 (.int .i64 n)=(Cl.vals { c with age:=n }).toArray:=by simp [Cl.vals]
theorem Cl.set53 {c:Cl} (h:c.v.length=40) (n:Int):c.vals.toArray.setIfInBounds 53 (.int .i8 n)=(Cl.vals { c with cmd:=n }).toArray:=by
 simp [Cl.vals,Sd.vals,List.set_append,h]
theorem Cl.set54 {c:Cl} (h:c.v.length=40) (n:Int):c.vals.toArray.setIfInBounds 54 (.int .u8 n)=(Cl.vals { c with mode:=n }).toArray:=by
 simp [Cl.vals,Sd.vals,List.set_append,h]
theorem Cl.put_o (c:Cl) (s:Sd):c.vals.take 1++s.vals++c.vals.drop (1+s.vals.length)=Cl.vals { c with o:=s }:=by simp [Cl.vals,Sd.vals]
theorem Cl.put_r (c:Cl) (s:Sd):c.vals.take 7++s.vals++c.vals.drop (7+s.vals.length)=Cl.vals { c with r:=s }:=by simp [Cl.vals,Sd.vals]
@[go_sem] theorem len_sdvals (s:Sd):s.vals.length=6:=(rfl)
@[go_sem] theorem sd_cell1 (s:Sd):s.vals.all cell1=true:=(rfl)
@[go_sem] theorem canPut_put (w:World) (p q:Addr) (l:List Value) (n:Nat) (h:canPut w p l.length=true):canPut (putRow w p l) q n=canPut w q n:=by
 unfold canPut at h
 split at h
 ·rename_i cur t hg
  simp only [Bool.and_eq_true,decide_eq_true_eq] at h
  by_cases hq:q.block=p.block
  ·have h1:(putRow w p l).heap[q.block]? =some (.cells (cur.toList.take p.off++l++cur.toList.drop (p.off+l.length)).toArray t):=by
    rw [hq];simp only [putRow,hg];exact setRow_heap w p.block _ _ t _ hg
   unfold canPut
   rw [h1,hq,hg]
   have:(cur.toList.take p.off++l++cur.toList.drop (p.off+l.length)).toArray.size=cur.size:=by
    simp;omega
   simp only [this]
  ·unfold canPut
   rw [putRow_other w p l _ hq]
 ·cases h
theorem Blk.cl {w:World} {g:Nat} {c:Cl} (h:Blk w g 131 c.vals.toArray) (hv:c.v.length=40) :
 w.cell? ⟨g,0,none⟩=some (.int .i64 c.age)∧w.cell? ⟨g,53,none⟩=some (.int .i8 c.cmd)∧w.cell? ⟨g,54,none⟩=some (.int .u8 c.mode)∧
 (∀i,w.frozen? ⟨g,i,none⟩=false)∧hasRow w ⟨g,1,none⟩ 6=true∧rowOf w ⟨g,1,none⟩ 6=c.o.vals∧hasRow w ⟨g,7,none⟩ 6=true∧rowOf w ⟨g,7,none⟩ 6=c.r.vals∧
 hasRow w ⟨g,0,none⟩ 55=true∧rowOf w ⟨g,0,none⟩ 55=c.vals∧canPut w ⟨g,1,none⟩ 6=true∧canPut w ⟨g,7,none⟩ 6=true:=by
 obtain⟨h1,h2,h3,h4,h5⟩:=h.rules
 have hl:=Cl.len hv
 refine⟨by rw [h1];rfl,by rw [h1,Cl.at53 hv],by rw [h1,Cl.at54 hv],h2,by rw [h3,hl];rfl,by rw [h4 _ _ (by omega),Cl.o_at],by rw [h3,hl];rfl,by rw [h4 _ _ (by omega),Cl.r_at],by rw [h3,hl];rfl,?_,by rw [h5,hl];rfl,by rw [h5,hl];rfl⟩
 rw [h4 _ _ (by omega),List.drop_zero,List.take_of_length_le (by omega)]
def ageN (n:Int):Int:=if n<0∨1099511627776<n then -1 else n
def cmdN (n:Int):Int:=if n<0∨8≤n then -1 else n
def modeN (n:Int):Int:=if 7<n then 0 else n
theorem Cl.norm_eq (c:Cl):c.norm={ age:=ageN c.age,o:=c.o.norm,r:=c.r.norm,v:=c.v,cmd:=cmdN c.cmd,mode:=modeN c.mode }:=rfl
def Turns (g:Nat) (c:Cl) (w:World) (e:Ending) (w':World):Prop:=e=.returned (.tuple #[])∧Blk w' g 131 c.vals.toArray∧Chg (· =g) w w'
set_option maxRecDepth 100000 in
theorem cellf1 (g:Nat) (c:Cl) (hv:c.v.length=40) (w:World) (hb:Blk w g 131 c.vals.toArray):Calls Tryz.prog 255 #[.pointer (some ⟨g,0,none⟩)] w (Turns g { c with age:=ageN c.age } w):=by
 obtain⟨f0,f53,f54,ff,-⟩:=hb.cl hv
 have f:=ff 0
 have hq:=(Chg.refl (· =g) w).set_at 0 (.int .i64 (-1))
 have hb2:=hb.set_ 0 (.int .i64 (-1))
 rw [Cl.set0] at hb2
 have H2:=Lib.hid (And.intro hb2 hq)
 have HB:=Lib.hid hb
 obtain⟨age,o,r,v,cmd,mode⟩:=c
 simp only at f0
 clear ff hb hb2 hq f53 f54
 by_cases h1:age<0
 ·have HA:Hid (ageN age= -1):=Lib.hid (by unfold ageN;rw [if_pos (by omega)])
  go_enter Tryz.func255,Tryz.ntmps255
  go_wp2_with fail
  go_end0
  exact⟨rfl,by simpa [HA.out] using H2.out⟩
 ·by_cases h2:1099511627776<age
  ·have HA:Hid (ageN age= -1):=Lib.hid (by unfold ageN;rw [if_pos (by omega)])
   go_enter Tryz.func255,Tryz.ntmps255
   go_wp2_with fail
   go_end0
   exact⟨rfl,by simpa [HA.out] using H2.out⟩
  ·have HA:Hid (ageN age=age):=Lib.hid (by unfold ageN;rw [if_neg (by omega)])
   go_enter Tryz.func255,Tryz.ntmps255
   go_wp2_with fail
   go_end0
   exact⟨rfl,by simpa [HA.out] using HB.out,Chg.refl _ _⟩
set_option maxRecDepth 100000 in
theorem cellf3 (g:Nat) (c:Cl) (hv:c.v.length=40) (w:World) (hb:Blk w g 131 c.vals.toArray):Calls Tryz.prog 258 #[.pointer (some ⟨g,0,none⟩)] w (Turns g { c with cmd:=cmdN c.cmd } w):=by
 obtain⟨f0,f53,f54,ff,-⟩:=hb.cl hv
 have f:=ff 53
 have hq:=(Chg.refl (· =g) w).set_at 53 (.int .i8 (-1))
 have hb2:=hb.set_ 53 (.int .i8 (-1))
 rw [Cl.set53 hv] at hb2
 have H2:=Lib.hid (And.intro hb2 hq)
 have HB:=Lib.hid hb
 obtain⟨age,o,r,v,cmd,mode⟩:=c
 simp only at f53
 clear ff hb hb2 hq f0 f54
 by_cases h1:cmd<0
 ·have HA:Hid (cmdN cmd= -1):=Lib.hid (by unfold cmdN;rw [if_pos (by omega)])
  go_enter Tryz.func258,Tryz.ntmps258
  go_wp2_with fail
  go_end0
  exact⟨rfl,by simpa [HA.out] using H2.out⟩
 ·by_cases h2:8≤cmd
  ·have HA:Hid (cmdN cmd= -1):=Lib.hid (by unfold cmdN;rw [if_pos (by omega)])
   go_enter Tryz.func258,Tryz.ntmps258
   go_wp2_with fail
   go_end0
   exact⟨rfl,by simpa [HA.out] using H2.out⟩
  ·have HA:Hid (cmdN cmd=cmd):=Lib.hid (by unfold cmdN;rw [if_neg (by omega)])
   go_enter Tryz.func258,Tryz.ntmps258
   go_wp2_with fail
   go_end0
   exact⟨rfl,by simpa [HA.out] using HB.out,Chg.refl _ _⟩
set_option maxRecDepth 100000 in
theorem cellf4 (g:Nat) (c:Cl) (hv:c.v.length=40) (w:World) (hb:Blk w g 131 c.vals.toArray):Calls Tryz.prog 259 #[.pointer (some ⟨g,0,none⟩)] w (Turns g { c with mode:=modeN c.mode } w):=by
 obtain⟨f0,f53,f54,ff,-⟩:=hb.cl hv
 have f:=ff 54
 have hq:=(Chg.refl (· =g) w).set_at 54 (.int .u8 0)
 have hb2:=hb.set_ 54 (.int .u8 0)
 rw [Cl.set54 hv] at hb2
 have H2:=Lib.hid (And.intro hb2 hq)
 have HB:=Lib.hid hb
 obtain⟨age,o,r,v,cmd,mode⟩:=c
 simp only at f54
 clear ff hb hb2 hq f0 f53
 by_cases h1:7<mode
 ·have HA:Hid (modeN mode=0):=Lib.hid (by unfold modeN;rw [if_pos (by omega)])
  go_enter Tryz.func259,Tryz.ntmps259
  go_wp2_with fail
  go_end0
  exact⟨rfl,by simpa [HA.out] using H2.out⟩
 ·have HA:Hid (modeN mode=mode):=Lib.hid (by unfold modeN;rw [if_neg (by omega)])
  go_enter Tryz.func259,Tryz.ntmps259
  go_wp2_with fail
  go_end0
  exact⟨rfl,by simpa [HA.out] using HB.out,Chg.refl _ _⟩
theorem cell_put2 {w w2:World} {g:Nat} {c:Cl} (hb:Blk w g 131 c.vals.toArray) (h:Below w.heap.size w w2) (so sr:Sd) :
 Blk (putRow (putRow w2 ⟨g,1,none⟩ so.vals) ⟨g,7,none⟩ sr.vals) g 131 (Cl.vals { c with o:=so,r:=sr }).toArray∧Chg (· =g) w (putRow (putRow w2 ⟨g,1,none⟩ so.vals) ⟨g,7,none⟩ sr.vals):=by
 have h1:=(hb.below h hb.lt).put 1 so.vals
 rw [Cl.put_o] at h1
 have h2:=h1.put 7 sr.vals
 rw [Cl.put_r] at h2
 exact⟨h2,Chg.put (p:=⟨g,7,none⟩) (Chg.put (p:=⟨g,1,none⟩) (Chg.of_below h (· =g)) (.inl rfl) _) (.inl rfl) _⟩
set_option maxRecDepth 100000 in
set_option maxHeartbeats 1000000 in
theorem cellf2 (g:Nat) (c:Cl) (hv:c.v.length=40) (w:World) (hb:Blk w g 131 c.vals.toArray):Calls Tryz.prog 256 #[.pointer (some ⟨g,0,none⟩)] w (Turns g { c with o:=c.o.norm,r:=c.r.norm } w):=by
 have HB:=Lib.hid hb
 have HF:Hid (∀w':World,Below w.heap.size w w'→hasRow w' ⟨g,1,none⟩ 6=true∧rowOf w' ⟨g,1,none⟩ 6=c.o.vals∧hasRow w' ⟨g,7,none⟩ 6=true∧rowOf w' ⟨g,7,none⟩ 6=c.r.vals∧canPut w' ⟨g,1,none⟩ 6=true∧canPut w' ⟨g,7,none⟩ 6=true):=
  Lib.hid fun w' h=>by
   obtain⟨-,-,-,-,h1,h2,h3,h4,-,-,h5,h6⟩:=(hb.below h hb.lt).cl hv
   exact⟨h1,h2,h3,h4,h5,h6⟩
 have HS:=Lib.hid (fun w'=>said_any c.o w')
 have HT:=Lib.hid (fun w'=>said_any c.r w')
 obtain⟨f1,f2,f3,f4,f5,f6⟩:=HF.out w (Below.refl _ _)
 clear hb
 go_enter Tryz.func256,Tryz.ntmps256
 go_wp2
 go_region_law (first | (go_simp;go_at_call_of 257 (c.o.vals);refine (HS.out _).mono ?_;rintro e w1 ⟨rfl,hb1⟩;obtain⟨g1,g2,g3,g4,g5,g6⟩:=HF.out _ ((Below.refl _ _).drew.trans hb1);have HB1:=Lib.hid hb1;clear hb1) | (go_simp;go_at_call_of 257 (c.r.vals);refine (HT.out _).mono ?_;rintro e w2 ⟨rfl,hb2⟩;obtain⟨k1,k2,k3,k4,k5,k6⟩:=HF.out _ ((Below.refl _ _).drew.trans (HB1.out.trans (hb2.mono HB1.out.size)));have HB2:=Lib.hid hb2;clear hb2))
 all_goals go_end0
 all_goals exact⟨rfl,cell_put2 HB.out ((Below.refl _ _).drew.trans (HB1.out.trans (HB2.out.mono HB1.out.size))) _ _⟩
def CS (w:World) (c:Cl) (wr:World):Prop:=
 Blk wr w.heap.size 131 c.vals.toArray∧Blk wr (w.heap.size+1) 131 cellZ.toArray∧
 Blk wr (w.heap.size+1+1) 1 #[.func (.func 255) #[] #[.pointer (some ⟨w.heap.size,0,none⟩)],.func (.func 256) #[] #[.pointer (some ⟨w.heap.size,0,none⟩)],.func (.func 258) #[] #[.pointer (some ⟨w.heap.size,0,none⟩)],.func (.func 259) #[] #[.pointer (some ⟨w.heap.size,0,none⟩)]]∧Below w.heap.size w wr
theorem CS.turn {w:World} {c c':Cl} {wr w':World} {e:Ending} (h:CS w c wr) (ht:Turns w.heap.size c' wr e w'):CS w c' w':=by
 obtain⟨h1,h2,h3,h4⟩:=h
 obtain⟨-,hb,hc⟩:=ht
 exact⟨hb,h2.chg hc (by omega),h3.chg hc (by omega),h4.trans (hc.below h4.size (fun k hk=>by omega))⟩
set_option maxRecDepth 100000 in
set_option maxHeartbeats 1000000 in
theorem cell_any (c:Cl) (hv:c.v.length=40) (hc1:c.v.all cell1=true) (w:World):Calls Tryz.prog 210 #[.agg c.vals.toArray] w fun e w'=>e=.returned (.agg c.norm.vals.toArray)∧Below w.heap.size w w':=by
 have hmf:∀(fn:Fn) (first cap:Array Value) (w:World),(Instr.makeFunc fn first cap).run Tryz.prog w=.ok (.func fn first cap) w:=fun _ _ _ _=>rfl
 have hln:c.norm.vals.length=55:=Cl.len hv
 have hcn:c.norm.vals.all cell1=true:=by
  rw [Cl.norm_eq]
  simp [Cl.vals,Sd.vals,cell1,List.all_append] at hc1 ⊢
  exact hc1
 go_enter Tryz.func210,Tryz.ntmps210
 go_wp2_with fail
 have hst:CS w c (((w.alloc (.cells c.vals.toArray 131)).alloc (.cells cellZ.toArray 131)).alloc (.cells #[.func (.func 255) #[] #[.pointer (some ⟨w.heap.size,0,none⟩)],.func (.func 256) #[] #[.pointer (some ⟨w.heap.size,0,none⟩)],.func (.func 258) #[] #[.pointer (some ⟨w.heap.size,0,none⟩)],.func (.func 259) #[] #[.pointer (some ⟨w.heap.size,0,none⟩)]] 1)):=by
  refine⟨((Blk.new _ _ _).alloc _).alloc _,?_,?_,(((Below.refl _ _).alloc (Nat.le_refl _) _).alloc (by simp) _).alloc (by simp;omega) _⟩
  ·have:=Blk.new (w.alloc (.cells c.vals.toArray 131)) 131 cellZ.toArray
   have e:(w.alloc (.cells c.vals.toArray 131)).heap.size=w.heap.size+1:=by simp
   rw [e] at this
   exact this.alloc _
  ·have:=Blk.new ((w.alloc (.cells c.vals.toArray 131)).alloc (.cells cellZ.toArray 131)) 1 #[.func (.func 255) #[] #[.pointer (some ⟨w.heap.size,0,none⟩)],.func (.func 256) #[] #[.pointer (some ⟨w.heap.size,0,none⟩)],.func (.func 258) #[] #[.pointer (some ⟨w.heap.size,0,none⟩)],.func (.func 259) #[] #[.pointer (some ⟨w.heap.size,0,none⟩)]]
   have e:((w.alloc (.cells c.vals.toArray 131)).alloc (.cells cellZ.toArray 131)).heap.size=w.heap.size+1+1:=by simp
   rwa [e] at this
 generalize (((w.alloc (.cells c.vals.toArray 131)).alloc (.cells cellZ.toArray 131)).alloc (.cells #[.func (.func 255) #[] #[.pointer (some ⟨w.heap.size,0,none⟩)],.func (.func 256) #[] #[.pointer (some ⟨w.heap.size,0,none⟩)],.func (.func 258) #[] #[.pointer (some ⟨w.heap.size,0,none⟩)],.func (.func 259) #[] #[.pointer (some ⟨w.heap.size,0,none⟩)]] 1))=wr at hst ⊢
 have H0:=Lib.hid hst
 have k0:=hst.2.2.1.cell 0
 simp at k0
 clear hst
 refine wp_loop_rounds 5 ?_
 rw [rounds_succ]
 go_wp2_with fail
 refine (cellf1 _ c hv _ H0.out.1).mono ?_
 rintro e w1 ht
 have H1:=Lib.hid (H0.out.turn ht)
 obtain⟨rfl,-⟩:=ht
 clear k0 H0
 have k1:=H1.out.2.2.1.cell 1
 simp at k1
 go_wp2_with fail
 rw [rounds_succ]
 go_wp2_with fail
 refine (cellf2 _ { c with age:=ageN c.age } hv _ H1.out.1).mono ?_
 rintro e w2 ht
 have H2:=Lib.hid (H1.out.turn ht)
 obtain⟨rfl,-⟩:=ht
 clear k1 H1
 have k2:=H2.out.2.2.1.cell 2
 simp at k2
 go_wp2_with fail
 rw [rounds_succ]
 go_wp2_with fail
 refine (cellf3 _ { c with age:=ageN c.age,o:=c.o.norm,r:=c.r.norm } hv _ H2.out.1).mono ?_
 rintro e w3 ht
 have H3:=Lib.hid (H2.out.turn ht)
 obtain⟨rfl,-⟩:=ht
 clear k2 H2
 have k3:=H3.out.2.2.1.cell 3
 simp at k3
 go_wp2_with fail
 rw [rounds_succ]
 go_wp2_with fail
 refine (cellf4 _ { c with age:=ageN c.age,o:=c.o.norm,r:=c.r.norm,cmd:=cmdN c.cmd } hv _ H3.out.1).mono ?_
 rintro e w4 ht
 have h4:=H3.out.turn ht
 obtain⟨rfl,-⟩:=ht
 clear k3 H3
 have h4':CS w c.norm w4:=by rw [Cl.norm_eq];exact h4
 have H4:=Lib.hid h4'
 obtain⟨r1,r2,-⟩:=h4'.1.whole hln
 obtain⟨-,-,r3⟩:=h4'.2.1.whole len_cellZ
 clear h4 h4'
 go_wp2_with fail
 rw [rounds_succ]
 go_wp2_with fail
 have hp:=H4.out.2.1.put_all (l:=c.norm.vals) (by rw [len_cellZ,hln])
 obtain⟨p1,p2,-⟩:=hp.whole hln
 try simp only [Exit.inBlock,Exit.then]
 first | refine bodyPost_ret (ret_row (n:=55) rfl (by kernel_rfl) _ _ _ rfl ?_) rfl ?_ | refine bodyPost_end (ret_row (n:=55) rfl (by kernel_rfl) _ _ _ rfl ?_) rfl ?_
 ·exact p1
 ·exact⟨by rw [p2],Below.put H4.out.2.2.2 (by simp) _⟩
end Go.Proofs.YtdilbjikeilhbaaGreatDoor
