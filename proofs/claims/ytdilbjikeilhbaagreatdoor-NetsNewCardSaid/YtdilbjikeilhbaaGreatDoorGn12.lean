import Derived.Test.YtdilbjikeilhbaaGreatDoorGn11
import Derived.Test.YtdilbjikeilhbaaGreatDoorGn02
import Derived.WideKeyRuns
import Derived.MapKept
import Derived.Test.YtdilbjikeilhbaaGreatDoorGn06
import Derived.Test.YtdilbjikeilhbaaGreatDoorGn09
import Derived.RegionTactic
namespace Go.Proofs.YtdilbjikeilhbaaGreatDoor
open Go.RowKit
set_option linter.unusedVariables false
set_option linter.unusedSimpArgs false
theorem mk_mom:MakeOk Tryz.prog 325 363 [Value.slice none 0 0,.slice none 0 0,.slice none 0 0,.slice none 0 0]:=⟨Tryz.underlying325,by kernel_rfl,by decide⟩
@[go_sem ↓] theorem ms_mom (ρ:Operand→Value) (d:Option Tmp) (x y:Operand) (ty:TypeId) (s:String) (af:Array Edge) (g:Option (Nat×Bool)) (w:World) (h:madeOk (ρ x) (ρ y)=true) :
 (execOp ρ { dst:=d,op:=.makeSlice 325 x y,type:=ty,pos:=s,after:=af,guard:=g }).run Tryz.prog w =
   .ok (.value (.slice (some ⟨w.heap.size,0,none⟩) (lenV (ρ x)) (lenV (ρ x)))) (w.alloc (.cells (zrep [Value.slice none 0 0,.slice none 0 0,.slice none 0 0,.slice none 0 0] (lenV (ρ x))).toArray 363)):=exec_make mk_mom ρ d x y ty s af g w h
theorem zrep_mom (n:Nat) (G:Nat→Nat):zrep [Value.slice none 0 0,.slice none 0 0,.slice none 0 0,.slice none 0 0] (n+1)=momCells n 0 G:=by
 apply List.ext_getElem?
 intro k
 have hl:(zrep [Value.slice none 0 0,.slice none 0 0,.slice none 0 0,.slice none 0 0] (n+1)).length=(n+1)*4:=len_zrep _ _
 by_cases hk:k<4*(n+1)
 ·rw [momCells_at hk,if_neg (by omega),zrep_at (by simp) (n+1) k (by simp <;> omega)]
  have hc:k % 4=0∨k % 4=1∨k % 4=2∨k % 4=3:=by omega
  rcases hc with hc | hc | hc | hc <;> simp [hc]
 ·rw [List.getElem?_eq_none (by omega),List.getElem?_eq_none (by rw [momCells_len];omega)]
def NewLane (n me:Nat) (w:World) (e:Ending) (w':World):Prop:=
 ∃p gp,e=.returned (.tuple #[.pointer (some ⟨p,0,none⟩),.int .i64 0])∧LaneAt (fun b=>w.heap.size≤b∧b<w'.heap.size) w' p gp (fun _=>0) (LaneM.new n me)∧Below w.heap.size w w'
set_option maxRecDepth 100000 in
set_option maxHeartbeats 1000000 in
theorem new_ok (n me:Nat) (h4:4≤n) (h16:n≤16) (hm:me<n) (w:World):Calls Tryz.prog 85 #[.int .i64 n,.int .i64 me] w (NewLane n me w):=by
 have b1:decide ((n:Int)<4)=false:=by simp;omega
 have b2:decide (16<(n:Int))=false:=by simp;omega
 have b3:decide ((me:Int)<0)=false:=by simp
 have b4:decide (n≤me)=false:=by simp;omega
 have hmade:madeOk (.int .i64 ((n:Int)+1)) (.int .i64 ((n:Int)+1))=true:=by simp [madeOk];omega
 have hlen:lenV (.int .i64 ((n:Int)+1))=n+1:=by simp [lenV]
 go_enter Tryz.func85,Tryz.ntmps85
 go_wp2_with fail
 go_ret2
 rw [zrep_mom n (fun _=>0)]
 have hB:Below w.heap.size w ((w.alloc (.cells (momCells n 0 (fun _=>0)).toArray 363)).alloc (.cells (laneV (LaneM.new n me) w.heap.size).toArray 327)):=((Below.refl _ _).alloc (Nat.le_refl _) _).alloc (by simp) _
 have s1:(w.alloc (.cells (momCells n 0 (fun _=>0)).toArray 363)).heap.size=w.heap.size+1:=by simp
 have k0:=(Blk.new w 363 (momCells n 0 (fun _=>0)).toArray).alloc (.cells (laneV (LaneM.new n me) w.heap.size).toArray 327)
 have k1:=Blk.new (w.alloc (.cells (momCells n 0 (fun _=>0)).toArray 363)) 327 (laneV (LaneM.new n me) w.heap.size).toArray
 rw [s1] at k1
 refine⟨w.heap.size+1,w.heap.size,rfl,⟨k1,k0,fun k hk=>absurd hk.2 (by simp [LaneM.new]),?_,?_,fun k hk=>absurd hk.2 (by simp [LaneM.new]),fun k k' hk _ _=>absurd hk.2 (by simp [LaneM.new]),fun b hb=>hb.2,⟨h4,h16,hm⟩,LaneM.new_ok n me,LaneM.new_okT n me⟩,hB⟩
 ·exact⟨by omega,k1.lt⟩
 ·exact⟨Nat.le_refl _,k0.lt⟩
theorem part_flat {P:Program} {d:Nat} {t:TypeId} {k1:List Kd} {i:TypeInfo} (hk1:flatT P d t=some k1) (hi:P.info? t=some i) (hs:i.size=k1.length) (w:World) (Z:List Value) (o:Nat) (hz:okL k1 ((Z.drop o).take k1.length)=true) :
 (part t Z.toArray o).run P w=.ok (wrapV P t ((Z.drop o).take k1.length)) w:=by
 by_cases hle:o+k1.length≤Z.length
 ·exact run_part hk1 hi hs w Z o hle
 ·have hzl:=okL_len hz
  rw [List.length_take,List.length_drop] at hzl
  have hk0:k1.length=0:=by omega
  have hA:=run_isAggB w (flatT_under hk1)
  have hg:isAggB P t=true:=by
   cases hg:isAggB P t with
   | true=>rfl
   | false=>obtain⟨k,rfl⟩:=flatT_one hk1 hg;simp at hk0
  unfold part
  rw [Sem.run_bind,hA]
  simp only [Result.andThen_ok,hg,if_true,Sem.run_bind,sizeOf,typeInfo,hi,wrapV]
  simp [hi,hs,hk0]
theorem run_forU {P:Program} {α:Type} (body:α→PUnit→Sem (ForInStep PUnit)) (w:World):∀(l:List α),(∀x ∈ l,(body x PUnit.unit).run P w=.ok (.yield PUnit.unit) w)→(forIn l PUnit.unit body:Sem PUnit).run P w=.ok PUnit.unit w
 | [],_=>by simp
 | x :: l,h=>by
   have h1:=h x (by simp)
   have h2:=run_forU body w l (fun y hy=>h y (by simp [hy]))
   simp only [List.forIn_cons,Sem.run_bind,h1,Result.andThen_ok]
   exact h2
theorem check_fs {P:Program} {d e:Nat} {em:Bool} (IH:∀t ks,flatT P d t=some ks→∀(X:List Value) (w:World),okL ks X=true→(Instr.checkKey em e t (wrapV P t X)).run P w=.ok () w)
 (X:List Value) (w:World):∀(fs:List Field) (o:Nat) (ks:List Kd),flatFs P (flatT P d) o fs=some ks→okL ks (X.drop o)=true→
 ∀f ∈ fs,(do if f.name≠ "_" then Instr.checkKey em e f.type (←part f.type X.toArray f.offset):Sem Unit).run P w=.ok () w
 | [],o,ks,h,hx=>fun f hf=>by cases hf
 | f :: fs,o,ks,h,hx=>fun g hg=>by
   unfold flatFs at h
   split at h
   ·cases h
   ·rename_i hno
    simp only [not_or,ne_eq,Decidable.not_not] at hno
    obtain⟨hn,ho⟩:=hno
    split at h
    ·rename_i k1 i hk1 hi
     split at h
     ·rename_i hs
      rw [Option.map_eq_some_iff] at h
      obtain⟨k2,hk2,rfl⟩:=h
      obtain⟨hx1,hx2⟩:=okL_split hx
      rw [List.drop_drop] at hx2
      rcases List.mem_cons.1 hg with rfl | hg
      ·subst ho
       simp only [ne_eq,hn,not_false_eq_true,if_true,Sem.run_bind,part_flat hk1 hi hs w X _ hx1,Result.andThen_ok]
       exact IH _ k1 hk1 _ w hx1
      ·exact check_fs IH X w fs (o+k1.length) k2 hk2 hx2 g hg
     ·cases h
    ·cases h
theorem run_checkFlat {P:Program} (e:Nat) (em:Bool):∀(d:Nat) (t:TypeId) (ks:List Kd),flatT P d t=some ks→∀(X:List Value) (w:World),okL ks X=true→
 (Instr.checkKey em (e+d) t (wrapV P t X)).run P w=.ok () w
 | 0,t,ks,h,X,w,hx=>by simp [flatT] at h
 | d+1,t,ks,h,X,w,hx=>by
   have h0:=h
   unfold flatT at h
   cases hu:P.underlying t with
   | none=>simp [hu] at h
   | some u=>
     rw [hu] at h
     cases u <;> simp only [reduceCtorEq] at h
     case bool=>simp [←Nat.add_assoc,Instr.checkKey,run_underlying hu]
     case int k=>simp [←Nat.add_assoc,Instr.checkKey,run_underlying hu]
     case struct fs=>
      split at h
      ·cases h
      ·have hg:isAggB P t=true:=by simp [isAggB,hu]
       have hall:=check_fs (em:=em) (run_checkFlat e em d) X w fs.toList 0 ks h (by simpa using hx)
       have key:(forIn fs PUnit.unit (fun f _=>if f.name= "_" then pure (ForInStep.yield PUnit.unit) else do
        let y ←part f.type X.toArray f.offset
        (fun _=>ForInStep.yield PUnit.unit) <$> Instr.checkKey em (e+d) f.type y):Sem PUnit).run P w=.ok PUnit.unit w:=by
        rw [←Array.forIn_toList]
        refine run_forU _ w _ fun f hf=> ?_
        have h1:=hall f hf
        by_cases hn:f.name= "_"
        ·simp [hn]
        ·simp only [ne_eq,hn,not_false_eq_true,if_true,Sem.run_bind] at h1
         simp only [hn,if_false,Sem.run_bind]
         cases hp:(part f.type X.toArray f.offset).run P w with
         | ok v w'=>
           rw [hp,Result.andThen_ok] at h1
           simp [h1]
         | _=>rw [hp] at h1;cases h1
       simp only [wrapV,hg,if_true,←Nat.add_assoc]
       simp [Instr.checkKey,run_underlying hu,key]
     case array n el=>
      split at h
      ·rename_i k1 i hk1 hi
       split at h
       ·rename_i hs
        simp at h
        subst h
        have hg:isAggB P t=true:=by simp [isAggB,hu]
        have hc:P.cellsOf el=k1.length:=by simp [Program.cellsOf,hi,hs]
        have key:(forIn (List.range' 0 n) PUnit.unit (fun i _=>do
         let z ←sizeOf el
         let y ←part el X.toArray (i*z)
         (fun _=>ForInStep.yield PUnit.unit) <$> Instr.checkKey em (e+d) el y):Sem PUnit).run P w=.ok PUnit.unit w:=by
         refine run_forU _ w _ fun i hi'=> ?_
         have hin:i<n:=by simpa [List.mem_range'] using hi'
         have hz:okL k1 ((X.drop (i*k1.length)).take k1.length)=true:=by
          have e1:List.replicate n k1=List.replicate i k1++(k1 :: List.replicate (n - i - 1) k1):=by
           rw [←List.replicate_succ,List.replicate_append_replicate];congr 1;omega
          rw [e1,List.flatten_append,List.flatten_cons] at hx
          obtain⟨-,hx2⟩:=okL_split hx
          have e2:((List.replicate i k1).flatten).length=i*k1.length:=by simp
          rw [e2] at hx2
          exact (okL_split hx2).1
         have hsz:(sizeOf el).run P w=.ok k1.length w:=by simp [sizeOf,typeInfo,hi,hs]
         simp [hsz,part_flat hk1 hi hs w X _ hz,run_checkFlat e em d el k1 hk1 _ w hz]
        simp only [wrapV,hg,if_true,←Nat.add_assoc]
        simp [Instr.checkKey,run_underlying hu,key]
       ·cases h
      ·cases h
structure Ent where
 k:List Value
 v:Int
 b:Nat
def Ent.me (e:Ent):MapEntry:=⟨.agg e.k.toArray,.int .i64 e.v,e.b⟩
structure MapB (w:World) (g:Nat) (ks:List Kd) (es:List Ent) (clock:Nat):Prop where
 blk:w.heap[g]? =some (.map (es.map Ent.me).toArray clock)
 ok:∀e ∈ es,okL ks e.k=true
 born:∀e ∈ es,e.b<clock
 bs:es.Pairwise (fun a b=>a.b≠b.b)
 ks':es.Pairwise (fun a b=>a.k≠b.k)
open Classical in
noncomputable def findE (k:List Value):List Ent→Nat→Option (Nat×Ent)
 | [],_=>none
 | e :: es,i=>if e.k=k then some (i,e) else findE k es (i+1)
noncomputable def valE (es:List Ent) (k:List Value):Int:=match findE k es 0 with | some (_,e)=>e.v | none=>0
open Classical in
theorem run_findE {P:Program} {t:TypeId} {ks:List Kd} {d:Nat} (hf:flatT P d t=some ks) (hd:d≤10000) (hg:isAggB P t=true) (k:List Value) (hk:okL ks k=true) (w:World):∀(es:List Ent) (i:Nat),(∀e ∈ es,okL ks e.k=true)→
 (Instr.findAsking t (.agg k.toArray) (es.map Ent.me) i).run P w=.ok ((findE k es i).map fun p=>(p.1,.int .i64 p.2.v)) w
 | [],i,h=>by simp [Instr.findAsking,findE]
 | e :: es,i,h=>by
   have h1:=run_eqFlat (P:=P) (10000 - d) d t ks hf k e.k w hk (h e (by simp))
   rw [Nat.sub_add_cancel hd] at h1
   simp only [wrapV,hg,if_true] at h1
   have ih:=run_findE hf hd hg k hk w es (i+1) (fun x hx=>h x (by simp [hx]))
   have h2:(Op.equal t (.agg k.toArray) (.agg e.k.toArray)).run P w=.ok (decide (k=e.k)) w:=h1
   simp only [List.map_cons,Instr.findAsking,Ent.me,Sem.run_bind,h2,Result.andThen_ok]
   by_cases hke:k=e.k
   ·simp [hke,findE]
   ·simp only [hke,decide_false,Bool.false_eq_true,if_false]
    rw [findE,if_neg (fun h=>hke h.symm)]
    exact ih
theorem findE_at {k:List Value}:∀{es:List Ent} {i j:Nat} {e:Ent},findE k es i=some (j,e)→e.k=k∧i≤j∧es[j - i]? =some e
 | [],i,j,e,h=>by simp [findE] at h
 | x :: es,i,j,e,h=>by
   unfold findE at h
   split at h
   ·rename_i hx
    simp at h
    obtain⟨rfl,rfl⟩:=h
    exact⟨hx,Nat.le_refl _,by simp⟩
   ·obtain⟨h1,h2,h3⟩:=findE_at h
    refine⟨h1,by omega,?_⟩
    rw [show j - i=(j - (i+1))+1 from by omega]
    simpa using h3
theorem findE_none {k:List Value}:∀{es:List Ent} {i:Nat},findE k es i=none→∀e ∈ es,e.k≠k
 | [],i,h=>fun e he=>by cases he
 | x :: es,i,h=>fun e he=>by
   unfold findE at h
   split at h
   ·cases h
   ·rename_i hx
    rcases List.mem_cons.1 he with rfl | he
    ·exact hx
    ·exact findE_none h e he
theorem findE_shift {k:List Value}:∀{es:List Ent} (i j:Nat),(findE k es i).map (·.2)=(findE k es j).map (·.2)
 | [],i,j=>rfl
 | x :: es,i,j=>by
   unfold findE
   split
   ·rfl
   ·exact findE_shift _ _
theorem valE_eq (es:List Ent) (k:List Value) (i:Nat):valE es k=(((findE k es i).map (·.2)).map Ent.v).getD 0:=by
 rw [findE_shift i 0]
 unfold valE
 cases findE k es 0 with
 | none=>rfl
 | some p=>rfl
theorem valE_cons (e:Ent) (es:List Ent) (k:List Value) [Decidable (e.k=k)]:valE (e :: es) k=if e.k=k then e.v else valE es k:=by
 rw [valE_eq (e :: es) k 0,valE_eq es k 1]
 rw [findE]
 by_cases h:e.k=k <;> simp [h]
theorem valE_push (es:List Ent) (k0:List Value) (b:Nat) (k:List Value):valE (es++ [⟨k0,0,b⟩]) k=valE es k:=by
 induction es with
 | nil=>
   classical
   rw [List.nil_append,valE_cons]
   split <;> rfl
 | cons e es ih=>
   classical
   rw [List.cons_append,valE_cons,valE_cons,ih]
def setB (es:List Ent) (b:Nat) (v:Int):List Ent:=es.map fun e=>if e.b=b then { e with v:=v } else e
theorem setB_val (es:List Ent) (b:Nat) (v:Int) {e0:Ent} (h0:e0 ∈ es) (hb:e0.b=b) (hbs:es.Pairwise (fun a b=>a.b≠b.b)) (hks:es.Pairwise (fun a b=>a.k≠b.k)) (k:List Value) [Decidable (k=e0.k)] :
 valE (setB es b v) k=if k=e0.k then v else valE es k:=by
 classical
 induction es with
 | nil=>cases h0
 | cons e es ih=>
   rw [List.pairwise_cons] at hbs hks
   rw [setB,List.map_cons,valE_cons,valE_cons]
   rcases List.mem_cons.1 h0 with rfl | h0
   ·rw [if_pos hb]
    have hrest:setB es b v=es:=by
     unfold setB
     conv=>rhs;rw [←List.map_id es]
     refine List.map_congr_left fun x hx=> ?_
     rw [if_neg (fun h=>hbs.1 x hx (hb.trans h.symm))];rfl
    show (if e0.k=k then v else valE (setB es b v) k)=_
    rw [hrest]
    by_cases hk:e0.k=k
    ·rw [if_pos hk,if_pos hk.symm]
    ·rw [if_neg hk,if_neg (fun h=>hk h.symm),if_neg hk]
   ·have hne:e.b≠b:=fun h=>hbs.1 e0 h0 (h.trans hb.symm)
    have hkne:e.k≠e0.k:=hks.1 e0 h0
    rw [if_neg hne]
    have:=ih h0 hbs.2 hks.2
    rw [setB] at this
    rw [this]
    by_cases hk:k=e0.k
    ·rw [if_pos hk,if_neg (fun h=>hkne (h.trans hk))]
     rw [if_pos hk]
    ·rw [if_neg hk,if_neg hk]
open Go.ChangeMaps (setBlock)
theorem setBlock_at {w:World} {g:Nat} (o:Obj) (hg:g<w.heap.size):(setBlock w g o).heap[g]? =some o:=by
 simp [setBlock,hg]
theorem setBlock_far {w:World} {g b:Nat} (o:Obj) (hb:b≠g):(setBlock w g o).heap[b]? =w.heap[b]?:=by
 simp [setBlock,Array.getElem?_setIfInBounds]
 intro h;exact absurd h.symm hb
theorem sameBits_flat {ks:List Kd} {k:List Value} (h:okL ks k=true):Instr.sameBits 10000 (.agg k.toArray) (.agg k.toArray)=true:=by
 have:∀(ks:List Kd) (l:List Value),okL ks l=true→∀x ∈ l,Instr.sameBits 9999 x x=true:=by
  intro ks
  induction ks with
  | nil=>intro l h x hx;cases l with | nil=>cases hx | cons a b=>simp [okL] at h
  | cons kd ks ih=>
    intro l h x hx
    cases l with
    | nil=>cases hx
    | cons a l=>
      rw [okL,Bool.and_eq_true] at h
      rcases List.mem_cons.1 hx with rfl | hx
      ·have h0:=h.1
       cases kd <;> cases x <;> simp [okK] at h0 <;> simp [Instr.sameBits]
      ·exact ih l h.2 x hx
 have h2:=this ks k h
 simp only [Instr.sameBits,beq_self_eq_true,Bool.true_and]
 rw [List.all_eq_true]
 rintro⟨x,y⟩ hxy
 have hz:List.zip k k=k.map fun a=>(a,a):=by
  clear h h2 hxy this
  induction k with
  | nil=>rfl
  | cons a l ih=>simp [ih]
 have hxy':(x,y) ∈ List.zip k k:=hxy
 rw [hz] at hxy'
 obtain⟨a,ha,he⟩:=List.mem_map.1 hxy'
 cases he
 exact h2 x ha
section
variable {P:Program} {M kt et:TypeId} {ks:List Kd} {d:Nat}
theorem run_find (hf:flatT P d kt=some ks) (hd:d≤10000) (hg:isAggB P kt=true) {k:List Value} (hk:okL ks k=true) (w:World) (es:List Ent) (h:∀e ∈ es,okL ks e.k=true) :
 (Instr.findKey kt (.agg k.toArray) (es.map Ent.me)).run P w=.ok ((findE k es 0).map fun p=>(p.1,.int .i64 p.2.v)) w:=by
 have hw:(match P.underlying kt with | some (.array _ _) | some (.struct _)=>true | _=>false)=true:=by
  unfold isAggB at hg;split at hg <;> simp_all
 rw [run_findKey_eq w hw]
 exact run_findE hf hd hg k hk w es 0 h
theorem run_check (hf:flatT P d kt=some ks) (hd:d≤10000) (hg:isAggB P kt=true) {k:List Value} (hk:okL ks k=true) (w:World) (em:Bool):(Instr.checkKey em 10000 kt (.agg k.toArray)).run P w=.ok () w:=by
 have:=run_checkFlat (P:=P) (10000 - d) em d kt ks hf k w hk
 rw [Nat.sub_add_cancel hd] at this
 simpa only [wrapV,hg,if_true] using this
theorem run_look (hM:P.underlying M=some (.map kt et)) (hf:flatT P d kt=some ks) (hd:d≤10000) (hg:isAggB P kt=true) (hz:∀w,(zeroValue et).run P w=.ok (.int .i64 0) w) {k:List Value} (hk:okL ks k=true) {w:World} {g:Nat} {es:List Ent} {clock:Nat} (h:MapB w g ks es clock) :
 (Instr.lookup M (.map (some g)) (.agg k.toArray) false).run P w=.ok (.int .i64 (valE es k)) w:=by
 have h1:=run_find hf hd hg hk w es h.ok
 unfold Instr.lookup
 simp only [Sem.run_bind,run_underlying hM,Result.andThen_ok,MapKept.run_getObj_map h.blk,run_check hf hd hg hk w,List.toList_toArray,Sem.run_pure]
 rw [h1]
 simp only [Result.andThen_ok]
 unfold valE
 cases findE k es 0 with
 | none=>simp [hz w]
 | some p=>simp
theorem modify_same {es:List Ent} {i:Nat} {e:Ent} (hi:es[i]? =some e) (f:MapEntry→MapEntry) (hf:f e.me=e.me):(es.map Ent.me).toArray.modify i f=(es.map Ent.me).toArray:=by
 apply Array.ext_getElem?
 intro j
 rw [Array.getElem?_modify]
 by_cases hij:i=j
 ·subst hij
  rw [if_pos rfl]
  simp [hi,hf]
 ·rw [if_neg hij]
theorem run_entry (hM:P.underlying M=some (.map kt et)) (hf:flatT P d kt=some ks) (hd:d≤10000) (hg:isAggB P kt=true) (hz:∀w,(zeroValue et).run P w=.ok (.int .i64 0) w) {k:List Value} (hk:okL ks k=true) {w:World} {g:Nat} {es:List Ent} {clock:Nat} (h:MapB w g ks es clock) :
 ∃(b:Nat) (es1:List Ent) (clock1:Nat),(Instr.mapEntry M (.map (some g)) (.agg k.toArray)).run P w=.ok (.tuple #[.int .i64 (valE es k),.int .i64 b]) (setBlock w g (.map (es1.map Ent.me).toArray clock1))∧
  MapB (setBlock w g (.map (es1.map Ent.me).toArray clock1)) g ks es1 clock1∧(∀k',valE es1 k'=valE es k')∧∃e ∈ es1,e.b=b∧e.k=k:=by
 have hgl:g<w.heap.size:=by
  rcases Nat.lt_or_ge g w.heap.size with hlt | hge
  ·exact hlt
  ·have:=h.blk;rw [Array.getElem?_eq_none hge] at this;cases this
 have h1:=run_find hf hd hg hk w es h.ok
 cases hfe:findE k es 0 with
 | some p=>
   obtain⟨i,e⟩:=p
   obtain⟨hek,-,hei⟩:=findE_at hfe
   rw [Nat.sub_zero] at hei
   rw [hfe] at h1
   have hv:valE es k=e.v:=by unfold valE;rw [hfe]
   have hmi:(es.map Ent.me).toArray[i]? =some e.me:=by simp [hei]
   have hst:(Instr.keyThatStays (.agg k.toArray) (.agg k.toArray)).run P w=.ok (.agg k.toArray) w:=by
    unfold Instr.keyThatStays
    rw [if_pos (sameBits_flat hk)];rfl
   refine⟨e.b,es,clock,?_,⟨setBlock_at _ hgl,h.ok,h.born,h.bs,h.ks'⟩,fun _=>rfl,e,List.mem_of_getElem? hei,rfl,hek⟩
   have hke:e.me.key=.agg k.toArray:=by rw [←hek];rfl
   unfold Instr.mapEntry
   simp only [Sem.run_bind,run_underlying hM,Result.andThen_ok,MapKept.run_getObj_map h.blk,run_check hf hd hg hk w,List.toList_toArray,h1,Option.map_some,hmi,Option.getD_some,hke,hst]
   rw [MapKept.run_setObj_map _ h.blk,modify_same hei _ (by rw [←hke])]
   simp [hv,goInt,setBlock,Ent.me]
 | none=>
   rw [hfe] at h1
   have hno:=findE_none hfe
   have hv:valE es k=0:=by unfold valE;rw [hfe]
   have hz1:=hz w
   refine⟨clock,es++ [⟨k,0,clock⟩],clock+1,?_,⟨setBlock_at _ hgl,?_,?_,?_,?_⟩,fun k'=>valE_push es k clock k',⟨k,0,clock⟩,by simp,rfl,rfl⟩
   ·unfold Instr.mapEntry
    simp only [Sem.run_bind,run_underlying hM,Result.andThen_ok,MapKept.run_getObj_map h.blk,run_check hf hd hg hk w,List.toList_toArray,h1,Option.map_none,hz1]
    rw [MapKept.run_setObj_map _ h.blk]
    simp [hv,goInt,setBlock,Ent.me]
   ·intro e he
    rcases List.mem_append.1 he with he | he
    ·exact h.ok e he
    ·have:e=⟨k,0,clock⟩:=by simpa using he
     rw [this];exact hk
   ·intro e he
    rcases List.mem_append.1 he with he | he
    ·have:=h.born e he;omega
    ·have:e=⟨k,0,clock⟩:=by simpa using he
     rw [this];exact Nat.lt_succ_self _
   ·rw [List.pairwise_append]
    refine⟨h.bs,by simp,fun a ha b hb=> ?_⟩
    have:b=⟨k,0,clock⟩:=by simpa using hb
    rw [this]
    have:=h.born a ha
    intro e
    simp only at e
    omega
   ·rw [List.pairwise_append]
    refine⟨h.ks',by simp,fun a ha b hb=> ?_⟩
    have:b=⟨k,0,clock⟩:=by simpa using hb
    rw [this]
    exact hno a ha
theorem run_stamp {w:World} {g:Nat} {es:List Ent} {clock:Nat} (h:MapB w g ks es clock) {e:Ent} (he:e ∈ es) (v:Int) :
 (Instr.entryStore M (.map (some g)) (.int .i64 e.b) (.int .i64 v)).run P w=.ok () (setBlock w g (.map ((setB es e.b v).map Ent.me).toArray clock))∧
   MapB (setBlock w g (.map ((setB es e.b v).map Ent.me).toArray clock)) g ks (setB es e.b v) clock:=by
 have hgl:g<w.heap.size:=by
  rcases Nat.lt_or_ge g w.heap.size with hlt | hge
  ·exact hlt
  ·have:=h.blk;rw [Array.getElem?_eq_none hge] at this;cases this
 have hb:∀x:Ent,(if x.b=e.b then { x with v:=v } else x).b=x.b:=fun x=>by split <;> rfl
 have hkk:∀x:Ent,(if x.b=e.b then { x with v:=v } else x).k=x.k:=fun x=>by split <;> rfl
 refine⟨?_,⟨setBlock_at _ hgl,?_,?_,?_,?_⟩⟩
 ·unfold Instr.entryStore
  simp only [Sem.run_bind,MapKept.run_getObj_map h.blk,Result.andThen_ok]
  have hex:∃i,(es.map Ent.me).toArray.findIdx? (fun x=>(x.born:Int)==(e.b:Int))=some i∧∃x,es[i]? =some x∧x.b=e.b:=by
   cases hfi:(es.map Ent.me).toArray.findIdx? (fun x=>(x.born:Int)==(e.b:Int)) with
   | none=>
     exfalso
     rw [Array.findIdx?_eq_none_iff] at hfi
     have:=hfi e.me (by simp;exact⟨e,he,rfl⟩)
     simp [Ent.me] at this
   | some i=>
     refine⟨i,rfl,?_⟩
     rw [Array.findIdx?_eq_some_iff_getElem] at hfi
     obtain⟨hi,h2,-⟩:=hfi
     have hil:i<es.length:=by simpa using hi
     refine⟨es[i],List.getElem?_eq_getElem hil,?_⟩
     simp [Ent.me] at h2
     exact Int.ofNat.inj h2
  obtain⟨i,hi,x,hx,hxb⟩:=hex
  have hm:(es.map Ent.me).toArray.modify i (fun y=>{ y with val:=Value.int .i64 v })=((setB es e.b v).map Ent.me).toArray:=by
   apply Array.ext_getElem?
   intro j
   rw [Array.getElem?_modify]
   simp only [List.getElem?_toArray,List.getElem?_map,setB]
   by_cases hij:i=j
   ·subst hij
    simp [hx,hxb,Ent.me]
   ·rw [if_neg hij]
    cases hj:es[j]? with
    | none=>rfl
    | some y=>
      have hyb:y.b≠e.b:=by
       rw [←hxb]
       obtain⟨hil,rfl⟩:=List.getElem?_eq_some_iff.1 hx
       obtain⟨hjl,rfl⟩:=List.getElem?_eq_some_iff.1 hj
       have hp:=List.pairwise_iff_getElem.1 h.bs
       rcases Nat.lt_or_gt_of_ne hij with hlt | hlt
       ·exact fun hh=>hp i j hil hjl hlt hh.symm
       ·exact hp j i hjl hil hlt
      simp [hyb]
  have ha:(asInt (Value.int .i64 (e.b:Int))).run P w=.ok (e.b:Int) w:=by rfl
  simp only [ha,Result.andThen_ok,hi]
  rw [MapKept.run_setObj_map _ h.blk,hm]
  rfl
 ·intro x hx
  obtain⟨y,hy,rfl⟩:=List.mem_map.1 hx
  rw [hkk];exact h.ok y hy
 ·intro x hx
  obtain⟨y,hy,rfl⟩:=List.mem_map.1 hx
  rw [hb];exact h.born y hy
 ·unfold setB
  rw [List.pairwise_map]
  exact h.bs.imp (fun {a b} hab=>by rw [hb,hb];exact hab)
 ·unfold setB
  rw [List.pairwise_map]
  exact h.ks'.imp (fun {a b} hab=>by rw [hkk,hkk];exact hab)
end
end Go.Proofs.YtdilbjikeilhbaaGreatDoor
namespace Go.Proofs.YtdilbjikeilhbaaGreatDoor
open Go.RowKit
open Go.ChangeMaps (setBlock)
set_option linter.unusedVariables false
set_option linter.unusedSimpArgs false
theorem mapU:Tryz.prog.underlying 405=some (.map 131 3):=Tryz.underlying405
theorem flatCell:flatT Tryz.prog 6 131=some cellK:=by kernel_rfl
theorem aggCell:isAggB Tryz.prog 131=true:=by kernel_rfl
theorem zeroInt (w:World):(zeroValue 3).run Tryz.prog w=.ok (.int .i64 0) w:=by
 have h:(Tryz.prog.info? 3).bind (·.zero)=some (.int .i64 0):=by kernel_rfl
 cases hi:Tryz.prog.info? 3 with
 | none=>simp [hi] at h
 | some i=>
   simp [hi] at h
   simp [zeroValue,typeInfo,hi,h]
theorem look_cell {k:List Value} (hk:okL cellK k=true) {w:World} {g:Nat} {es:List Ent} {clock:Nat} (h:MapB w g cellK es clock) :
 (Instr.lookup 405 (.map (some g)) (.agg k.toArray) false).run Tryz.prog w=.ok (.int .i64 (valE es k)) w:=run_look mapU flatCell (by omega) aggCell zeroInt hk h
theorem MapB.of_block {w w':World} {g:Nat} {ks:List Kd} {es:List Ent} {clock:Nat} (h:MapB w g ks es clock) (hb:w'.heap[g]? =w.heap[g]?):MapB w' g ks es clock:=⟨hb.trans h.blk,h.ok,h.born,h.bs,h.ks'⟩
theorem MapB.lt {w:World} {g:Nat} {ks:List Kd} {es:List Ent} {clock:Nat} (h:MapB w g ks es clock):g<w.heap.size:=lt_of_some h.blk
theorem count_cell {k:List Value} (hk:okL cellK k=true) {w:World} {g:Nat} {es:List Ent} {clock:Nat} (h:MapB w g cellK es clock) :
 ∃(b:Nat) (w1 w2:World) (es2:List Ent) (clock2:Nat),(Instr.mapEntry 405 (.map (some g)) (.agg k.toArray)).run Tryz.prog w=.ok (.tuple #[.int .i64 (valE es k),.int .i64 b]) w1∧
  (Instr.lookup 405 (.map (some g)) (.agg k.toArray) false).run Tryz.prog w1=.ok (.int .i64 (valE es k)) w1∧
  (Instr.entryStore 405 (.map (some g)) (.int .i64 b) (.int .i64 (valE es k+1))).run Tryz.prog w1=.ok () w2∧
  MapB w2 g cellK es2 clock2∧valE es2 k=valE es k+1∧(∀k',k'≠k→valE es2 k'=valE es k')∧Chg (· =g) w w1∧Chg (· =g) w w2:=by
 obtain⟨b,es1,c1,h1,h2,h3,e,he1,rfl,he2⟩:=run_entry mapU flatCell (by omega) aggCell zeroInt hk h
 obtain⟨h4,h5⟩:=run_stamp (M:=405) (P:=Tryz.prog) h2 he1 (valE es k+1)
 have hg:=h.lt
 have hch:∀(w:World) (o:Obj),Chg (· =g) w (setBlock w g o):=fun w o=>⟨rfl,rfl,rfl,by simp [setBlock],fun b _ hn=>setBlock_far _ hn⟩
 refine⟨e.b,_,_,_,_,h1,?_,h4,h5,?_,fun k' hk'=> ?_,hch w _,(hch w _).trans (hch _ _)⟩
 ·rw [look_cell hk h2,h3]
 ·classical
  rw [setB_val _ _ _ he1 rfl h2.bs h2.ks',if_pos he2.symm]
 ·classical
  rw [setB_val _ _ _ he1 rfl h2.bs h2.ks',if_neg (fun h=>hk' (h.trans he2)),h3]
theorem new_map (w:World):MapB (w.alloc (.map #[] 0)) w.heap.size cellK [] 0:=⟨heap_alloc_new w _,by simp,by simp,.nil,.nil⟩
@[go_sem] theorem mk_map (w:World):(Instr.makeMap 405 none).run Tryz.prog w=.ok (.map (some w.heap.size)) (w.alloc (.map #[] 0)):=by
 simp [Instr.makeMap,newObj,Sem.run]
end Go.Proofs.YtdilbjikeilhbaaGreatDoor
namespace Go.Proofs.YtdilbjikeilhbaaGreatDoor
open Go.RowKit
set_option linter.unusedVariables false
set_option linter.unusedSimpArgs false
def hasC (l:List Rw) (k s:Nat):Option (List Value):=match l[k]? with
 | some r=>if r.is then (match r.t[s]? with | some h=>if h.is then some h.c else none | none=>none) else none
 | none=>none
open Classical in
noncomputable def cntL (s:Nat) (l:List Rw):Nat→List Value→Nat
 | 0,_=>0
 | k+1,c=>cntL s l k c+if k≠s∧hasC l k s=some c then 1 else 0
theorem cntL_le (s:Nat) (l:List Rw) (c:List Value):∀k,cntL s l k c≤k
 | 0=>Nat.le_refl _
 | k+1=>by
   have:=cntL_le s l c k
   unfold cntL
   split <;> omega
theorem cntL_mono (s:Nat) (l:List Rw) (c:List Value) {k:Nat}:∀{j:Nat},k≤j→cntL s l k c≤cntL s l j c
 | 0,h=>by have:k=0:=by omega
           subst this;exact Nat.le_refl _
 | j+1,h=>by
   by_cases hk:k=j+1
   ·subst hk;exact Nat.le_refl _
   ·have:=cntL_mono s l c (k:=k) (j:=j) (by omega)
    have h2:cntL s l (j+1) c≥cntL s l j c:=by
     show cntL s l j c+_≥_
     omega
    omega
theorem cntL_two (s:Nat) (l:List Rw) {c c':List Value} (hne:c≠c'):∀k,cntL s l k c+cntL s l k c'≤if s<k then k - 1 else k
 | 0=>by simp [cntL]
 | k+1=>by
   have ih:=cntL_two s l hne k
   unfold cntL
   by_cases hks:k=s
   ·subst hks
    simp only [ne_eq,not_true_eq_false,false_and,if_false,Nat.add_zero]
    split at ih <;> split <;> omega
   ·have:¬(hasC l k s=some c∧hasC l k s=some c'):=fun ⟨h1,h2⟩=>hne (by rw [h1] at h2;injection h2)
    by_cases h1:hasC l k s=some c
    ·have h2:¬(k≠s∧hasC l k s=some c'):=fun h2=>this ⟨h1,h2.2⟩
     rw [if_pos ⟨hks,h1⟩,if_neg h2]
     split at ih <;> split <;> omega
    ·rw [if_neg (fun h=>h1 h.2)]
     split <;> split at ih <;> split <;> omega
def MostP (n s:Nat) (l:List Rw) (M:Nat) (h:Hd):Prop:=(∃c,h=⟨true,c⟩∧okL cellK c=true∧n - 1<2*cntL s l M c)∨(h=hd0∧∀c,2*cntL s l M c≤n - 1)
theorem MostP.unique {n s:Nat} {l:List Rw} {M:Nat} (hs:s<n) (hM:M≤n) {h h':Hd} (p:MostP n s l M h) (p':MostP n s l M h'):h=h':=by
 rcases p with ⟨c,rfl,-,h1⟩ | ⟨rfl,h1⟩ <;> rcases p' with ⟨c',rfl,-,h2⟩ | ⟨rfl,h2⟩
 ·by_cases hc:c=c'
  ·rw [hc]
  ·have:=cntL_two s l hc M
   split at this <;> omega
 ·have:=h2 c;omega
 ·have:=h1 c';omega
 ·rfl
end Go.Proofs.YtdilbjikeilhbaaGreatDoor
