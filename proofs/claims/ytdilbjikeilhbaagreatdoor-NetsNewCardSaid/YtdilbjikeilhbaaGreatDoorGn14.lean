import Derived.Test.YtdilbjikeilhbaaGreatDoorGn13
import Derived.Test.YtdilbjikeilhbaaGreatDoorGn04
import Derived.WalkSpells
import Derived.WalkLawsBesides
import Derived.Outline
import Derived.Deep.QuietTactic
import Derived.BigQuiet
import Derived.Deep.Light
import Derived.Deep.RegionLaw
import Derived.Deep.RegionHeld3
import Derived.ArgAppend
namespace Go.Proofs.YtdilbjikeilhbaaGreatDoor
open Go.RowKit
set_option linter.unusedVariables false
set_option linter.unusedSimpArgs false
theorem agmay_any (n:Int) (w:World):Calls Tryz.prog 135 #[.int .i64 n] w fun e w'=>e=.returned (.bool (decide (4≤n)&&decide (n≤16)))∧w=w':=by
 by_cases h:4≤n
 all_goals
  go_enter Tryz.func135,Tryz.ntmps135
  go_wp2
  go_ret
  refine⟨?_,rfl⟩
  first | (rw [show decide (4≤n)=true from by simp;omega];simp) | (rw [show decide (4≤n)=false from by simp;omega];simp)
theorem agis_any (n:Int) (w:World):Calls Tryz.prog 149 #[.int .i64 n] w fun e w'=>e=.returned (.bool (okI n))∧w=w':=by
 by_cases h:0≤n
 all_goals
  go_enter Tryz.func149,Tryz.ntmps149
  go_wp2
  go_ret
  refine⟨?_,rfl⟩
  first | (rw [okI,show decide (0≤n)=true from by simp;omega];simp) | (rw [okI,show decide (0≤n)=false from by simp;omega];simp)
theorem app_ages:AppOk Tryz.prog 367 2 1:=appOk_of Tryz.underlying367 (by kernel_rfl)
def AgV (W:World) (g:Nat) (xs:List Int) (w:World):Prop:=
 ∃v,Blk w g 367 #[v]∧w.ownsRow W.heap.size 2 1 v xs.length (xs.map (Value.int .i64))∧Below W.heap.size W w∧W.heap.size≤g
theorem AgV.start (W:World):AgV W W.heap.size [] (W.alloc (.cells #[.slice none 0 0] 367)):=
 ⟨_,Blk.new _ _ _,World.ownsRow_nil _ _ _ _,(Below.refl _ _).alloc (Nat.le_refl _) _,Nat.le_refl _⟩
theorem AgV.below {W:World} {g:Nat} {xs:List Int} {w w':World} (h:AgV W g xs w) (hb:Below w.heap.size w w'):AgV W g xs w':=by
 obtain⟨v,h1,h2,h3,h4⟩:=h
 exact⟨v,h1.below hb h1.lt,own_block h2 (fun k hk=>hb.block k (h2.lt k hk).2),below_trans h3 hb,h4⟩
where below_trans {W w w' : World} (h3 : Below W.heap.size W w) (hb : Below w.heap.size w w') : Below W.heap.size W w' := h3.trans (hb.mono h3.size)
theorem hd_cell1 {h:Hd} (hk:h.ok):h.vals.all cell1=true:=by
 have:=okL_cell1 hk
 simp only [Hd.vals,List.all_cons,this,Bool.and_true];rfl
theorem rdHs_take {S:Nat→Prop} {w:World} {x:Option Addr} {m:Nat} {l:List Hd} (h:RdHs S w x m l) {k:Nat} (hk:k≤m):RdHs S w x k (l.take k):=
 ⟨by rw [List.length_take,h.1];omega,fun y hy=>h.2.1 y (List.mem_of_mem_take hy),fun j y hj=>by
   rw [List.getElem?_take] at hj
   split at hj
   ·exact h.2.2 j y hj
   ·cases hj⟩
theorem own_slice {w:World} {base:Nat} {e:TypeId} {size:Nat} {v:Value} {n:Nat} {xs:List Value} (h:w.ownsRow base e size v n xs):∃a cap,v=.slice a n cap:=by
 rcases h.2 with ⟨rfl,rfl⟩ | ⟨g,cap,cur,rfl,-⟩
 ·exact⟨_,_,rfl⟩
 ·exact⟨_,_,rfl⟩
theorem own_nn {w:World} {base:Nat} {e:TypeId} {size:Nat} {v:Value} {n:Nat} {xs:List Value} (h:w.ownsRow base e size v n xs) (hn:0<n):v≠ .slice none 0 0:=by
 rcases h.2 with ⟨rfl,h0⟩ | ⟨g,cap,cur,rfl,-⟩
 ·omega
 ·simp
theorem blk_held {w:World} {g:Nat} {is:Bool} {n:Int} {r:List Value} (h:Blk w g 204 (Value.bool is :: .int .i64 n :: r).toArray):w.cell? ⟨g,0,none⟩=some (.bool is)∧w.cell? ⟨g,1,none⟩=some (.int .i64 n):=by
 rw [h.cell,h.cell];simp
set_option maxRecDepth 100000 in
set_option maxHeartbeats 1000000 in
theorem add_any (W:World) (g:Nat) (xs:List Int) (h:Hd) (hok:h.ok) (w:World) (hv:AgV W g xs w) (hx:xs.length≤1000) :
 Calls Tryz.prog 146 #[.pointer (some ⟨g,0,none⟩),.agg h.vals.toArray] w fun e w'=>e=.returned (.tuple #[])∧AgV W g (xs++oneAge h) w':=by
 obtain⟨is,c⟩:=h
 obtain⟨n,r,rfl,hn0,hn1⟩:=cell_age hok
 have hlr:r.length=54:=by have:=Hd.ok_len hok;simpa using this
 simp only [Hd.vals]
 have hbx:Blk (w.alloc (.cells (Value.bool is :: .int .i64 n :: r).toArray 204)) w.heap.size 204 (Value.bool is :: .int .i64 n :: r).toArray:=Blk.new _ _ _
 have hv1:AgV W g xs (w.alloc (.cells (Value.bool is :: .int .i64 n :: r).toArray 204)):=hv.below ((Below.refl _ _).alloc (Nat.le_refl _) _)
 have e1:oneAge ⟨is,.int .i64 n :: r⟩=if is&&okI n then [n] else []:=by simp [oneAge,okAge,ageL]
 rw [e1]
 obtain⟨hc0,hc1⟩:=blk_held hbx
 clear hv
 cases his:(is&&okI n) with
 | false=>
   have HV:=Lib.hid hv1
   clear hv1 hbx e1
   cases is with
   | false=>
     go_enter Tryz.func146,Tryz.ntmps146
     go_wp2_with fail
     generalize w.alloc (.cells (Value.bool false :: .int .i64 n :: r).toArray 204)=w1 at *
     go_end0
     exact⟨rfl,by simpa using HV.out⟩
   | true=>
     have hn:okI n=false:=by simpa using his
     go_enter Tryz.func146,Tryz.ntmps146
     go_wp2_with fail
     refine (agis_any n _).mono ?_
     rintro e w2 ⟨rfl,rfl⟩
     go_wp2_with fail
     go_end0
     exact⟨rfl,by simpa using HV.out⟩
 | true=>
   obtain⟨rfl,hn⟩:is=true∧okI n=true:=by simpa using his
   go_enter Tryz.func146,Tryz.ntmps146
   go_wp2_with fail
   refine (agis_any n _).mono ?_
   rintro e w2 ⟨rfl,rfl⟩
   obtain⟨v,h1,h2,h3,h4⟩:=hv1
   have hsz:w.heap.size<(w.alloc (.cells (Value.bool true :: .int .i64 n :: r).toArray 204)).heap.size:=hbx.lt
   generalize w.alloc (.cells (Value.bool true :: .int .i64 n :: r).toArray 204)=w1 at *
   have d0:w1.cell? ⟨g,0,none⟩=some v:=h1.cell 0
   have d1:w1.frozen? ⟨g,0,none⟩=false:=h1.frozen 0
   have hne:=own_not h2 h1 (by decide)
   have hgl:=h1.lt
   have hWl:=h3.size
   have HH:=Lib.hid (And.intro h1 (And.intro h2 (And.intro h3 (And.intro h4 (And.intro hne hbx)))))
   clear h1 h2 h3 h4 hne hbx his
   go_upto_region 2 with fail
   go_region_law (first
    | (refine step_app app_ages (by rfl) (.tmp 15) (.tmp 19) (by rfl) W.heap.size _ _ _ (by rfl) ((HH.out.2.1.alloc _).drew) ⟨w1.heap.size,0,none⟩ 1 1 [.int .i64 n] (by rfl) (by simp)
        (hasRow_new w1 _ _ 0 1 (by simp)) ((rowOf_new w1 _ _ 0 1 (by simp)).trans rfl) (by simp [cell1]) (by omega) (by omega) (by simp;omega) ?_;intro gg cap' w3 hown1 hgrow;have HB1:Hid (Blk w3 g 367 #[v]):=Lib.hid ((hgrow.block g (by simp;omega) (fun h=>HH.out.2.2.2.2.1 h.symm)).trans ((HH.out.1.alloc _).drew));have q0:w3.cell? ⟨g,0,none⟩=some v:=HB1.out.cell 0;have q1:w3.frozen? ⟨g,0,none⟩=false:=HB1.out.frozen 0))
   all_goals
    have HX:Hid (AgV W g (xs++ [n]) (w3.setCell ⟨g,0,none⟩ (.slice (some ⟨gg,0,none⟩) (xs.length+1) cap'))):=Lib.hid (by
     have hn1:=own_not hown1 HB1.out (by decide)
     have hb2:Blk (w3.setCell ⟨g,0,none⟩ (.slice (some ⟨gg,0,none⟩) (xs.length+1) cap')) g 367 #[.slice (some ⟨gg,0,none⟩) (xs.length+1) cap']:=by simpa using HB1.out.set_ 0 (.slice (some ⟨gg,0,none⟩) (xs.length+1) cap')
     have hB3:Below W.heap.size W w3:=(HH.out.2.2.1.alloc hWl _).drew.grown hgrow (by simp;omega) (fun k hk=>(HH.out.2.1.lt k hk).1)
     refine⟨_,hb2,?_,hB3.setCell (p:=⟨g,0,none⟩) HH.out.2.2.2.1 _,HH.out.2.2.2.1⟩
     refine own_block ?_ (fun k hk=>Below.heap_setCell _ _ _ _ (fun h=>hn1 (by rw [hk,h])))
     simpa using hown1)
    clear hown1 hgrow HB1 q0 q1 d0 d1 hc0 hc1 HH
    go_wp2_with fail
    go_end0
    exact⟨rfl,HX.out⟩
end Go.Proofs.YtdilbjikeilhbaaGreatDoor
namespace Go.Proofs.YtdilbjikeilhbaaGreatDoor
open Go.RowKit
set_option linter.unusedVariables false
set_option linter.unusedSimpArgs false
def RmV (B:Nat) (w:World) (e:TypeId) (v:Value) (xs:List Value):Prop:=
 (v=.slice none 0 0∧xs=[])∨∃g off cap cur,v=.slice (some ⟨g,off,none⟩) xs.length cap∧B≤g∧Blk w g e cur∧off+cap≤cur.size∧xs.length≤cap∧cap≤maxLen∧∀(j:Nat) (u:Value),xs[j]? =some u→cur[off+j]? =some u
theorem RmV.nil (B:Nat) (w:World) (e:TypeId):RmV B w e (.slice none 0 0) []:=.inl ⟨rfl,rfl⟩
theorem RmV.of_own {B:Nat} {w:World} {e:TypeId} {v:Value} {n:Nat} {xs:List Value} (h:w.ownsRow B e 1 v n xs):RmV B w e v xs:=by
 have hl:xs.length=n:=by have:=h.1;omega
 rcases h.2 with ⟨rfl,h0⟩ | ⟨g,cap,cur,rfl,h1,h2,h3,h4,h5,h6⟩
 ·exact .inl ⟨rfl,List.eq_nil_of_length_eq_zero (by omega)⟩
 ·subst hl
  refine .inr ⟨g,0,cap,cur,rfl,h1,h2,by omega,h3,h4,fun j u hj=> ?_⟩
  have hjl:j<xs.length:=(List.getElem?_eq_some_iff.1 hj).1
  rw [←h6,List.getElem?_take,if_pos (by omega)] at hj
  simpa using hj
theorem RmV.lt {B:Nat} {w:World} {e:TypeId} {v:Value} {xs:List Value} (h:RmV B w e v xs):∀k,v.ownBlock=some k→B≤k∧k<w.heap.size:=fun k hk=>by
 rcases h with ⟨rfl,-⟩ | ⟨g,off,cap,cur,rfl,h1,h2,-⟩
 ·cases hk
 ·simp only [Value.ownBlock,Option.some.injEq] at hk
  subst hk
  exact⟨h1,h2.lt⟩
theorem RmV.block {B:Nat} {w w':World} {e:TypeId} {v:Value} {xs:List Value} (h:RmV B w e v xs) (hb:∀k,v.ownBlock=some k→w'.heap[k]? =w.heap[k]?):RmV B w' e v xs:=by
 rcases h with h | ⟨g,off,cap,cur,rfl,h1,h2,h3⟩
 ·exact .inl h
 ·exact .inr ⟨g,off,cap,cur,rfl,h1,(hb g rfl).trans h2,h3⟩
theorem RmV.not_ {B:Nat} {w:World} {e t:TypeId} {v:Value} {xs:List Value} {g:Nat} {cs:Array Value} (h:RmV B w e v xs) (hg:Blk w g t cs) (hne:e≠t):v.ownBlock≠some g:=by
 rcases h with ⟨rfl,-⟩ | ⟨g',off,cap,cur,rfl,h1,h2,-⟩
 ·simp [Value.ownBlock]
 ·intro he
  simp only [Value.ownBlock,Option.some.injEq] at he
  subst he
  exact Blk.ne_ h2 hg hne rfl
theorem RmV.at1 {B:Nat} {w:World} {e:TypeId} {v:Value} {xs:List Value} (h:RmV B w e v xs) (hn:0<xs.length):∃g off cap,v=.slice (some ⟨g,off,none⟩) xs.length cap∧xs.length≤cap∧cap≤maxLen∧g<w.heap.size∧∀(j:Nat) (u:Value),xs[j]? =some u→w.cell? ⟨g,off+j,none⟩=some u:=by
 rcases h with ⟨rfl,rfl⟩ | ⟨g,off,cap,cur,rfl,h1,h2,h3,h4,h5,h6⟩
 ·simp at hn
 ·exact⟨g,off,cap,rfl,h4,h5,h2.lt,fun j u hj=>by rw [h2.cell];exact h6 j u hj⟩
theorem RmV.drop {B:Nat} {w:World} {e:TypeId} {g off n cap:Nat} {xs:List Value} (h:RmV B w e (.slice (some ⟨g,off,none⟩) n cap) xs) {k:Nat} (hk:k≤xs.length):RmV B w e (.slice (some ⟨g,off+k,none⟩) (xs.length - k) (xs.length - k)) (xs.drop k):=by
 rcases h with ⟨h,-⟩ | ⟨g',off',cap',cur,he,h1,h2,h3,h4,h5,h6⟩
 ·cases h
 ·cases he
  refine .inr ⟨g,off+k,xs.length - k,cur,by rw [List.length_drop],h1,h2,by omega,by rw [List.length_drop];omega,by omega,fun j u hj=> ?_⟩
  rw [List.getElem?_drop] at hj
  have:=h6 _ u hj
  rwa [←Nat.add_assoc] at this
theorem run_appR {P:Program} {t e:TypeId} (hA:AppOk P t e 1) {B:Nat} {w:World} (hB:B≤w.heap.size) (ty:TypeId) {v:Value} {xs:List Value} (h:RmV B w e v xs) (ad:Addr) (c:Nat) (x:Value) (hx:w.cell? ad=some x) (h1:cell1 x=true) (hn:xs.length≤100000000) :
 ∃v' w',(Builtin.append_ #[t,t] ty #[v,.slice (some ad) 1 c]).run P w=.ok v' w'∧RmV B w' e v' (xs++ [x])∧w.grownBy w' v.ownBlock∧(v'.ownBlock=v.ownBlock∨v'.ownBlock=some w.heap.size∨∀k,v'.ownBlock=some k→w.heap.size≤k):=by
 obtain⟨ht,i,z,hi,hz,hsize,hby,hzs,hsz⟩:=hA
 have hnews:∀(j:Nat) (u:Value),[x][j]? =some u→w.cell? (ad.add j)=some u:=fun j u hj=>by
  cases j with
  | zero=>simp at hj;subst hj;simpa [Addr.add] using hx
  | succ j=>simp at hj
 have h1':∀u ∈ [x],u.oneCell'=true:=fun u hu=>by simp at hu;subst hu;exact cell1_one h1
 have hby2:∀n,n≤1000000000→n*i.bytes≤140737488355328:=fun n hn=>Nat.le_trans (Nat.mul_le_mul hn hby) (by omega)
 have grown:∀{v' w'},w'.ownsRow w.heap.size e 1 v' (xs.length+1) (xs++ [x])→w.grownBy w' none→RmV B w' e v' (xs++ [x])∧w.grownBy w' v.ownBlock∧(v'.ownBlock=v.ownBlock∨v'.ownBlock=some w.heap.size∨∀k,v'.ownBlock=some k→w.heap.size≤k):=fun {v' w'} ho hg=>by
  refine⟨?_,⟨hg.os,hg.tape,hg.output,hg.size,fun k hk _=>hg.block k hk (by simp)⟩,.inr (.inr fun k hk=>(ho.lt k hk).1)⟩
  rcases RmV.of_own ho with h | ⟨g,off,cap,cur,h2,h3,h4⟩
  ·exact .inl h
  ·exact .inr ⟨g,off,cap,cur,h2,by omega,h4⟩
 rcases h with ⟨rfl,rfl⟩ | ⟨g,off,cap,cur,rfl,g1,g2,g3,g4,g5,g6⟩
 ·obtain⟨v',w',r1,r2,r3,-⟩:=run_append_own (P:=P) w w.heap.size t ty e i z 1 i.bytes ht hi hz hsize rfl hzs hsz (.slice none 0 0) 0 [] (World.ownsRow_nil w _ e 1) ad 1 c [x] rfl hnews h1' (by simp [maxLen]) (hby2 _ (by omega)) (Nat.le_refl _)
  exact⟨v',w',r1,grown r2 r3⟩
 ·by_cases hroom:xs.length+1≤cap
  ·have hf:w.frozen? ⟨g,off+xs.length,none⟩=false:=g2.frozen _
   have hcl:(w.cell? ⟨g,off+xs.length,none⟩).isSome=true:=by
    rw [g2.cell,Array.getElem?_eq_getElem (by omega)];rfl
   have hr:=run_append_room_cells (P:=P) w t ty e i ht hi g off xs.length cap ad 1 c [x] (by simp [hsize]) hnews h1' hroom (fun j hj=>by simp at hj;subst hj;simpa [hsize] using hcl) (fun j hj=>by simp at hj;subst hj;simpa [hsize] using hf)
   refine⟨_,_,hr,?_,?_,.inl rfl⟩
   ·have hb:=g2.set_ (off+xs.length) x
    have e:w.setCells g (off+xs.length*i.size) [x]=w.setCell ⟨g,off+xs.length,none⟩ x:=by simp [World.setCells,hsize]
    rw [e]
    refine .inr ⟨g,off,cap,_,by simp,g1,hb,by simpa using g3,by simpa using hroom,g5,fun j u hj=> ?_⟩
    rw [Array.getElem?_setIfInBounds]
    by_cases hj1:j<xs.length
    ·rw [List.getElem?_append_left hj1] at hj
     rw [if_neg (by omega)]
     exact g6 j u hj
    ·have:j=xs.length:=by
      have:=(List.getElem?_eq_some_iff.1 hj).1
      simp at this;omega
     subst this
     simp at hj
     subst hj
     rw [if_pos rfl,if_pos (by omega)]
   ·have e:w.setCells g (off+xs.length*i.size) [x]=w.setCell ⟨g,off+xs.length,none⟩ x:=by simp [World.setCells,hsize]
    rw [e]
    exact⟨rfl,rfl,rfl,by simp,fun k hk hne=>Below.heap_setCell _ _ _ _ (by rintro rfl;exact hne rfl)⟩
  ·obtain⟨v',w',r1,r2,r3⟩:=run_append_arg_grows (P:=P) w t ty e i z 1 i.bytes ht hi hz hsize rfl hzs hsz ⟨g,off,none⟩ xs.length cap xs (by omega) (fun j u hj=>by rw [add_at,g2.cell];exact g6 j u hj) ad 1 c [x] rfl hnews (by omega) (by simp [maxLen];omega) (hby2 _ (by omega))
   exact⟨v',w',r1,grown r2 r3⟩
theorem wpList_appR {P:Program} {t e:TypeId} (hA:AppOk P t e 1) {B:Nat} {w:World} {ops:Array Oper} {rest:List Oper} {o:Oper} {a:Act} {Q:Exit→Act→World→Prop} (hgd:o.guard=none) (s x:Operand)
 (ho:o.op=.call { callee:=.builtin .append,args:=#[s,x],argTypes:=#[t,t] })
 (hB:B≤w.heap.size) (v:Value) (xs:List Value) (hs:a.eval s=v) (h:RmV B w e v xs) (ad:Addr) (c:Nat) (y:Value) (hx:a.eval x=.slice (some ad) 1 c) (hy:w.cell? ad=some y) (h1:cell1 y=true) (hn:xs.length≤100000000)
 (hK:∀v' w',RmV B w' e v' (xs++ [y])→w.grownBy w' v.ownBlock→(v'.ownBlock=v.ownBlock∨v'.ownBlock=some w.heap.size∨∀k,v'.ownBlock=some k→w.heap.size≤k)→wpList P ops Q rest (a.put o.dst v') w'):wpList P ops Q (o :: rest) a w:=by
 refine wpList_plain hgd fun K hK'=> ?_
 obtain⟨v',w',hrun,r1,r2,r3⟩:=run_appR hA hB o.type h ad c y hy h1 hn
 unfold Oper.wp execOp
 simp only [ho,resolve,invoke,builtin,Sem.run_bind,Sem.run_pure,Result.andThen_ok,List.map_toArray,List.map_cons,List.map_nil,hs,hx,hrun]
 exact hK' _ _ (hK v' w' r1 r2 r3)
end Go.Proofs.YtdilbjikeilhbaaGreatDoor
