import Derived.Test.YtdilbjikeilhbaaGreatDoorGn39
namespace Go.Proofs.YtdilbjikeilhbaaGreatDoor
open Go.RowKit
set_option linter.unusedVariables false
set_option linter.unusedSimpArgs false
section
variable (ρ:Operand→Value) (d:Option Tmp) (x0 x1 x2 x3:Operand) (ty:TypeId) (s:String) (af:Array Edge) (g:Option (Nat×Bool)) (w:World)
theorem ag_wordN:aggOf Tryz.prog 61 1=true:=by kernel_rfl
@[go_sem ↓] theorem ld_wordN (h:hasRowV w 1 (ρ x0)=true):(execOp ρ { dst:=d,op:=.load 61 x0,type:=ty,pos:=s,after:=af,guard:=g }).run Tryz.prog w=.ok (.value (.agg (rowV w 1 (ρ x0)).toArray)) w:=exec_load ag_wordN ρ d x0 ty s af g w h
@[go_sem ↓] theorem st_wordN (h1:okAgg 1 (ρ x1)=true) (h2:canPutV w 1 (ρ x0)=true):(execOp ρ { dst:=d,op:=.store 61 x0 x1,type:=ty,pos:=s,after:=af,guard:=g }).run Tryz.prog w=.ok .skip (putV w (ρ x0) (ρ x1)):=exec_store ag_wordN ρ d x0 x1 ty s af g w h1 h2
theorem bt_insN:buildT Tryz.prog 269 [.slice none 0 0,.slice none 0 0,.slice none 0 0,.slice none 0 0] [(0,1),(1,1),(2,1),(3,1)]:=⟨by kernel_rfl,by kernel_rfl⟩
theorem one_cellN {v:Value} (h:lenC v 1=true):∃u,cellsL v=[u]:=List.length_eq_one_iff.1 (by simpa [lenC] using h)
@[go_sem ↓] theorem bd_insN (h0:lenC (ρ x0) 1=true) (h1:lenC (ρ x1) 1=true) (h2:lenC (ρ x2) 1=true) (h3:lenC (ρ x3) 1=true) :
 (execOp ρ { dst:=d,op:=.build 269 #[(0,x0),(1,x1),(2,x2),(3,x3)],type:=ty,pos:=s,after:=af,guard:=g }).run Tryz.prog w=.ok (.value (.agg (cellsL (ρ x0)++(cellsL (ρ x1)++(cellsL (ρ x2)++cellsL (ρ x3)))).toArray)) w:=by
 obtain⟨u0,e0⟩:=one_cellN h0
 obtain⟨u1,e1⟩:=one_cellN h1
 obtain⟨u2,e2⟩:=one_cellN h2
 obtain⟨u3,e3⟩:=one_cellN h3
 refine exec_build ρ d _ ty s af g w ?_
 simp only [List.map_toArray,List.map_cons,List.map_nil]
 rw [built_of bt_insN,fill_one _ _ 0 0 1 _ _ rfl (by rw [e0];rfl) (by simp),e0,fill_one _ _ 1 1 1 _ _ rfl (by rw [e1];rfl) (by simp [spl]),e1,fill_one _ _ 2 2 1 _ _ rfl (by rw [e2];rfl) (by simp [spl]),e2,fill_one _ _ 3 3 1 _ _ rfl (by rw [e3];rfl) (by simp [spl]),e3,fill_nil]
 rfl
theorem spl_headN {a T l:List Value} (h:a.length=l.length):spl (a++T) 0 l=l++T:=by simp [spl,←h]
theorem bt_cellN:buildT Tryz.prog 131 cellZ [(0,1),(1,6),(7,6),(13,42)]:=⟨by kernel_rfl,by kernel_rfl⟩
@[go_sem ↓] theorem bd_cellN (h0:lenC (ρ x0) 1=true) (h1:lenC (ρ x1) 6=true) (h2:lenC (ρ x2) 6=true) (h3:lenC (ρ x3) 42=true) :
 (execOp ρ { dst:=d,op:=.build 131 #[(0,x0),(1,x1),(2,x2),(3,x3)],type:=ty,pos:=s,after:=af,guard:=g }).run Tryz.prog w=.ok (.value (.agg (cellsL (ρ x0)++(cellsL (ρ x1)++(cellsL (ρ x2)++cellsL (ρ x3)))).toArray)) w:=by
 obtain⟨u0,e0⟩:=one_cellN h0
 have e1:(cellsL (ρ x1)).length=6:=by simpa [lenC] using h1
 have e2:(cellsL (ρ x2)).length=6:=by simpa [lenC] using h2
 have e3:(cellsL (ρ x3)).length=42:=by simpa [lenC] using h3
 have hz:cellZ.length=55:=rfl
 refine exec_build ρ d _ ty s af g w ?_
 simp only [List.map_toArray,List.map_cons,List.map_nil]
 rw [built_of bt_cellN,fill_one _ _ 0 0 1 _ _ rfl (by rw [e0];rfl) (by rw [hz];omega),e0,show spl cellZ 0 [u0]=[u0] ++(saidZ++(saidZ++viewZ)) from rfl,fill_one _ _ 1 1 6 _ _ rfl e1 (by simp [len_viewZ,saidZ])]
 generalize cellsL (ρ x1)=l1 at e1 ⊢
 rw [show spl ([u0] ++(saidZ++(saidZ++viewZ))) 1 l1=([u0] ++l1)++(saidZ++viewZ) from ((spl_app (k:=0) rfl).trans (congrArg _ (spl_headN (by rw [e1];rfl)))).trans (List.append_assoc _ _ _).symm,fill_one _ _ 2 7 6 _ _ rfl e2 (by simp [len_viewZ,saidZ,e1])]
 generalize cellsL (ρ x2)=l2 at e2 ⊢
 rw [show spl (([u0] ++l1)++(saidZ++viewZ)) 7 l2=(([u0] ++l1)++l2)++viewZ from ((spl_app (n:=7) (k:=0) (by simp [e1])).trans (congrArg _ (spl_headN (by rw [e2];rfl)))).trans (List.append_assoc _ _ _).symm,fill_one _ _ 3 13 42 _ _ rfl e3 (by simp [len_viewZ,e1,e2])]
 generalize cellsL (ρ x3)=l3 at e3 ⊢
 have e5:spl ((([u0] ++l1)++l2)++(viewZ++ [])) 13 l3=(([u0] ++l1)++l2)++(l3++ []):=(spl_app (n:=13) (k:=0) (by simp [e1,e2])).trans (congrArg _ (spl_headN (by rw [len_viewZ,e3])))
 rw [List.append_nil,List.append_nil] at e5
 rw [e5,fill_nil]
 simp
end
section
variable {S I:Nat→Prop} {A:CfA} {qt:Nat} {K:NdK} {w0 w w':World} {P:NP} {D:NPd} {x:NdS}
theorem NdX.far (h:NdX S I A qt K w0 P D x w) {g:Nat} (hc:Chg (· =g) w w') (hf:Free I D w g) (hg:w0.heap.size≤g):NdX S I A qt K w0 P D x w':=by
 obtain⟨h1,h2⟩:=h.netT hc (by rintro b rfl;exact .inr hg)
 have hn:∀{b:Nat} {t:TypeId} {cs:Array Value},Blk w b t cs→I b→Blk w' b t cs:=fun hb hi=>hb.chg hc (by rintro rfl;exact hf.2.1 hi)
 exact⟨h1,hn h.nd h.own.inb,hn h.pw h.own.ipb,laneKeepC h.lane hc (by rintro b hb rfl;exact hf.2.2.1 hb),ckrKeep h.ck fun b hl e=>hc.block b hl (by
  rintro rfl
  rcases e with e | e
  ·exact hf.2.1 (e ▸ h.own.ickb)
  ·exact hf.2.2.2 e),hn h.cq h.own.icqb,hn h.rg h.own.irg,hn h.cg h.own.icg,h.own,h2⟩
theorem NdX.kset (h:NdX S I A qt K w0 P D x w) (i:Nat) (u:Value):KeepF I D D w (w.setCell ⟨P.nb,i,none⟩ u):=KeepF.chg ((Chg.refl (· =P.nb) w).set_at i u) (by rintro b rfl;exact h.own.inb)
theorem NdX.kput (h:NdX S I A qt K w0 P D x w) (i:Nat) (l:List Value):KeepF I D D w (putRow w ⟨P.nb,i,none⟩ l):=KeepF.chg (Chg.put (S:=(· =P.nb)) (p:=⟨P.nb,i,none⟩) (Chg.refl _ _) (.inl rfl) l) (by rintro b rfl;exact h.own.inb)
theorem InsR.kf {D':NPd} {R:Nat→Prop} {a:Nat→Option Addr} {ln cp:Nat→Nat} {ins:Nat→List Rw} (h:InsR R w a ln cp ins) (hR:∀b,R b→Free I D w b) (hk:KeepF I D D' w w'):InsR R w' a ln cp ins∧∀b,R b→Free I D' w' b:=
 ⟨⟨fun i hi=>(h.rd i hi).keep hk.1 fun b hb _=>(hk.2 b (hR b hb)).2,h.le⟩,fun b hb=>(hk.2 b (hR b hb)).1⟩
def Own1 (I:Nat→Prop) (D:NPd) (w0:World) (g:Nat) (t:TypeId) (cs:Array Value) (w:World):Prop:=Free I D w g∧w0.heap.size≤g∧Blk w g t cs
theorem Own1.kf {D':NPd} {g:Nat} {t:TypeId} {cs:Array Value} (h:Own1 I D w0 g t cs w) (hk:KeepF I D D' w w'):Own1 I D' w0 g t cs w':=⟨(hk.2 g h.1).1,h.2.1,(hk.2 g h.1).2.trans h.2.2⟩
end
def insA (s0 s1 s2 s3:Int) (a:Nat→Option Addr) (ln cp:Nat→Nat):List Value:=[.int .u8 s0,insV a ln cp 0,.int .u8 s1,insV a ln cp 1,.int .u8 s2,insV a ln cp 2,.int .u8 s3,insV a ln cp 3]
theorem ins_rows {w:World} {g:Nat} {t:TypeId} {s0 s1 s2 s3:Int} {a:Nat→Option Addr} {ln cp:Nat→Nat} (h:Blk w g t (insA s0 s1 s2 s3 a ln cp).toArray) :
 (hasRow w ⟨g,1,none⟩ 1=true∧rowOf w ⟨g,1,none⟩ 1=[insV a ln cp 0])∧(hasRow w ⟨g,3,none⟩ 1=true∧rowOf w ⟨g,3,none⟩ 1=[insV a ln cp 1])∧(hasRow w ⟨g,5,none⟩ 1=true∧rowOf w ⟨g,5,none⟩ 1=[insV a ln cp 2])∧(hasRow w ⟨g,7,none⟩ 1=true∧rowOf w ⟨g,7,none⟩ 1=[insV a ln cp 3]):=by
 obtain⟨-,-,d3,d4,-⟩:=h.rules
 refine⟨⟨?_,?_⟩,⟨?_,?_⟩,⟨?_,?_⟩,⟨?_,?_⟩⟩
 all_goals first | (rw [d3];rfl) | (rw [d4 _ _ (by simp [insA])];rfl)
theorem tkC_range0 (n:Int) (l:List Hd): -9223372036854775808≤commonF n l∧commonF n l≤9223372036854775807:=by have:=commonF_range n l;omega
structure NdOk (K:NdK) (x:NdS):Prop where
 hok:RefOk K.c
 hn:K.c.N=K.n
 h4:4≤K.n
 h16:K.n≤16
 hs:K.seen.length=50
 hV:K.V.length=42
 hVa:K.V.all cell1=true
 hVk:okL viewK K.V=true
 hk:x.k.okL
 hL:x.L.n=K.n
 hT:x.L.T≤100000000
 q1:x.q.1=0∨x.q.1=1∨x.q.1=2
 b0:0≤K.boot
 b1:K.boot≤4096
 l0:0≤x.q.2.1
 l1:x.q.2.1≤4096
 c0: -1≤x.q.2.2
 c1:x.q.2.2≤1099511627776
 hw:∀a ∈ x.wn,-1≤a∧a≤1099511627776
 hwl:x.wn.length≤2*K.n
 g0:0≤x.long
 g1:x.long≤1000000
 hr:x.k.run=false
noncomputable def tkH (K:NdK) (x:NdS) (ins:Nat→List Rw):List Rw:=tab x.L.n (x.L.put ins).held
noncomputable def tkA (K:NdK) (x:NdS) (ins:Nat→List Rw):List Hd:=agreeL K.n (tkH K x ins)
noncomputable def tkC (K:NdK) (x:NdS) (ins:Nat→List Rw):Int:=commonF K.n (tkA K x ins)
def tkQ (K:NdK) (x:NdS):Int×Int×Int:=pwOn K.boot x.q.1 x.q.2.1 x.q.2.2
noncomputable def tkAge (K:NdK) (x:NdS) (ins:Nat→List Rw):Int:=ownF K.n (tkC K x ins) (tkQ K x).2.2
noncomputable def tkW (K:NdK) (x:NdS) (ins:Nat→List Rw):List Int:=lastN (2*K.n) (x.wn++ [tkAge K x ins])
noncomputable def tkL (K:NdK) (x:NdS) (ins:Nat→List Rw):Int:=cqOn x.long (2*K.n) (evenF K.n (tkA K x ins) (tkC K x ins))
noncomputable def tkSure (K:NdK) (x:NdS) (ins:Nat→List Rw):Bool:=tkL K x ins==2*K.n
noncomputable def tkK (K:NdK) (x:NdS) (ins:Nat→List Rw):LkM:=⟨2,tkAge K x ins,showF (tkW K x ins),tkSure K x ins,false,(0,0,0),0,saidZ,K.V,x.k.got⟩
noncomputable def tkRow (K:NdK) (x:NdS) (ins:Nat→List Rw):Rw:=⟨true,.int .i64 (tkAge K x ins) :: (saidZ++(saidZ++K.V)),tabL (tkH K x ins)⟩
noncomputable def tkX (K:NdK) (x:NdS) (ins:Nat→List Rw):NdS:=⟨tkQ K x,(x.L.put ins).said (tkRow K x ins),tkW K x ins,tkL K x ins,x.t,tkK K x ins⟩
def TickP (S I:Nat→Prop) (A:CfA) (qt:Nat) (K:NdK) (w:World) (P:NP) (D:NPd) (x:NdS) (ins:Nat→List Rw) (e:Ending) (w':World):Prop:=
 ∃D' g0 g1 m,e=.returned (.agg #[.int .u8 0,.slice (some ⟨g0,0,none⟩) K.n K.n,.int .u8 0,.slice (some ⟨g1,0,none⟩) K.n K.n])∧NdX S I A qt K w P D' (tkX K x ins) w'∧g0≠g1∧w.heap.size≤m∧m≤g0∧m≤g1∧
  RowsB (fun b=>m≤b∧b≠g0∧b≠g1) w' g0 134 ((tkX K x ins).L.out 0)∧RowsB (fun b=>m≤b∧b≠g0∧b≠g1) w' g1 134 ((tkX K x ins).L.out 2)∧KeepF I D D' w w'
theorem runS {S I:Nat→Prop} {A:CfA} {qt:Nat} {K:NdK} {w0 w:World} {P:NP} {D:NPd} {x:NdS} {sh:Int} {sr:Bool} (h:NdX S I A qt K w0 P D x w) (hs:K.seen.length=50) (hk:x.k.okL) (h1:x.k.shows=sh) (h2:x.k.sure=sr) (h3:x.k.run=false) :
 w.cell? ⟨P.nb,3,none⟩=some (.pointer (some ⟨P.rg,0,none⟩))∧w.cell? ⟨P.nb,59,none⟩=some (.int .i64 sh)∧w.cell? ⟨P.nb,60,none⟩=some (.bool sr)∧w.cell? ⟨P.nb,61,none⟩=some (.bool false)∧w.frozen? ⟨P.nb,61,none⟩=false∧canPut w ⟨P.nb,62,none⟩ 3=true:=by
 have e1:=h.lk hs hk 2 (by omega)
 have e2:=h.lk hs hk 3 (by omega)
 have e3:=h.lk hs hk 4 (by omega)
 have hl:=lookV_len hk
 refine⟨(h.cells hs hk).2.2.2.1,e1.trans (by rw [←h1];rfl),e2.trans (by rw [←h2];rfl),e3.trans (by rw [←h3];rfl),h.nd.frozen 61,?_⟩
 rw [h.nd.rules.2.2.2.2]
 simp [NP.cells,ndV,memV,hs,hl]
theorem NdX.putT {S I:Nat→Prop} {A:CfA} {qt:Nat} {K:NdK} {w0 w:World} {P:NP} {D:NPd} {x:NdS} (h:NdX S I A qt K w0 P D x w) (hs:K.seen.length=50) (hk:x.k.okL):NdX S I A qt K w0 P D ⟨x.q,x.L,x.wn,x.long,x.t,⟨x.k.st,x.k.age,x.k.shows,x.k.sure,x.k.run,(0,0,0),x.k.ahead,x.k.rep,x.k.crew,x.k.got⟩⟩ (putRow w ⟨P.nb,62,none⟩ timeZ):=h.put hs hk 5 timeZ (by decide) rfl
theorem NdX.setR {S I:Nat→Prop} {A:CfA} {qt:Nat} {K:NdK} {w0 w:World} {P:NP} {D:NPd} {x:NdS} (h:NdX S I A qt K w0 P D x w) (hs:K.seen.length=50) (hk:x.k.okL) (b:Bool):NdX S I A qt K w0 P D ⟨x.q,x.L,x.wn,x.long,x.t,⟨x.k.st,x.k.age,x.k.shows,x.k.sure,b,x.k.t,x.k.ahead,x.k.rep,x.k.crew,x.k.got⟩⟩ (w.setCell ⟨P.nb,61,none⟩ (.bool b)):=h.set hs hk 4 (by decide) _ rfl
theorem NdX.row {S I:Nat→Prop} {A:CfA} {qt:Nat} {K:NdK} {w0 w:World} {P:NP} {D:NPd} {x:NdS} (h:NdX S I A qt K w0 P D x w) (hs:K.seen.length=50) (hk:x.k.okL) (j m:Nat) (hj:j+m≤63):hasRow w ⟨P.nb,57+j,none⟩ m=true∧rowOf w ⟨P.nb,57+j,none⟩ m=((lookV x.k).drop j).take m:=by
 have hl:=lookV_len hk
 have e:P.cells K x.k=(ptrN P.lp :: ptrN P.ckb :: ptrN P.cqb :: ptrN P.rg :: ptrN P.fb :: ptrN P.cg :: (K.seen++ [.bool K.told]))++(lookV x.k++ [.pointer (some ⟨P.p,0,none⟩),.int .i64 P.me,P.en,ptrN P.pb]):=by simp [NP.cells,ndV,memV]
 obtain⟨-,-,d3,d4,-⟩:=h.nd.rules
 have hlen:(P.cells K x.k).length=124:=by rw [e];simp [hs,hl]
 refine⟨by rw [d3];simp [hlen];omega,?_⟩
 rw [d4 _ _ (by rw [hlen];omega),e,List.drop_append,List.drop_eq_nil_of_le (by simp [hs]),List.nil_append,show 57+j - (ptrN P.lp :: ptrN P.ckb :: ptrN P.cqb :: ptrN P.rg :: ptrN P.fb :: ptrN P.cg :: (K.seen++ [.bool K.told])).length=j by simp [hs],List.drop_append_of_le_length (by omega),List.take_append_of_le_length (by simp [hl];omega)]
theorem ndRowS {S I:Nat→Prop} {A:CfA} {qt:Nat} {K:NdK} {w0 w:World} {P:NP} {D:NPd} {x:NdS} (h:NdX S I A qt K w0 P D x w) (hs:K.seen.length=50) (hk:x.k.okL) {age:Int} {V:List Value} (h1:x.k.age=age) (h2:x.k.rep=saidZ) (h3:x.k.crew=V) :
 w.cell? ⟨P.nb,58,none⟩=some (.int .i64 age)∧(hasRow w ⟨P.nb,66,none⟩ 6=true∧rowOf w ⟨P.nb,66,none⟩ 6=saidZ)∧(hasRow w ⟨P.nb,72,none⟩ 42=true∧rowOf w ⟨P.nb,72,none⟩ 42=V):=by
 have r1:=h.row hs hk 9 6 (by omega)
 have r2:=h.row hs hk 15 42 (by omega)
 obtain⟨k1,k2,k3⟩:=hk
 refine⟨(h.lk hs ⟨k1,k2,k3⟩ 1 (by omega)).trans (by rw [←h1];rfl),⟨r1.1,r1.2.trans ?_⟩,⟨r2.1,r2.2.trans ?_⟩⟩
 ·simp only [lookV,List.drop_succ_cons,List.drop_zero,List.take_left' k1];exact h2
 ·simp only [lookV,List.drop_succ_cons]
  rw [List.drop_left' k1,List.take_left' k2];exact h3
theorem putOwn {S I:Nat→Prop} {A:CfA} {qt:Nat} {K:NdK} {w0 w:World} {P:NP} {D:NPd} {x:NdS} (h:NdX S I A qt K w0 P D x w) {g:Nat} (hf:Free I D w g) (hg:w0.heap.size≤g) (i:Nat) (l:List Value):NdX S I A qt K w0 P D x (putRow w ⟨g,i,none⟩ l):=h.far (Chg.put (S:=(· =g)) (p:=⟨g,i,none⟩) (Chg.refl _ _) (.inl rfl) l) hf hg
theorem AgA.one {I:Nat→Prop} {D:NPd} {n:Nat} {L:List Hd} {v:Value} {w:World} (h:AgA I D n L v w):lenC v 1=true∧cell1 v=true∧cellsL v=[v]:=by
 obtain⟨g,rfl,-⟩:=h
 exact⟨rfl,rfl,rfl⟩
theorem Own1.far {I:Nat→Prop} {D:NPd} {w0 w:World} {g r:Nat} {t:TypeId} {cs:Array Value} (h:Own1 I D w0 g t cs w) (hne:g≠r) (i:Nat) (l:List Value):Own1 I D w0 g t cs (putRow w ⟨r,i,none⟩ l):=⟨⟨by simpa using h.1.1,h.1.2⟩,h.2.1,(putRow_other _ _ _ _ hne).trans h.2.2⟩
theorem Own1.all {I:Nat→Prop} {D:NPd} {w0 w:World} {g:Nat} {t:TypeId} {z l:List Value} (h:Own1 I D w0 g t z.toArray w) (hl:z.length=l.length):Own1 I D w0 g t l.toArray (putRow w ⟨g,0,none⟩ l):=⟨⟨by simpa using h.1.1,h.1.2⟩,h.2.1,h.2.2.put_all hl⟩
theorem AgA.far {I:Nat→Prop} {D:NPd} {n:Nat} {L:List Hd} {v:Value} {w:World} (h:AgA I D n L v w) {r:Nat} {t:TypeId} {cs:Array Value} (hr:Blk w r t cs) (ht:t≠204) (i:Nat) (l:List Value):AgA I D n L v (putRow w ⟨r,i,none⟩ l):=by
 obtain⟨g,e,hf,⟨cs',hb⟩,h⟩:=h
 have hne:g≠r:=fun e=>(hr.ne_ hb ht) e.symm
 exact⟨g,e,⟨by simpa using hf.1,hf.2⟩,⟨cs',(putRow_other _ _ _ _ hne).trans hb⟩,h.keep (by simp) fun b hb _=>by rw [hb];exact putRow_other _ _ _ _ hne⟩
theorem KeepF.putNew {I:Nat→Prop} {D D':NPd} {w w':World} (h:KeepF I D D' w w') {r:Nat} (hr:w.heap.size≤r) (i:Nat) (l:List Value):KeepF I D D' w (putRow w' ⟨r,i,none⟩ l):=⟨by simpa using h.1,fun b hb=>⟨⟨by simpa using (h.2 b hb).1.1,(h.2 b hb).1.2⟩,(putRow_other _ _ _ _ (by have:=hb.1;show b≠r;omega)).trans (h.2 b hb).2⟩⟩
theorem row_vals (age:Int) (V:List Value) (t:List Hd) (tv:Value):(Value.bool true :: Value.int .i64 age :: (saidZ++(saidZ++(V++ [tv]))))=(⟨true,.int .i64 age :: (saidZ++(saidZ++V)),t⟩:Rw).vals tv:=by simp [Rw.vals]
def OutP (S I:Nat→Prop) (A:CfA) (qt:Nat) (K:NdK) (w:World) (P:NP) (D D':NPd) (X:NdS) (ob sb g0 g1 m:Nat) (oc:List Value) (wx:World):Prop:=
 NdX S I A qt K w P D' X wx∧Own1 I D' w ob 207 oc.toArray wx∧Own1 I D' w sb 280 #[Value.int .u8 0,.int .u8 0] wx∧RowsB (fun b=>m≤b∧b≠g0∧b≠g1) wx g0 134 (X.L.out 0)∧RowsB (fun b=>m≤b∧b≠g0∧b≠g1) wx g1 134 (X.L.out 2)∧KeepF I D D' w wx
theorem OutP.put {S I:Nat→Prop} {A:CfA} {qt:Nat} {K:NdK} {w:World} {P:NP} {D D':NPd} {X:NdS} {ob sb g0 g1 m:Nat} {oc:List Value} {wx:World} (h:OutP S I A qt K w P D D' X ob sb g0 g1 m oc wx) (hob:ob<m) (h0:m≤g0) (h1:m≤g1) (hsb:sb≠ob) (i:Nat) (l:List Value) :
 OutP S I A qt K w P D D' X ob sb g0 g1 m (oc.take i++l++oc.drop (i+l.length)) (putRow wx ⟨ob,i,none⟩ l):=by
 obtain⟨hx,ho,hs,hr0,hr1,hk⟩:=h
 have hc:Chg (· =ob) wx (putRow wx ⟨ob,i,none⟩ l):=Chg.put (S:=(· =ob)) (p:=⟨ob,i,none⟩) (Chg.refl _ _) (.inl rfl) l
 exact⟨putOwn hx ho.1 ho.2.1 i l,⟨⟨by simpa using ho.1.1,ho.1.2⟩,ho.2.1,ho.2.2.put i l⟩,hs.far hsb i l,hr0.chg hc (by intro e;omega) (by rintro b _ hb rfl;omega),hr1.chg hc (by intro e;omega) (by rintro b _ hb rfl;omega),hk.putNew ho.2.1 i l⟩
theorem OutP.set {S I:Nat→Prop} {A:CfA} {qt:Nat} {K:NdK} {w:World} {P:NP} {D D':NPd} {X:NdS} {ob sb g0 g1 m:Nat} {oc:List Value} {wx:World} (h:OutP S I A qt K w P D D' X ob sb g0 g1 m oc wx) (hob:ob<m) (h0:m≤g0) (h1:m≤g1) (hsb:sb≠ob) (i:Nat) (u:Value) :
 OutP S I A qt K w P D D' X ob sb g0 g1 m (oc.set i u) (wx.setCell ⟨ob,i,none⟩ u):=by
 obtain⟨hx,ho,hs,hr0,hr1,hk⟩:=h
 have hc:Chg (· =ob) wx (wx.setCell ⟨ob,i,none⟩ u):=(Chg.refl _ _).set_at _ _
 have hsz:(wx.setCell ⟨ob,i,none⟩ u).heap.size=wx.heap.size:=by simp
 refine⟨hx.far hc ho.1 ho.2.1,⟨⟨by rw [hsz];exact ho.1.1,ho.1.2⟩,ho.2.1,by have:=ho.2.2.set_ i u;rwa [List.setIfInBounds_toArray] at this⟩,⟨⟨by rw [hsz];exact hs.1.1,hs.1.2⟩,hs.2.1,hs.2.2.far (p:=⟨ob,i,none⟩) hsb u⟩,hr0.chg hc (by intro e;omega) (by rintro b _ hb rfl;omega),hr1.chg hc (by intro e;omega) (by rintro b _ hb rfl;omega),⟨by rw [hsz];exact hk.1,fun b hb=>⟨⟨by rw [hsz];exact (hk.2 b hb).1.1,(hk.2 b hb).1.2⟩,(Below.heap_setCell _ _ _ b (by have:=hb.1;have:=ho.2.1;show b≠ob;omega)).trans (hk.2 b hb).2⟩⟩⟩
theorem sayS {S I:Nat→Prop} {A:CfA} {qt:Nat} {K:NdK} {w0 w:World} {P:NP} {D:NPd} {x:NdS} {ob rb:Nat} {oc rv:List Value} (h:NdX S I A qt K w0 P D x w) (hs:K.seen.length=50) (hk:x.k.okL) (ho:Own1 I D w0 ob 207 oc.toArray w) (hoc:oc.length=4) (hr:Own1 I D w0 rb 134 rv.toArray w) (hrv:rv.length=57) :
 w.cell? ⟨P.nb,0,none⟩=some (.pointer (some ⟨P.lp,0,none⟩))∧(hasRow w ⟨rb,0,none⟩ 57=true∧rowOf w ⟨rb,0,none⟩ 57=rv)∧canPut w ⟨ob,1,none⟩ 1=true∧canPut w ⟨ob,3,none⟩ 1=true:=by
 obtain⟨r1,r2,-⟩:=hr.2.2.whole hrv
 refine⟨(h.cells hs hk).1,⟨r1,r2⟩,?_,?_⟩ <;> rw [ho.2.2.rules.2.2.2.2] <;> simp [hoc]
theorem put_rep {st age shows ahead:Int} {sure run:Bool} {t:Int×Int×Int} {rep crew got l:List Value} (h:LkM.okL ⟨st,age,shows,sure,run,t,ahead,rep,crew,got⟩) (hl:l.length=6:=by rfl):(lookV ⟨st,age,shows,sure,run,t,ahead,rep,crew,got⟩).take 9++l++(lookV ⟨st,age,shows,sure,run,t,ahead,rep,crew,got⟩).drop (9+l.length)=lookV ⟨st,age,shows,sure,run,t,ahead,l,crew,got⟩:=by
 obtain⟨h1,h2,h3⟩:=h
 simp only at h1
 rw [hl]
 simp only [lookV,List.take_succ_cons,List.take_zero,List.drop_succ_cons,Nat.reduceAdd,List.drop_left' h1]
 simp
theorem put_crew {st age shows ahead:Int} {sure run:Bool} {t:Int×Int×Int} {rep crew got l:List Value} (h:LkM.okL ⟨st,age,shows,sure,run,t,ahead,rep,crew,got⟩) (hl:l.length=42):(lookV ⟨st,age,shows,sure,run,t,ahead,rep,crew,got⟩).take 15++l++(lookV ⟨st,age,shows,sure,run,t,ahead,rep,crew,got⟩).drop (15+l.length)=lookV ⟨st,age,shows,sure,run,t,ahead,rep,l,got⟩:=by
 obtain⟨h1,h2,h3⟩:=h
 simp only at h1 h2
 rw [hl]
 simp only [lookV,List.take_succ_cons,List.take_zero,List.drop_succ_cons,Nat.reduceAdd]
 rw [List.take_left' h1,show (48:Nat)=rep.length+42 by omega,List.drop_length_add_append,List.drop_left' h2]
 simp
theorem NdX.put_ok {S I:Nat→Prop} {A:CfA} {qt:Nat} {K:NdK} {w0 w:World} {P:NP} {D:NPd} {x:NdS} (h:NdX S I A qt K w0 P D x w) (hs:K.seen.length=50) (hk:x.k.okL) (i m:Nat) (hi:i+m≤120):canPut w ⟨P.nb,i,none⟩ m=true:=by
 have hl:=lookV_len hk
 rw [h.nd.rules.2.2.2.2]
 simp [NP.cells,ndV,memV,hs,hl]
 omega
theorem tkC_range (K:NdK) (x:NdS) (ins:Nat→List Rw): -9223372036854775808≤tkC K x ins∧tkC K x ins≤9223372036854775807:=tkC_range0 _ _
theorem hearS {S I:Nat→Prop} {A:CfA} {qt:Nat} {K:NdK} {w0 w:World} {P:NP} {D:NPd} {x:NdS} {g:Nat} {s0 s1 s2 s3:Int} {a:Nat→Option Addr} {ln cp:Nat→Nat} (h:NdX S I A qt K w0 P D x w) (hs:K.seen.length=50) (hk:x.k.okL) (hi:Own1 I D w0 g 209 (insA s0 s1 s2 s3 a ln cp).toArray w) :
 w.cell? ⟨P.nb,0,none⟩=some (.pointer (some ⟨P.lp,0,none⟩))∧(hasRow w ⟨g,1,none⟩ 1=true∧rowOf w ⟨g,1,none⟩ 1=[insV a ln cp 0])∧(hasRow w ⟨g,3,none⟩ 1=true∧rowOf w ⟨g,3,none⟩ 1=[insV a ln cp 1])∧(hasRow w ⟨g,5,none⟩ 1=true∧rowOf w ⟨g,5,none⟩ 1=[insV a ln cp 2])∧(hasRow w ⟨g,7,none⟩ 1=true∧rowOf w ⟨g,7,none⟩ 1=[insV a ln cp 3]):=
 ⟨(h.cells hs hk).1,ins_rows hi.2.2⟩
set_option maxRecDepth 100000 in
set_option maxHeartbeats 4000000 in
theorem tick_any (S I:Nat→Prop) (A:CfA) (qt:Nat) (K:NdK) (P:NP) (D:NPd) (x:NdS) (w:World) (h:NdX S I A qt K w P D x w) (ok:NdOk K x) (hq2:(tkQ K x).1=2)
 (R:Nat→Prop) (a:Nat→Option Addr) (ln cp:Nat→Nat) (ins:Nat→List Rw) (hI:InsR R w a ln cp ins) (hR:∀b,R b→Free I D w b) (hins:∀i,∀r ∈ ins i,r.ok) (hi:Idle K.c (showF (tkW K x ins)) (tkSure K x ins)) (s0 s1 s2 s3:Int) :
 Calls Tryz.prog 53 #[.pointer (some ⟨P.nb,0,none⟩),.bool true,.agg (insA s0 s1 s2 s3 a ln cp).toArray] w (TickP S I A qt K w P D x ins):=by
 obtain⟨wA,hwA⟩:∃wA,wA=w.alloc (.cells (insA s0 s1 s2 s3 a ln cp).toArray 209):=⟨_,rfl⟩
 have hbA:Below w.heap.size w wA:=by rw [hwA];exact balN (Below.refl _ _) _
 have kA:Blk wA w.heap.size 209 (insA s0 s1 s2 s3 a ln cp).toArray:=by rw [hwA];exact Blk.new _ _ _
 have eA:wA.heap.size=w.heap.size+1:=by rw [hwA];simp
 have hb1:Below w.heap.size w (wA.alloc (.cells postsZ.toArray 207)):=balN hbA _
 have k1:=kA.alloc (.cells postsZ.toArray 207)
 have k2:=Blk.new wA 207 postsZ.toArray
 rw [eA] at k2
 rw [hwA] at k1 k2 hb1
 have HX1:=Lib.hid (h.below hb1)
 have HR1:=Lib.hid (hI.kf hR (KeepF.below hb1))
 have HI1:Hid (Own1 I D w w.heap.size 209 (insA s0 s1 s2 s3 a ln cp).toArray ((w.alloc (.cells (insA s0 s1 s2 s3 a ln cp).toArray 209)).alloc (.cells postsZ.toArray 207))):=Lib.hid ⟨h.free hb1 (Nat.le_refl _) k1.lt,Nat.le_refl _,k1⟩
 have HO1:Hid (Own1 I D w (w.heap.size+1) 207 postsZ.toArray ((w.alloc (.cells (insA s0 s1 s2 s3 a ln cp).toArray 209)).alloc (.cells postsZ.toArray 207))):=Lib.hid ⟨h.free hb1 (Nat.le_succ _) k2.lt,Nat.le_succ _,k2⟩
 have HK1:Hid (KeepF I D D w ((w.alloc (.cells (insA s0 s1 s2 s3 a ln cp).toArray 209)).alloc (.cells postsZ.toArray 207))):=Lib.hid (KeepF.below hb1)
 have OK:=Lib.hid ok
 have HQ:=Lib.hid hq2
 have HINS:=Lib.hid hins
 have HID:=Lib.hid hi
 clear hI hR hins hi h ok hq2 k1 k2 hb1 hbA kA eA hwA wA
 go_enter Tryz.func53,Tryz.ntmps53
 go_upto_region 1 with fail
 generalize (w.alloc (.cells (insA s0 s1 s2 s3 a ln cp).toArray 209)).alloc (.cells postsZ.toArray 207)=w1 at HX1 HR1 HI1 HO1 HK1 ⊢
 refine wp_scope_fwd 0 rfl ?_
 obtain⟨c0,c1,c2,c3,c5,c120,c121,c123,cf⟩:=HX1.out.cells OK.out.hs OK.out.hk
 have HP:Hid (Calls Tryz.prog 99 #[.pointer (some ⟨P.pb,0,none⟩),.bool true] w1 fun e w'=>e=.returned (.tuple #[.int .u8 2,.int .i64 (tkQ K x).2.2])∧NdX S I A qt K w P D { x with q:=tkQ K x } w'∧KeepF I D D w1 w'):=Lib.hid (by
  have:=ndx_power HX1.out OK.out.q1 OK.out.b0 OK.out.b1 OK.out.l0 OK.out.l1 OK.out.c0 OK.out.c1 (q':=tkQ K x) rfl
  rw [HQ.out,if_pos rfl] at this
  exact this)
 obtain⟨cold,hcold⟩:∃c,Hid (c=(tkQ K x).2.2):=⟨_,Lib.hid rfl⟩
 rw [←hcold.out] at HP
 clear c0 c1 c2 c3 c5 c120 c121 cf
 go_wp2_with fail
 (with_reducible refine HP.out.mono ?_)
 rintro e w2 ⟨rfl,hx2,hk2⟩
 have HX2:=Lib.hid hx2
 have HI2:=Lib.hid (HI1.out.kf hk2)
 have HO2:=Lib.hid (HO1.out.kf hk2)
 have HR2:=Lib.hid (HR1.out.1.kf HR1.out.2 hk2)
 have HK2:=Lib.hid (HK1.out.trans hk2)
 clear HX1 HI1 HO1 HR1 HK1 HP hx2 hk2 c123
 go_wp2_with fail
 go_step3
 refine⟨rfl,?_⟩
 go_upto_region 7 with fail
 obtain⟨c0,c1,c2,c3,c5,c120,c121,c123,cf⟩:=HX2.out.cells OK.out.hs OK.out.hk
 obtain⟨i1,i2,i3,i4⟩:=ins_rows HI2.out.2.2
 clear c1 c2 c3 c5 c120 c121 c123 cf
 have HH:Hid (∀w',Below w2.heap.size w2 w'→Calls Tryz.prog 100 #[.pointer (some ⟨P.lp,0,none⟩),.agg #[insV a ln cp 0,insV a ln cp 1,insV a ln cp 2,insV a ln cp 3]] w' (HearN S I A qt K w P D { x with q:=tkQ K x } ins w')):=Lib.hid fun w' hb=>
  ndx_hear (HX2.out.below hb) OK.out.hT R a ln cp ins (HR2.out.1.kf HR2.out.2 (KeepF.below hb)).1 (fun b hr=>((HR2.out.1.kf HR2.out.2 (KeepF.below hb)).2 b hr).2.2.1) HINS.out fun s=>LaneM.held_ok (LaneM.put_ok HX2.out.lane.ok HINS.out) s
 go_region_held3 (fun w'=>w'.cell? ⟨P.nb,0,none⟩=some (.pointer (some ⟨P.lp,0,none⟩))∧(hasRow w' ⟨w.heap.size,1,none⟩ 1=true∧rowOf w' ⟨w.heap.size,1,none⟩ 1=[insV a ln cp 0])∧(hasRow w' ⟨w.heap.size,3,none⟩ 1=true∧rowOf w' ⟨w.heap.size,3,none⟩ 1=[insV a ln cp 1])∧(hasRow w' ⟨w.heap.size,5,none⟩ 1=true∧rowOf w' ⟨w.heap.size,5,none⟩ 1=[insV a ln cp 2])∧(hasRow w' ⟨w.heap.size,7,none⟩ 1=true∧rowOf w' ⟨w.heap.size,7,none⟩ 1=[insV a ln cp 3]))
  (first | exact⟨c0,i1,i2,i3,i4⟩ | exact hearS HX3.out OK.out.hs OK.out.hk HI3.out)
  ((go_at_call 100;(with_reducible refine (HH.out w2.drew (Below.refl _ _).drew).mono ?_);rintro e w3 ⟨D3,hv,rfl,hx3,hh3,hk3⟩;have HX3:=Lib.hid hx3;have HK3:=Lib.hid (KeepF.trans (KeepF.below (Below.refl w2.heap.size w2).drew) hk3);have HI3:=Lib.hid (HI2.out.kf HK3.out);have HH3:=Lib.hid hh3;clear hx3 hh3 hk3))
 have HO3:=Lib.hid (HO2.out.kf HK3.out)
 replace HK3:=Lib.hid (HK2.out.trans HK3.out)
 clear HH HX2 HI2 HO2 HR2 HK2 HI3 c0 i1 i2 i3 i4
 have hn:x.L.n=K.n:=OK.out.hL
 replace HH3:Hid (HdA I D3 K.n (tkH K x ins) hv w3):=Lib.hid (by have:=HH3.out;rw [hn] at this;unfold tkH;rw [hn];exact this)
 clear hn
 obtain⟨-,-,-,-,-,c120,-⟩:=HX3.out.cells OK.out.hs OK.out.hk
 have p0:=HX3.out.net.cells.c0
 rw [OK.out.hn] at p0
 have HA:=Lib.hid (ndx_agree HX3.out OK.out.h4 OK.out.h16 HH3.out)
 go_wp2_with fail
 (with_reducible refine HA.out.mono ?_)
 rintro e w4 ⟨av,rfl,ha4,hx4,hk4⟩
 have HX4:=Lib.hid hx4
 have HA4:Hid (AgA I D3 K.n (tkA K x ins) av w4):=Lib.hid ha4
 have HO4:=Lib.hid (HO3.out.kf hk4)
 have HH4:=Lib.hid (HH3.out.kf hk4)
 have HK4:=Lib.hid (HK3.out.trans hk4)
 clear HX3 HO3 HH3 HK3 HA ha4 hx4 hk4 c120 p0
 obtain⟨-,-,-,-,-,c120,-⟩:=HX4.out.cells OK.out.hs OK.out.hk
 have p0:=HX4.out.net.cells.c0
 rw [OK.out.hn] at p0
 have HC:Hid (Calls Tryz.prog 102 #[.int .i64 K.n,av] w4 fun e w'=>e=.returned (.int .i64 (tkC K x ins))∧NdX S I A qt K w P D3 { x with q:=tkQ K x,L:=x.L.put ins } w'∧KeepF I D3 D3 w4 w'):=Lib.hid (ndx_common HX4.out OK.out.h16 HA4.out)
 go_wp2_with fail
 (with_reducible refine HC.out.mono ?_)
 rintro e w5 ⟨rfl,hx5,hk5⟩
 have HX5:=Lib.hid hx5
 have HA5:=Lib.hid (HA4.out.kf hk5)
 have HO5:=Lib.hid (HO4.out.kf hk5)
 have HH5:=Lib.hid (HH4.out.kf hk5)
 have HK5:=Lib.hid (HK4.out.trans hk5)
 clear HX4 HO4 HH4 HK4 HA4 HC hx5 hk5 c120 p0
 obtain⟨cm,hcm⟩:∃c,Hid (c=tkC K x ins):=⟨_,Lib.hid rfl⟩
 rw [←hcm.out]
 -- the state
 obtain⟨-,c1,-,-,-,-,-,-,cf⟩:=HX5.out.cells OK.out.hs OK.out.hk
 have f57:=cf 57
 have l57:w5.cell? ⟨P.nb,57,none⟩=some (.int .u8 x.k.st):=HX5.out.lk OK.out.hs OK.out.hk 0 (by omega)
 clear cf c1
 go_upto_region 12 with fail
 have HX6:Hid (NdX S I A qt K w P D3 { x with q:=tkQ K x,L:=x.L.put ins,k:={ x.k with st:=2 } } (w5.setCell ⟨P.nb,57,none⟩ (.int .u8 2))):=Lib.hid (HX5.out.set OK.out.hs OK.out.hk 0 (by omega) _ rfl)
 have k6:=HX5.out.kset 57 (.int .u8 2)
 have HA6:=Lib.hid (HA5.out.kf k6)
 have HO6:=Lib.hid (HO5.out.kf k6)
 have HH6:=Lib.hid (HH5.out.kf k6)
 have HK6:=Lib.hid (HK5.out.trans k6)
 generalize w5.setCell ⟨P.nb,57,none⟩ (.int .u8 2)=w6 at HX6 HA6 HO6 HH6 HK6 ⊢
 clear HX5 HA5 HO5 HH5 HK5 k6 f57 l57
 -- the clock
 obtain⟨age,hage⟩:∃c,Hid (c=tkAge K x ins):=⟨_,Lib.hid rfl⟩
 obtain⟨sh,hsh⟩:∃c,Hid (c=showF (tkW K x ins)):=⟨_,Lib.hid rfl⟩
 have HCk:Hid (Calls Tryz.prog 103 #[.pointer (some ⟨P.ckb,0,none⟩),.int .i64 cm,.int .i64 cold] w6 fun e w'=> ∃D',e=.returned (.tuple #[.int .i64 age,.int .i64 sh])∧NdX S I A qt K w P D' { x with q:=tkQ K x,L:=x.L.put ins,k:={ x.k with st:=2 },wn:=tkW K x ins } w'∧KeepF I D3 D' w6 w'):=Lib.hid (by
  have:=ndx_clock HX6.out OK.out.h4 OK.out.h16 OK.out.hw OK.out.hwl (tkC K x ins) (tkQ K x).2.2 (tkC_range K x ins)
  rw [hage.out,hsh.out,hcm.out,hcold.out]
  exact this)
 obtain⟨-,c1,-⟩:=HX6.out.cells OK.out.hs OK.out.hk
 go_wp2_with fail
 (with_reducible refine HCk.out.mono ?_)
 rintro e w7 ⟨D7,rfl,hx7,hk7⟩
 have HX7:=Lib.hid hx7
 have HA7:=Lib.hid (HA6.out.kf hk7)
 have HO7:=Lib.hid (HO6.out.kf hk7)
 have HH7:=Lib.hid (HH6.out.kf hk7)
 have HK7:=Lib.hid (HK6.out.trans hk7)
 clear HX6 HA6 HO6 HH6 HK6 HCk hx7 hk7 c1
 have hok7:({ x.k with st:=2 }:LkM).okL:=OK.out.hk
 have l58:w7.cell? ⟨P.nb,58,none⟩=some (.int .i64 x.k.age):=HX7.out.lk OK.out.hs hok7 1 (by omega)
 have l59:w7.cell? ⟨P.nb,59,none⟩=some (.int .i64 x.k.shows):=HX7.out.lk OK.out.hs hok7 2 (by omega)
 have f7:∀i,w7.frozen? ⟨P.nb,i,none⟩=false:=HX7.out.nd.frozen
 have f58:=f7 58
 have f59:=f7 59
 clear f7
 go_upto_region 13 with fail
 have HX8:Hid (NdX S I A qt K w P D7 { x with q:=tkQ K x,L:=x.L.put ins,k:={ x.k with st:=2,age:=age,shows:=sh },wn:=tkW K x ins } ((w7.setCell ⟨P.nb,58,none⟩ (.int .i64 age)).setCell ⟨P.nb,59,none⟩ (.int .i64 sh))):=Lib.hid ((HX7.out.set OK.out.hs hok7 1 (by omega) (.int .i64 age) (k':={ x.k with st:=2,age:=age }) rfl).set OK.out.hs hok7 2 (by omega) (.int .i64 sh) rfl)
 have k8:=(HX7.out.kset 58 (.int .i64 age)).trans ((HX7.out.set OK.out.hs hok7 1 (by omega) (.int .i64 age) (k':={ x.k with st:=2,age:=age }) rfl).kset 59 (.int .i64 sh))
 have HA8:=Lib.hid (HA7.out.kf k8)
 have HO8:=Lib.hid (HO7.out.kf k8)
 have HH8:=Lib.hid (HH7.out.kf k8)
 have HK8:=Lib.hid (HK7.out.trans k8)
 generalize (w7.setCell ⟨P.nb,58,none⟩ (.int .i64 age)).setCell ⟨P.nb,59,none⟩ (.int .i64 sh)=w8 at HX8 HA8 HO8 HH8 HK8 ⊢
 clear HX7 HA7 HO7 HH7 HK7 k8 l58 l59 f58 f59
 -- the clique
 obtain⟨sr,hsr⟩:∃b,Hid (b=tkSure K x ins):=⟨_,Lib.hid rfl⟩
 have HCq:Hid (Calls Tryz.prog 104 #[.pointer (some ⟨P.cqb,0,none⟩),av,.int .i64 cm] w8 fun e w'=>e=.returned (.bool sr)∧NdX S I A qt K w P D7 { x with q:=tkQ K x,L:=x.L.put ins,k:={ x.k with st:=2,age:=age,shows:=sh },wn:=tkW K x ins,long:=tkL K x ins } w'∧KeepF I D7 D7 w8 w'):=Lib.hid (by
  have:=ndx_clique HX8.out OK.out.h4 OK.out.h16 OK.out.g0 OK.out.g1 HA8.out (tkC K x ins)
  rw [hsr.out,hcm.out]
  exact this)
 go_cut [] from 108 to 122 (fun wx=> ∃w10:World,w10=wx∧NdX S I A qt K w P D7 ⟨tkQ K x,x.L.put ins,tkW K x ins,tkL K x ins,x.t,⟨2,age,sh,sr,x.k.run,x.k.t,x.k.ahead,x.k.rep,x.k.crew,x.k.got⟩⟩ w10∧Own1 I D7 w (w.heap.size+1) 207 postsZ.toArray w10∧HdA I D7 K.n (tkH K x ins) hv w10∧KeepF I D D7 w w10)
 case first=>
  obtain⟨-,-,c2,-⟩:=HX8.out.cells OK.out.hs hok7
  go_wp2_with fail
  (with_reducible refine HCq.out.mono ?_)
  rintro e w9 ⟨rfl,hx9,hk9⟩
  have HX9:=Lib.hid hx9
  have HO9:=Lib.hid (HO8.out.kf hk9)
  have HH9:=Lib.hid (HH8.out.kf hk9)
  have HK9:=Lib.hid (HK8.out.trans hk9)
  clear HX8 HA8 HO8 HH8 HK8 HCq hx9 hk9 c2
  have l60:w9.cell? ⟨P.nb,60,none⟩=some (.bool x.k.sure):=HX9.out.lk OK.out.hs hok7 3 (by omega)
  have f60:w9.frozen? ⟨P.nb,60,none⟩=false:=HX9.out.nd.frozen 60
  have HE:Hid (∃w10:World,w10=(w9.setCell ⟨P.nb,60,none⟩ (.bool sr))∧NdX S I A qt K w P D7 ⟨tkQ K x,x.L.put ins,tkW K x ins,tkL K x ins,x.t,⟨2,age,sh,sr,x.k.run,x.k.t,x.k.ahead,x.k.rep,x.k.crew,x.k.got⟩⟩ w10∧Own1 I D7 w (w.heap.size+1) 207 postsZ.toArray w10∧HdA I D7 K.n (tkH K x ins) hv w10∧KeepF I D D7 w w10):=Lib.hid
   ⟨_,rfl,HX9.out.set OK.out.hs hok7 3 (by omega) (.bool sr) rfl,HO9.out.kf (HX9.out.kset 60 (.bool sr)),HH9.out.kf (HX9.out.kset 60 (.bool sr)),HK9.out.trans (HX9.out.kset 60 (.bool sr))⟩
  clear HX9 HO9 HH9 HK9
  cases sr
  all_goals go_wp2_with fail
  all_goals go_meet
  all_goals exact HE.out
 case rest=>
  clear HX8 HA8 HO8 HH8 HK8 HCq
  obtain⟨w10,rfl,hx10,ho10,hh10,hk10⟩:=hcut
  have HX10:=Lib.hid hx10
  have HO10:=Lib.hid ho10
  have HH10:=Lib.hid hh10
  have HK10:=Lib.hid hk10
  clear hx10 ho10 hh10 hk10
  go_upto_region 14 with fail
  go_cut [] from 123 to 145 (fun wx=> ∃w11:World,w11=wx∧NdX S I A qt K w P D7 ⟨tkQ K x,x.L.put ins,tkW K x ins,tkL K x ins,x.t,⟨2,age,sh,sr,false,(0,0,0),x.k.ahead,x.k.rep,x.k.crew,x.k.got⟩⟩ w11∧Own1 I D7 w (w.heap.size+1) 207 postsZ.toArray w11∧HdA I D7 K.n (tkH K x ins) hv w11∧KeepF I D D7 w w11)
  case first=>
   have n:=runS HX10.out OK.out.hs hok7 rfl rfl OK.out.hr
   have HRn:Hid (∀w',Below w10.heap.size w10 w'→Calls Tryz.prog 105 #[.pointer (some ⟨P.rg,0,none⟩),.int .i64 sh,.bool sr] w' fun e w''=>e=.returned (.tuple #[.agg timeZ.toArray,.bool false])∧NdX S I A qt K w P D7 ⟨tkQ K x,x.L.put ins,tkW K x ins,tkL K x ins,x.t,⟨2,age,sh,sr,x.k.run,x.k.t,x.k.ahead,x.k.rep,x.k.crew,x.k.got⟩⟩ w''∧KeepF I D7 D7 w' w''):=Lib.hid (fun w' hb=>ndx_run (HX10.out.below hb) OK.out.hok sh sr (by rw [hsh.out,hsr.out];exact HID.out))
   go_region_held3 (fun w'=>w'.cell? ⟨P.nb,3,none⟩=some (.pointer (some ⟨P.rg,0,none⟩))∧w'.cell? ⟨P.nb,59,none⟩=some (.int .i64 sh)∧w'.cell? ⟨P.nb,60,none⟩=some (.bool sr)∧w'.cell? ⟨P.nb,61,none⟩=some (.bool false)∧w'.frozen? ⟨P.nb,61,none⟩=false∧canPut w' ⟨P.nb,62,none⟩ 3=true)
    (first | exact n | exact runS HX11.out OK.out.hs hok7 rfl rfl OK.out.hr | exact runS HX12.out OK.out.hs hok7 rfl rfl OK.out.hr | exact runS HX13.out OK.out.hs hok7 rfl rfl rfl | exact runS HX14.out OK.out.hs hok7 rfl rfl rfl | exact runS HX15.out OK.out.hs hok7 rfl rfl rfl)
    ((go_at_call 105;(with_reducible refine (HRn.out w10.drew (Below.refl _ _).drew).mono ?_);rintro e w11 ⟨rfl,hx11,hk11⟩;have HX11:=Lib.hid hx11;have HO11:=Lib.hid (HO10.out.kf ((KeepF.below (Below.refl w10.heap.size w10).drew).trans hk11));have HH11:=Lib.hid (HH10.out.kf ((KeepF.below (Below.refl w10.heap.size w10).drew).trans hk11));have HK11:=Lib.hid (HK10.out.trans ((KeepF.below (Below.refl w10.heap.size w10).drew).trans hk11));have HX12:=Lib.hid (HX11.out.putT OK.out.hs hok7);have HX13:=Lib.hid (HX12.out.setR OK.out.hs hok7 false);have HX14:=Lib.hid (HX11.out.setR OK.out.hs hok7 false);have HX15:=Lib.hid (HX14.out.putT OK.out.hs hok7);clear hx11 hk11))
   go_wp2_with fail
   go_meet
   exact⟨_,rfl,HX13.out,HO11.out.kf ((HX11.out.kput 62 timeZ).trans (HX12.out.kset 61 (.bool false))),HH11.out.kf ((HX11.out.kput 62 timeZ).trans (HX12.out.kset 61 (.bool false))),HK11.out.trans ((HX11.out.kput 62 timeZ).trans (HX12.out.kset 61 (.bool false)))⟩
  case rest=>
   clear HX10 HO10 HH10 HK10
   obtain⟨w11,rfl,hx11,ho11,hh11,hk11⟩:=hcut
   have HX11:=Lib.hid hx11
   have HO11:=Lib.hid ho11
   have HH11:=Lib.hid hh11
   have HK11:=Lib.hid hk11
   clear hx11 ho11 hh11 hk11
   have HSl:=Lib.hid (ndx_slot HX11.out)
   obtain⟨-,-,-,c3,-⟩:=HX11.out.cells OK.out.hs hok7
   have l65:w11.cell? ⟨P.nb,65,none⟩=some (.int .i64 x.k.ahead):=HX11.out.lk OK.out.hs hok7 8 (by omega)
   have f65:w11.frozen? ⟨P.nb,65,none⟩=false:=HX11.out.nd.frozen 65
   go_wp2_with fail
   (with_reducible refine HSl.out.mono ?_)
   rintro e w' ⟨rfl,rfl⟩
   go_upto_region 16 with fail
   have k12:=HX11.out.kset 65 (.int .i64 0)
   have HX12:Hid (NdX S I A qt K w P D7 ⟨tkQ K x,x.L.put ins,tkW K x ins,tkL K x ins,x.t,⟨2,age,sh,sr,false,(0,0,0),0,x.k.rep,x.k.crew,x.k.got⟩⟩ (w11.setCell ⟨P.nb,65,none⟩ (.int .i64 0))):=Lib.hid (HX11.out.set OK.out.hs hok7 8 (by omega) (.int .i64 0) rfl)
   have HO12:=Lib.hid (HO11.out.kf k12)
   have HH12:=Lib.hid (HH11.out.kf k12)
   have HK12:=Lib.hid (HK11.out.trans k12)
   generalize w11.setCell ⟨P.nb,65,none⟩ (.int .i64 0)=w12 at HX12 HO12 HH12 HK12 ⊢
   clear k12 HX11 HO11 HH11 HK11 HSl c3 l65 f65
   go_upto_region 17 with fail
   have hb13:=balN (Below.refl w12.heap.size w12) (.cells #[Value.int .u8 0,.int .u8 0] 280)
   have HX13:=Lib.hid (HX12.out.below hb13)
   have HO13:=Lib.hid (HO12.out.kf (KeepF.below hb13))
   have HH13:=Lib.hid (HH12.out.kf (KeepF.below hb13))
   have HK13:=Lib.hid (HK12.out.trans (KeepF.below hb13))
   have HS13:Hid (Own1 I D7 w w12.heap.size 280 #[Value.int .u8 0,.int .u8 0] (w12.alloc (.cells #[Value.int .u8 0,.int .u8 0] 280))∧w.heap.size+1<w12.heap.size):=Lib.hid ⟨⟨HX12.out.free hb13 (Nat.le_refl _) (ltN _ _),HX12.out.c.size,Blk.new _ _ _⟩,HO12.out.2.2.lt⟩
   obtain⟨sb,hsb⟩:∃sb,sb=w12.heap.size:=⟨_,rfl⟩
   rw [←hsb] at HS13 ⊢
   generalize w12.alloc (.cells #[Value.int .u8 0,.int .u8 0] 280)=w13 at HX13 HO13 HH13 HK13 HS13 ⊢
   clear hb13 HX12 HO12 HH12 HK12 hsb
   have l61:w13.cell? ⟨P.nb,61,none⟩=some (.bool false):=HX13.out.lk OK.out.hs hok7 4 (by omega)
   have p66:=HX13.out.put_ok OK.out.hs hok7 66 6 (by omega)
   go_upto_region 20 with fail
   have k14:=HX13.out.kput 66 saidZ
   have HX14:Hid (NdX S I A qt K w P D7 ⟨tkQ K x,x.L.put ins,tkW K x ins,tkL K x ins,x.t,⟨2,age,sh,sr,false,(0,0,0),0,saidZ,x.k.crew,x.k.got⟩⟩ (putRow w13 ⟨P.nb,66,none⟩ saidZ)):=Lib.hid (HX13.out.put OK.out.hs hok7 9 saidZ (by decide) (put_rep OK.out.hk))
   have HO14:=Lib.hid (HO13.out.kf k14)
   have HH14:=Lib.hid (HH13.out.kf k14)
   have HK14:=Lib.hid (HK13.out.trans k14)
   have HS14:=Lib.hid (And.intro (HS13.out.1.kf k14) HS13.out.2)
   generalize putRow w13 ⟨P.nb,66,none⟩ saidZ=w14 at HX14 HO14 HH14 HK14 HS14 ⊢
   clear k14 HX13 HO13 HH13 HK13 HS13 l61 p66
   have hok14:LkM.okL ⟨2,age,sh,sr,false,(0,0,0),0,saidZ,x.k.crew,x.k.got⟩:=⟨rfl,OK.out.hk.2⟩
   have HVw:=Lib.hid (ndx_view HX14.out OK.out.hV OK.out.hVa)
   obtain⟨-,-,-,-,c5,-⟩:=HX14.out.cells OK.out.hs hok14
   go_wp2_with fail
   (with_reducible refine HVw.out.mono ?_)
   rintro e w15 ⟨rfl,hx15,hk15⟩
   have HX15:=Lib.hid hx15
   have HO15:=Lib.hid (HO14.out.kf hk15)
   have HH15:=Lib.hid (HH14.out.kf hk15)
   have HK15:=Lib.hid (HK14.out.trans hk15)
   have HS15:=Lib.hid (And.intro (HS14.out.1.kf hk15) HS14.out.2)
   clear HX14 HO14 HH14 HK14 HS14 HVw hx15 hk15 c5
   have p72:=HX15.out.put_ok OK.out.hs hok14 72 42 (by omega)
   have hvl:=OK.out.hV
   have hva:=OK.out.hVa
   go_upto_region 21 with fail
   have k16:=HX15.out.kput 72 K.V
   have HX16:Hid (NdX S I A qt K w P D7 ⟨tkQ K x,x.L.put ins,tkW K x ins,tkL K x ins,x.t,⟨2,age,sh,sr,false,(0,0,0),0,saidZ,K.V,x.k.got⟩⟩ (putRow w15 ⟨P.nb,72,none⟩ K.V)):=Lib.hid (HX15.out.put OK.out.hs hok14 15 K.V (by omega) (put_crew hok14 hvl))
   have HO16:=Lib.hid (HO15.out.kf k16)
   have HH16:=Lib.hid (HH15.out.kf k16)
   have HK16:=Lib.hid (HK15.out.trans k16)
   have HS16:=Lib.hid (And.intro (HS15.out.1.kf k16) HS15.out.2)
   generalize putRow w15 ⟨P.nb,72,none⟩ K.V=w16 at HX16 HO16 HH16 HK16 HS16 ⊢
   clear k16 HX15 HO15 HH15 HK15 HS15 p72
   have hok16:LkM.okL ⟨2,age,sh,sr,false,(0,0,0),0,saidZ,K.V,x.k.got⟩:=⟨rfl,hvl,OK.out.hk.2.2⟩
   go_upto_region 23 with fail
   have hb17:=balN (Below.refl w16.heap.size w16) (.cells rowZ.toArray 134)
   have HX17:=Lib.hid (HX16.out.below hb17)
   have HO17:=Lib.hid (HO16.out.kf (KeepF.below hb17))
   have HH17:=Lib.hid (HH16.out.kf (KeepF.below hb17))
   have HK17:=Lib.hid (HK16.out.trans (KeepF.below hb17))
   have HS17:=Lib.hid (And.intro (HS16.out.1.kf (KeepF.below hb17)) HS16.out.2)
   have HR17:Hid (Own1 I D7 w w16.heap.size 134 rowZ.toArray (w16.alloc (.cells rowZ.toArray 134))∧sb<w16.heap.size):=Lib.hid ⟨⟨HX16.out.free hb17 (Nat.le_refl _) (ltN _ _),HX16.out.c.size,Blk.new _ _ _⟩,HS16.out.1.2.2.lt⟩
   obtain⟨rb,hrb⟩:∃rb,rb=w16.heap.size:=⟨_,rfl⟩
   rw [←hrb] at HR17 ⊢
   generalize w16.alloc (.cells rowZ.toArray 134)=w17 at HX17 HO17 HH17 HK17 HS17 HR17 ⊢
   clear hb17 HX16 HO16 HH16 HK16 HS16 hrb
   go_cut [] from 182 to 199 (fun wx=> ∃(w20:World) (tv:Value),w20=wx∧NdX S I A qt K w P D7 ⟨tkQ K x,x.L.put ins,tkW K x ins,tkL K x ins,x.t,⟨2,age,sh,sr,false,(0,0,0),0,saidZ,K.V,x.k.got⟩⟩ w20∧Own1 I D7 w (w.heap.size+1) 207 postsZ.toArray w20∧Own1 I D7 w sb 280 #[Value.int .u8 0,.int .u8 0] w20∧Own1 I D7 w rb 134 ((⟨true,.int .i64 age :: (saidZ++(saidZ++K.V)),tabL (tkH K x ins)⟩:Rw).vals tv).toArray w20∧AgA I D7 K.n (tabL (tkH K x ins)) tv w20∧KeepF I D D7 w w20)
   case first=>
    have hn:=ndRowS HX17.out OK.out.hs hok16 rfl rfl rfl
    have HOf:Hid (∀w',Below w17.heap.size w17 w'→Calls Tryz.prog 108 #[.pointer (some ⟨P.nb,0,none⟩)] w' fun e w''=>e=.returned (.agg saidZ.toArray)∧NdX S I A qt K w P D7 ⟨tkQ K x,x.L.put ins,tkW K x ins,tkL K x ins,x.t,⟨2,age,sh,sr,false,(0,0,0),0,saidZ,K.V,x.k.got⟩⟩ w''∧KeepF I D7 D7 w' w''):=Lib.hid fun w' hb=>ndx_offer (HX17.out.below hb) OK.out.hok OK.out.hs hok16 rfl
    go_region_held3 (fun w'=>w'.cell? ⟨P.nb,58,none⟩=some (.int .i64 age)∧(hasRow w' ⟨P.nb,66,none⟩ 6=true∧rowOf w' ⟨P.nb,66,none⟩ 6=saidZ)∧(hasRow w' ⟨P.nb,72,none⟩ 42=true∧rowOf w' ⟨P.nb,72,none⟩ 42=K.V))
     (first | exact hn | exact ndRowS HX18.out OK.out.hs hok16 rfl rfl rfl | exact ndRowS HX19.out OK.out.hs hok16 rfl rfl rfl | exact ndRowS (putOwn HX19.out HR19.out.1.1 HR19.out.1.2.1 0 _) OK.out.hs hok16 rfl rfl rfl)
     ((first
       | (go_at_call 108;(with_reducible refine (HOf.out w17.drew (Below.refl _ _).drew).mono ?_);rintro e w18 ⟨rfl,hx18,hk18⟩;have HX18:=Lib.hid hx18;have K18:=(KeepF.below (I:=I) (D:=D7) (Below.refl w17.heap.size w17).drew).trans hk18;have HO18:=Lib.hid (HO17.out.kf K18);have HH18:=Lib.hid (HH17.out.kf K18);have HK18:=Lib.hid (HK17.out.trans K18);have HS18:=Lib.hid (And.intro (HS17.out.1.kf K18) HS17.out.2);have HR18:=Lib.hid (And.intro (HR17.out.1.kf K18) HR17.out.2);clear hx18 hk18 K18)
       | (go_at_call 109;(with_reducible refine (ndx_table HX18.out OK.out.h4 OK.out.h16 HH18.out).mono ?_);rintro e w19 ⟨tv,rfl,ht19,hx19,hk19⟩;have HX19:=Lib.hid hx19;have HT19:=Lib.hid ht19;have HO19:=Lib.hid (HO18.out.kf hk19);have HK19:=Lib.hid (HK18.out.trans hk19);have HS19:=Lib.hid (And.intro (HS18.out.1.kf hk19) HS18.out.2);have HR19:=Lib.hid (And.intro (HR18.out.1.kf hk19) HR18.out.2);clear hx19 hk19 ht19;have pr:=(HR19.out.1.2.2.whole len_rowZ).2.2;obtain⟨lt1,lt2,lt3⟩:=HT19.out.one)))
    go_wp2_with fail
    go_meet
    have hob:=HS19.out.2
    have hsr:=HR19.out.2
    rw [row_vals age K.V (tabL (tkH K x ins)) tv]
    exact⟨_,tv,rfl,putOwn HX19.out HR19.out.1.1 HR19.out.1.2.1 0 _,HO19.out.far (by omega) 0 _,HS19.out.1.far (by omega) 0 _,HR19.out.1.all (by simp [Rw.vals,rowZ,len_cellZ,saidZ,hvl]),HT19.out.far HR19.out.1.2.2 (by decide) 0 _,HK19.out.putNew HR19.out.1.2.1 0 _⟩
   case rest=>
    have hsb:=HS17.out.2
    have hrb:=HR17.out.2
    clear HX17 HO17 HH17 HK17 HS17 HR17
    obtain⟨w20,tv,rfl,hx20,ho20,hs20,hr20,ht20,hk20⟩:=hcut
    have HX20:=Lib.hid hx20
    have HO20:=Lib.hid ho20
    have HS20:=Lib.hid hs20
    have HR20:=Lib.hid hr20
    have HT20:=Lib.hid ht20
    have HK20:=Lib.hid hk20
    clear hx20 ho20 hs20 hr20 ht20 hk20
    go_upto_region 24 with fail
    obtain⟨own,hown⟩:∃o:Rw,Hid (o=⟨true,.int .i64 age :: (saidZ++(saidZ++K.V)),tabL (tkH K x ins)⟩):=⟨_,Lib.hid rfl⟩
    have hoo:own.ok:=by
     rw [hown.out]
     refine⟨?_,tabL_ok (tabN_ok _ fun s=>LaneM.held_ok HX20.out.lane.ok s)⟩
     have hr:=ownF_range K.n (tkC K x ins) (tkQ K x).2.2
     have ha:okK (.i .i64) (.int .i64 age)=true:=by
      rw [hage.out]
      show (IntKind.i64==IntKind.i64&&(Lit.int .i64 (tkAge K x ins)).wf)=true
      have h1: -1≤tkAge K x ins:=hr.1
      have h2:tkAge K x ins≤1099511627776:=hr.2
      simp [Lit.wf,IntKind.min,IntKind.max,IntKind.signed,IntKind.bits]
      omega
     show (okK (.i .i64) (.int .i64 age)&&okL (saidK++(saidK++viewK)) (saidZ++(saidZ++K.V)))=true
     rw [ha,okL_append (by decide) (okL_append (by decide) OK.out.hVk)]
     rfl
    rw [←hown.out] at HR20
    have hvals:(own.vals tv).length=57:=Rw.len hoo tv
    have HSay:Hid (∀w',Below w20.heap.size w20 w'→Calls Tryz.prog 110 #[.pointer (some ⟨P.lp,0,none⟩),.agg (own.vals tv).toArray] w' fun e w''=> ∃D' g0 g1 m,e=.returned (.tuple #[.agg #[.slice (some ⟨g0,0,none⟩) K.n K.n],.agg #[.slice (some ⟨g1,0,none⟩) K.n K.n]])∧NdX S I A qt K w P D' ⟨tkQ K x,(x.L.put ins).said own,tkW K x ins,tkL K x ins,x.t,⟨2,age,sh,sr,false,(0,0,0),0,saidZ,K.V,x.k.got⟩⟩ w''∧g0≠g1∧w'.heap.size≤m∧m≤g0∧m≤g1∧RowsB (fun b=>m≤b∧b≠g0∧b≠g1) w'' g0 134 (((x.L.put ins).said own).out 0)∧RowsB (fun b=>m≤b∧b≠g0∧b≠g1) w'' g1 134 (((x.L.put ins).said own).out 2)∧KeepF I D7 D' w' w''):=Lib.hid fun w' hb=>by
     have hn:(x.L.put ins).n=K.n:=OK.out.hL
     have hT:=OK.out.hT
     refine (ndx_say (HX20.out.below hb) own hoo rfl (Nat.succ_pos _) (by show x.L.T+1≤_;omega) (by rw [hown.out];exact HT20.out.kf (KeepF.below hb)) OK.out.h16).mono ?_
     rintro e w2 ⟨D',g0,g1,m,rfl,h1,h2,h3,h4,h5,h6,h7,h8⟩
     exact⟨D',g0,g1,m,by rw [←hn],h1,h2,h3,h4,h5,h6,h7,h8⟩
    go_cut [] from 200 to 213 (fun wx=> ∃(w22:World) (D22:NPd) (g0 g1 m:Nat),w22=wx∧OutP S I A qt K w P D D22 ⟨tkQ K x,(x.L.put ins).said own,tkW K x ins,tkL K x ins,x.t,⟨2,age,sh,sr,false,(0,0,0),0,saidZ,K.V,x.k.got⟩⟩ (w.heap.size+1) sb g0 g1 m [.int .u8 0,.slice (some ⟨g0,0,none⟩) K.n K.n,.int .u8 0,.slice (some ⟨g1,0,none⟩) K.n K.n] w22∧g0≠g1∧w.heap.size≤m∧m≤g0∧m≤g1∧w.heap.size+1<m)
    case first=>
     have hn:=sayS HX20.out OK.out.hs hok16 HO20.out len_postsZ HR20.out hvals
     go_region_held3 (fun w'=>w'.cell? ⟨P.nb,0,none⟩=some (.pointer (some ⟨P.lp,0,none⟩))∧(hasRow w' ⟨rb,0,none⟩ 57=true∧rowOf w' ⟨rb,0,none⟩ 57=own.vals tv)∧canPut w' ⟨w.heap.size+1,1,none⟩ 1=true∧canPut w' ⟨w.heap.size+1,3,none⟩ 1=true)
      (first | exact hn | exact sayS HX21.out OK.out.hs hok16 HO21.out len_postsZ HR21.out hvals | exact sayS HPa.out.1 OK.out.hs hok16 HPa.out.2.1 rfl HRa.out hvals | exact sayS HPb.out.1 OK.out.hs hok16 HPb.out.2.1 rfl HRb.out hvals)
      ((go_at_call 110;(with_reducible refine (HSay.out w20.drew (Below.refl _ _).drew).mono ?_);rintro e w21 ⟨D21,g0,g1,m,rfl,hx21,hne,hm,h0,h1,hr0,hr1,hk21⟩;have HX21:=Lib.hid hx21;have K21:=(KeepF.below (I:=I) (D:=D7) (Below.refl w20.heap.size w20).drew).trans hk21;have HO21:=Lib.hid (HO20.out.kf K21);have HR21:=Lib.hid (HR20.out.kf K21);have hobm:w.heap.size+1<m:=Nat.lt_of_lt_of_le HO20.out.2.2.lt hm;have hsbo:sb≠w.heap.size+1:=(by omega);have hrbo:rb≠w.heap.size+1:=(by omega);
        have HP0:Hid (OutP S I A qt K w P D D21 ⟨tkQ K x,(x.L.put ins).said own,tkW K x ins,tkL K x ins,x.t,⟨2,age,sh,sr,false,(0,0,0),0,saidZ,K.V,x.k.got⟩⟩ (w.heap.size+1) sb g0 g1 m postsZ w21):=Lib.hid ⟨hx21,HO21.out,HS20.out.kf K21,hr0,hr1,HK20.out.trans K21⟩;have HM:=Lib.hid (And.intro hne (And.intro h0 (And.intro h1 hobm)));
        have HPa:=Lib.hid (HP0.out.put hobm h0 h1 hsbo 1 [.slice (some ⟨g0,0,none⟩) K.n K.n]);have HPb:=Lib.hid (HPa.out.put hobm h0 h1 hsbo 3 [.slice (some ⟨g1,0,none⟩) K.n K.n]);have HRa:=Lib.hid (HR21.out.far hrbo 1 [.slice (some ⟨g0,0,none⟩) K.n K.n]);have HRb:=Lib.hid (HRa.out.far hrbo 3 [.slice (some ⟨g1,0,none⟩) K.n K.n]);clear hx21 hk21 K21 hne hm h0 h1 hr0 hr1))
     go_wp2_with fail
     go_meet
     exact⟨_,_,_,_,_,rfl,HPb.out,HM.out.1,by have:=HM.out.2.2.2;omega,HM.out.2.1,HM.out.2.2.1,HM.out.2.2.2⟩
    case rest=>
     clear HX20 HO20 HS20 HR20 HT20 HK20 HSay
     obtain⟨w22,D22,g0,g1,m,rfl,ho22,hm⟩:=hcut
     have HO22:=Lib.hid ho22
     have HM:=Lib.hid hm
     clear ho22 hm
     have hsbo:sb≠w.heap.size+1:=by omega
     go_upto_region 26 with fail
     obtain⟨oc,hoc⟩:∃oc:List Value,Hid (oc=[.int .u8 0,.slice (some ⟨g0,0,none⟩) K.n K.n,.int .u8 0,.slice (some ⟨g1,0,none⟩) K.n K.n]):=⟨_,Lib.hid rfl⟩
     rw [←hoc.out] at HO22
     go_loopw [214,15] (fun i s15 wr=> ∃k:Nat,k≤2∧i=.int .i64 k∧OutP S I A qt K w P D D22 ⟨tkQ K x,(x.L.put ins).said own,tkW K x ins,tkL K x ins,x.t,⟨2,age,sh,sr,false,(0,0,0),0,saidZ,K.V,x.k.got⟩⟩ (w.heap.size+1) sb g0 g1 m oc wr) (fun i _ _=>2 - (intOf i).toNat)
     case atStart=>exact⟨0,by omega,rfl,HO22.out⟩
     case round=>
      obtain⟨k,hk,rfl,hO⟩:=hrel
      have HO:=Lib.hid hO
      clear hO
      have t0:∀i,wr.frozen? ⟨w.heap.size+1,i,none⟩=false:=HO.out.2.1.2.2.frozen
      have t1:=t0 0
      have t2:=t0 2
      clear t0
      have v0:wr.cell? ⟨w.heap.size+1,0,none⟩=some (.int .u8 0):=by rw [HO.out.2.1.2.2.cell,hoc.out];rfl
      have v2:wr.cell? ⟨w.heap.size+1,2,none⟩=some (.int .u8 0):=by rw [HO.out.2.1.2.2.cell,hoc.out];rfl
      have y0:wr.cell? ⟨sb,0,none⟩=some (.int .u8 0):=HO.out.2.2.1.2.2.cell 0
      have y1:wr.cell? ⟨sb,1,none⟩=some (.int .u8 0):=HO.out.2.2.1.2.2.cell 1
      have Q0:=Lib.hid (HO.out.set HM.out.2.2.2.2 HM.out.2.2.1 HM.out.2.2.2.1 hsbo 0 (.int .u8 0))
      have Q2:=Lib.hid (HO.out.set HM.out.2.2.2.2 HM.out.2.2.1 HM.out.2.2.2.1 hsbo 2 (.int .u8 0))
      have e0:Hid (oc.set 0 (.int .u8 0)=oc):=Lib.hid (by rw [hoc.out];rfl)
      have e2:Hid (oc.set 2 (.int .u8 0)=oc):=Lib.hid (by rw [hoc.out];rfl)
      rw [e0.out] at Q0
      rw [e2.out] at Q2
      rcases (show k=0∨k=1∨k=2 by omega) with rfl | rfl | rfl
      ·go_wp2_with fail
       exact⟨⟨1,by omega,rfl,Q0.out⟩,by simp [intOf]⟩
      ·go_wp2_with fail
       exact⟨⟨2,by omega,rfl,Q2.out⟩,by simp [intOf]⟩
      ·clear v0 v2 y0 y1 t1 t2
       have hol:oc.length=4:=by rw [hoc.out];rfl
       have hoa:oc.all cell1=true:=by rw [hoc.out];rfl
       obtain⟨z1,z2,z3⟩:=HO.out.2.1.2.2.whole hol
       have HZ:=Lib.hid (HO.out.put HM.out.2.2.2.2 HM.out.2.2.1 HM.out.2.2.2.1 hsbo 0 oc)
       have e4:Hid (oc.take 0++oc++oc.drop (0+oc.length)=oc):=Lib.hid (by simp)
       rw [e4.out] at HZ
       have HE:Hid (TickP S I A qt K w P D x ins (.returned (.agg oc.toArray)) (putRow wr ⟨w.heap.size+1,0,none⟩ oc)):=Lib.hid (by
        obtain⟨f1,f2,f3,f4,f5,f6⟩:=HZ.out
        obtain⟨m1,m2,m3,m4,m5⟩:=HM.out
        have hX:(⟨tkQ K x,(x.L.put ins).said own,tkW K x ins,tkL K x ins,x.t,⟨2,age,sh,sr,false,(0,0,0),0,saidZ,K.V,x.k.got⟩⟩:NdS)=tkX K x ins:=by
         rw [hown.out,hage.out,hsh.out,hsr.out]
         rfl
        rw [hX] at f1 f4 f5
        rw [hoc.out] at f1 f4 f5 f6 ⊢
        exact⟨D22,g0,g1,m,rfl,f1,m1,m2,m3,m4,f4,f5,f6⟩)
       have HF:=Lib.hid (HZ.out.2.1.2.2.whole hol)
       clear Q0 Q2 e0 e2
       go_wp2_with fail
       (try simp only [Exit.inBlock,Exit.then,Exit.noGoto_ret])
       first | refine bodyPost_ret (ret_rowB (n:=4) rfl ag_posts _ _ _ rfl ?_) rfl ?_ | refine bodyPost_end (ret_rowB (n:=4) rfl ag_posts _ _ _ rfl ?_) rfl ?_
       ·exact HF.out.1
       ·rw [HF.out.2.1]
        exact HE.out
end Go.Proofs.YtdilbjikeilhbaaGreatDoor
