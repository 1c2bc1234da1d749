import Derived.Test.YtdilbjikeilhbaaGreatDoorGn27
import Derived.Laws.EntriesVeiled
namespace Go.Proofs.YtdilbjikeilhbaaGreatDoor
open Go.RowKit
set_option linter.unusedVariables false
set_option linter.unusedSimpArgs false
theorem withE_zero {x lo hi:Int} (h:withE x lo hi=0):lo≤x∧x≤hi:=by
 unfold withE at h
 split at h
 ·omega
 ·split at h <;> omega
def cfE (c:Cfg):List Int:=[withE c.N 4 16,withE c.P.length 2 8,mustE (insideB c.N c.P&&sortedB c.P&&singleB (halvesL c.N c.P)),withE c.Sl.length 1 16,mustE (insideB (c.P.length:Nat) c.Sl&&coverB c.P.length c.Sl),
 withE c.lo (c.N+116) 4096,firstE [mustE (decide (((c.B.length:Nat):Int)=c.N)),eachE 0 4096 c.B],withE c.St.length 0 8,stE c,eachE 1 100 [c.mi,c.go,c.fr]]
theorem rule_any (S:Nat→Prop) (A:CfA) (c:Cfg) (w:World) (h:CfR S w A c) (hsg:SgW w) (k f:Nat) (e:Int) (hf:ruleFs[k]? =some f) (he:(cfE c)[k]? =some e) (hpre:∀j,j<k→(cfE c)[j]? =some 0) :
 Calls Tryz.prog f #[.agg (cfV A c).toArray] w (RuS e w):=by
 have hp:=h.p.1
 have hs:=h.s.1
 have hb:=h.b.1
 have ht:=h.t.1
 match k,hf,he,hpre with
 | 0,hf,he,_=>cases hf;cases he;exact r1_any A c w
 | 1,hf,he,_=>cases hf;cases he;rw [hp];exact r2_any A c w
 | 2,hf,he,hpre=>
   have h1:withE c.P.length 2 8=0:=by have:=hpre 1 (by omega);simpa [cfE] using this
   cases hf;cases he
   exact r3_any S A c w h hsg (by have:=withE_zero h1;omega)
 | 3,hf,he,_=>cases hf;cases he;rw [hs];exact r4_any A c w
 | 4,hf,he,hpre=>
   have h1:withE c.P.length 2 8=0:=by have:=hpre 1 (by omega);simpa [cfE] using this
   cases hf;cases he
   rw [hp]
   exact r5_any S A c w h (by have:=withE_zero h1;omega)
 | 5,hf,he,hpre=>
   have h1:withE c.N 4 16=0:=by have:=hpre 0 (by omega);simpa [cfE] using this
   cases hf;cases he
   exact r6_any A c w (withE_zero h1).1 (withE_zero h1).2
 | 6,hf,he,_=>cases hf;cases he;rw [hb];exact r7_any S A c w h
 | 7,hf,he,_=>cases hf;cases he;rw [ht];exact r8_any A c w
 | 8,hf,he,_=>cases hf;cases he;exact r9_all S A c w h
 | 9,hf,he,_=>cases hf;cases he;exact r10_any A c w
 | n+10,hf,_,_=>simp [ruleFs] at hf
def NewNo (c:Cfg) (w:World) (e:Ending) (w':World):Prop:=e=.returned (.tuple #[.pointer none,.int .i64 (firstE (cfE c))])∧Below w.heap.size w w'
theorem len_cfE (c:Cfg):(cfE c).length=10:=rfl
theorem firstE_pre {l:List Int}:∀{k:Nat} {e:Int},(∀j,j<k→l[j]? =some 0)→l[k]? =some e→e≠0→firstE l=e:=by
 induction l with
 | nil=>intro k e _ h _;simp at h
 | cons x r ih=>
   intro k e hp hk he
   cases k with
   | zero=>
     simp at hk
     subst hk
     simp [firstE,he]
   | succ k=>
     have h0:=hp 0 (by omega)
     simp at h0
     subst h0
     simp [firstE]
     exact ih (k:=k) (fun j hj=>by have:=hp (j+1) (by omega);simpa using this) (by simpa using hk) he
theorem rule_enters (k f:Nat) (hf:ruleFs[k]? =some f):∀args w,(callFunc f args).run Tryz.prog w=.ok (.enter f args) w:=
 match k,hf with
 | 0,hf=>by cases hf;exact enters_of Tryz.func57 (by kernel_rfl) rfl
 | 1,hf=>by cases hf;exact enters_of Tryz.func59 (by kernel_rfl) rfl
 | 2,hf=>by cases hf;exact enters_of Tryz.func60 (by kernel_rfl) rfl
 | 3,hf=>by cases hf;exact enters_of Tryz.func65 (by kernel_rfl) rfl
 | 4,hf=>by cases hf;exact enters_of Tryz.func66 (by kernel_rfl) rfl
 | 5,hf=>by cases hf;exact enters_of Tryz.func68 (by kernel_rfl) rfl
 | 6,hf=>by cases hf;exact enters_of Tryz.func69 (by kernel_rfl) rfl
 | 7,hf=>by cases hf;exact enters_of Tryz.func72 (by kernel_rfl) rfl
 | 8,hf=>by cases hf;exact enters_of Tryz.func73 (by kernel_rfl) rfl
 | 9,hf=>by cases hf;exact enters_of Tryz.func74 (by kernel_rfl) rfl
 | n+10,hf=>by simp [ruleFs] at hf
set_option maxRecDepth 100000 in
set_option maxHeartbeats 2000000 in
theorem newNo_any (S:Nat→Prop) (A:CfA) (c:Cfg) (w:World) (h:CfR S w A c) (hsg:SgW w) (hno:firstE (cfE c)≠0):Calls Tryz.prog 20 #[.agg (cfV A c).toArray] w (NewNo c w):=by
 obtain⟨cv,hcv⟩:∃cv,cv=cfV A c:=⟨_,rfl⟩
 have HRU:Hid (∀(k f:Nat) (e:Int),ruleFs[k]? =some f→(cfE c)[k]? =some e→(∀j,j<k→(cfE c)[j]? =some 0)→∀w',Below w.heap.size w w'→Calls Tryz.prog f #[.agg cv.toArray] w' (RuS e w')):=Lib.hid fun k f e hf he hpre w' hb=>by
  rw [hcv]
  exact rule_any S A c w' (h.below hb) (hsg.below hb) k f e hf he hpre
 have HL:=Lib.hid fun w=>rules_any w
 have HCV:=Lib.hid hcv
 have HNO:=Lib.hid hno
 rw [←hcv]
 clear hcv h hsg hno
 go_enter Tryz.func20,Tryz.ntmps20
 go_upto_region 1 with fail
 have HB0:Hid (Below w.heap.size w (w.alloc (.cells cv.toArray 25))∧Blk (w.alloc (.cells cv.toArray 25)) w.heap.size 25 cv.toArray):=Lib.hid ⟨(Below.refl _ _).alloc (Nat.le_refl _) _,Blk.new _ _ _⟩
 generalize w.alloc (.cells cv.toArray 25)=w0 at HB0 ⊢
 go_wp2_with fail
 (with_reducible refine (HL.out _).mono ?_)
 rintro e w1 ⟨rfl,hk1,hb1⟩
 have HK1:=Lib.hid (And.intro hk1 (And.intro (HB0.out.1.trans (hb1.mono HB0.out.1.size)) (HB0.out.2.below hb1 HB0.out.2.lt)))
 clear hk1 hb1
 go_wp2_with fail
 have hRK:=HK1
 go_loopw [12] (fun i wr=> ∃k:Nat,k≤10∧i=.int .i64 k∧Hid (∀j,j<k→(cfE c)[j]? =some 0)∧Hid (Blk wr w0.heap.size 157 ((ruleFs.map fun f=>Value.func (.func f) #[] #[]).toArray)∧Below w.heap.size w wr∧Blk wr w.heap.size 25 cv.toArray)) (fun i _=>10 - (intOf i).toNat)
 case atStart=>exact⟨0,by omega,rfl,Lib.hid (fun j hj=>absurd hj (by omega)),HK1⟩
 case round=>
  obtain⟨k,hk,rfl,HP,HR⟩:=hrel
  clear HK1 hRK
  by_cases hlt:k<10
  ·have hlt':(k:Int)<10:=by omega
   have hk0:(0:Int)≤k:=by omega
   obtain⟨f,hf⟩:∃f,ruleFs[k]? =some f:=⟨_,List.getElem?_eq_getElem hlt⟩
   obtain⟨e,he⟩:∃e,(cfE c)[k]? =some e:=⟨_,List.getElem?_eq_getElem hlt⟩
   have hcf:wr.cell? ⟨w0.heap.size,k,none⟩=some (.func (.func f) #[] #[]):=by
    rw [HR.out.1.cell k,List.getElem?_toArray,List.getElem?_map,hf]
    rfl
   have HF:=Lib.hid (And.intro hf he)
   clear hf he
   have hN:=Blk.new wr 157 #[Value.nilFunc]
   have hca:(wr.alloc (.cells #[Value.nilFunc] 157)).cell? ⟨wr.heap.size,0,none⟩=some Value.nilFunc:=hN.cell 0
   have hfa:(wr.alloc (.cells #[Value.nilFunc] 157)).frozen? ⟨wr.heap.size,0,none⟩=false:=hN.frozen 0
   have hb2:Below wr.heap.size wr (wr.alloc (.cells #[Value.func (.func f) #[] #[]] 157)):=(Below.refl _ _).alloc (Nat.le_refl _) _
   have hc2:(wr.alloc (.cells #[Value.func (.func f) #[] #[]] 157)).cell? ⟨wr.heap.size,0,none⟩=some (.func (.func f) #[] #[]):=(Blk.new wr 157 #[Value.func (.func f) #[] #[]]).cell 0
   have HC2:=Lib.hid (And.intro hb2 hc2)
   clear hN hb2 hc2
   go_upto_region 4 with fail
   generalize wr.alloc (.cells #[Value.func (.func f) #[] #[]] 157)=w2 at HC2 ⊢
   have HK2:=Lib.hid (HR.out.2.2.below HC2.out.1 HR.out.2.2.lt)
   obtain⟨d1,d2,-⟩:=HK2.out.whole (n:=9) (by rw [HCV.out];rfl)
   have hc2:=HC2.out.2
   have HC:=Lib.hid (HRU.out k f e HF.out.1 HF.out.2 HP.out w2 (HR.out.2.1.trans (HC2.out.1.mono HR.out.2.1.size)))
   have hent:∀args w,(callFunc f args).run Tryz.prog w=.ok (.enter f args) w:=rule_enters k f HF.out.1
   clear hca hfa hcf
   go_wp2_with fail
   (with_reducible refine HC.out.mono ?_)
   rintro r w3 ⟨rfl,hb3⟩
   have HR3:=Lib.hid (And.intro ((HR.out.1.below HC2.out.1 HR.out.1.lt).below hb3 (by have h1:=HR.out.1.lt;have h2:=HC2.out.1.size;omega)) (And.intro (HR.out.2.1.trans ((HC2.out.1.trans (hb3.mono HC2.out.1.size)).mono HR.out.2.1.size)) (HK2.out.below hb3 HK2.out.lt)))
   clear hb3 d1 d2 hc2
   by_cases he0:e=0
   ·subst he0
    have HP2:Hid (∀j,j<k+1→(cfE c)[j]? =some 0):=Lib.hid fun j hj=>by
     by_cases hjk:j<k
     ·exact HP.out j hjk
     ·rw [show j=k by omega];exact HF.out.2
    go_wp2_with fail
    go_roundw
    case rel=>exact⟨k+1,by omega,by simp,HP2,HR3⟩
    case measure=>simp [intOf];omega
   ·have hfin:firstE (cfE c)=e:=firstE_pre HP.out HF.out.2 he0
    have HFI:=Lib.hid hfin
    clear hfin
    go_wp2_with fail
    go_ret2
    exact⟨by rw [HFI.out];rfl,HR3.out.2.1⟩
  ·obtain rfl:k=10:=by omega
   exfalso
   refine HNO.out ?_
   have h0:=HP.out
   have hx:∀(l:List Int),(∀j,j<l.length→l[j]? =some 0)→firstE l=0:=by
    intro l
    induction l with
    | nil=>intro _;rfl
    | cons x r ih=>
      intro hh
      have h1:=hh 0 (by simp)
      simp at h1
      subst h1
      simp [firstE]
      exact ih fun j hj=>by have:=hh (j+1) (by simp;omega);simpa using this
   exact hx _ h0
theorem singleB_nodup {l:List Int} (h:l.Nodup):singleB l=true:=by
 have hs:(srtI l).Nodup:=(List.mergeSort_perm l _).nodup_iff.2 h
 have hl:(srtI l).length=l.length:=(List.mergeSort_perm l _).length_eq
 unfold singleB
 rw [Lib.compact_all,hl]
 ·simp
 ·intro j hj
  simp [Lib.keeps]
  by_cases h0:j=0
  ·exact .inl h0
  ·right
   rw [List.getElem?_eq_getElem hj,List.getElem?_eq_getElem (show j - 1<(srtI l).length by omega)]
   simp only [Option.getD_some]
   intro he
   have:=(List.getElem_inj hs).1 he
   omega
def PairOk (N:Int) (P:List Int):Prop:=∀i a,P[i]? =some a→(0≤a∧a<N)∧(∀p,0<i→P[i - 1]? =some p→p<a)∧a ∉ halvesL N (P.take i)∧stepE N a ∉ halvesL N (P.take i)
theorem stepE_ne {N a:Int} (h1:4≤N) (h2:N≤16) (h3:0≤a) (h4:a<N):stepE N a≠a:=by
 rw [stepE,if_pos ⟨⟨h1,h2⟩,h3,h4⟩]
 by_cases h:a+1<N
 ·rw [Int.emod_eq_of_lt (by omega) h];omega
 ·rw [show a+1=N by omega,Int.emod_self];omega
theorem PairOk.nodup {N:Int} {P:List Int} (h:PairOk N P) (h1:4≤N) (h2:N≤16):∀k,k≤P.length→(halvesL N (P.take k)).Nodup:=by
 intro k
 induction k with
 | zero=>intro _;simp [halvesL]
 | succ k ih=>
   intro hk
   have hz:P[k]? =some (P[k]'(by omega)):=List.getElem?_eq_getElem (by omega)
   obtain⟨ha,-,hn1,hn2⟩:=h k _ hz
   rw [halvesL_step hz,List.nodup_append]
   refine⟨ih (by omega),?_,?_⟩
   ·have:=stepE_ne h1 h2 ha.1 ha.2
    simp;omega
   ·intro x hx y hy he
    subst he
    simp at hy
    rcases hy with rfl | rfl
    ·exact hn1 hx
    ·exact hn2 hx
theorem PairOk.sorted {N:Int} {P:List Int} (h:PairOk N P):sortedB P=true:=by
 unfold sortedB
 rw [List.all_eq_true]
 intro i hi
 rw [List.mem_range] at hi
 have h1:P[i]? =some (P[i]'(by omega)):=List.getElem?_eq_getElem (by omega)
 have h2:P[i+1]? =some (P[i+1]'(by omega)):=List.getElem?_eq_getElem (by omega)
 have:=(h (i+1) _ h2).2.1 _ (by omega) (by rw [Nat.add_sub_cancel];exact h1)
 rw [List.getD_eq_getElem?_getD,List.getD_eq_getElem?_getD,h1,h2]
 simp
 omega
theorem insideB_of {N:Int} {l:List Int} (h:∀z ∈ l,0≤z∧z<N):insideB N l=true:=by
 unfold insideB
 rw [List.all_eq_true]
 intro z hz
 simpa using h z hz
theorem coverB_of {n:Nat} {l:List Int} (h:∀i:Nat,i<n→(i:Int) ∈ l):coverB n l=true:=by
 unfold coverB
 rw [List.all_eq_true]
 intro i hi
 unfold hasB
 rw [List.any_eq_true]
 exact⟨_,h i (List.mem_range.1 hi),by simp⟩
theorem withE_ok {x lo hi:Int} (h1:lo≤x) (h2:x≤hi):withE x lo hi=0:=by
 unfold withE
 rw [if_neg (by omega),if_neg (by omega)]
theorem eachE_ok {lo hi:Int}:∀{l:List Int},(∀z ∈ l,lo≤z∧z≤hi)→eachE lo hi l=0
 | [],_=>rfl
 | z :: r,h=>by
   rw [eachE,if_pos (withE_ok (h z (by simp)).1 (h z (by simp)).2)]
   exact eachE_ok fun y hy=>h y (by simp [hy])
structure RefOk (c:Cfg):Prop where
 n:4≤c.N∧c.N≤16
 p:2≤c.P.length∧c.P.length≤8
 pr:PairOk c.N c.P
 s:1≤c.Sl.length∧c.Sl.length≤16
 si:∀z ∈ c.Sl,0≤z∧z<(c.P.length:Nat)
 sc:∀i:Nat,i<c.P.length→(i:Int) ∈ c.Sl
 lo:c.N+116≤c.lo∧c.lo≤4096
 bl:((c.B.length:Nat):Int)=c.N
 b:∀z ∈ c.B,0≤z∧z≤4096
 t:c.St.length≤8
 st:stOk c
 mi:1≤c.mi∧c.mi≤100
 go:1≤c.go∧c.go≤100
 fr:1≤c.fr∧c.fr≤100
theorem RefOk.cfE {c:Cfg} (h:RefOk c):cfE c=[0,0,0,0,0,0,0,0,0,0]:=by
 have hin:insideB c.N c.P=true:=insideB_of fun z hz=>by
  obtain⟨i,hi⟩:=List.mem_iff_getElem?.1 hz
  exact (h.pr i z hi).1
 have hsg:singleB (halvesL c.N c.P)=true:=singleB_nodup (by have:=h.pr.nodup h.n.1 h.n.2 c.P.length (Nat.le_refl _);rwa [List.take_length] at this)
 have h1:=withE_ok h.n.1 h.n.2
 have h2:withE c.P.length 2 8=0:=withE_ok (by have:=h.p.1;omega) (by have:=h.p.2;omega)
 have h4:withE c.Sl.length 1 16=0:=withE_ok (by have:=h.s.1;omega) (by have:=h.s.2;omega)
 have h6:=withE_ok h.lo.1 h.lo.2
 have h7:eachE 0 4096 c.B=0:=eachE_ok h.b
 have h8:withE c.St.length 0 8=0:=withE_ok (by omega) (by have:=h.t;omega)
 have h10:eachE 1 100 [c.mi,c.go,c.fr]=0:=eachE_ok (by
  intro z hz
  simp at hz
  rcases hz with rfl | rfl | rfl
  ·exact h.mi
  ·exact h.go
  ·exact h.fr)
 have hb:decide (((c.B.length:Nat):Int)=c.N)=true:=by simpa using h.bl
 have h9:stE c=0:=stE_zero fun s hs=>by
  obtain⟨a1,a2,a3,a4⟩:=h.st s hs
  unfold stP
  rw [decide_eq_true a1,decide_eq_true a2,withE_ok a3 a4]
  rfl
 rw [Proofs.YtdilbjikeilhbaaGreatDoor.cfE,h9,h1,h2,hin,h.pr.sorted,hsg,h4,insideB_of h.si,coverB_of h.sc,h6,h7,h8,h10,hb]
 rfl
end Go.Proofs.YtdilbjikeilhbaaGreatDoor
