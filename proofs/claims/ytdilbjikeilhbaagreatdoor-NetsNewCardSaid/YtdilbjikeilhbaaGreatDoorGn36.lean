import Derived.Test.YtdilbjikeilhbaaGreatDoorGn35
namespace Go.Proofs.YtdilbjikeilhbaaGreatDoor
open Go.RowKit
set_option linter.unusedVariables false
set_option linter.unusedSimpArgs false
theorem rwithin2_any (x lo hi:Int) (w:World):Calls Tryz.prog 43 #[.int .i64 x,.int .i64 lo,.int .i64 hi] w fun e w'=>w=w'∧((e=.returned (.int .i64 0)∧lo≤x∧x≤hi)∨∃k:Int,(¬k=0∧withE x lo hi=k)∧e=.returned (.int .i64 k)):=by
 refine (rwithin_any x lo hi w).mono ?_
 rintro e w' ⟨rfl,rfl⟩
 refine⟨rfl,?_⟩
 by_cases h:withE x lo hi=0
 ·exact .inl ⟨by rw [h],withE_zero h⟩
 ·exact .inr ⟨_,⟨h,rfl⟩,rfl⟩
def NewR (c:Cfg) (w:World) (e:Ending) (w':World):Prop:=e=.returned (.int .i64 (firstE (cfE c)))∧(firstE (cfE c)=0→RefOk c)∧Below w.heap.size w w'
theorem NewR.no {c:Cfg} {w w':World} {k:Int} (hk:¬k=0) (j:Nat) (hp:Pre c j) (hj:(cfE c)[j]? =some k) (h:Below w.heap.size w w'):NewR c w (.returned (.int .i64 k)) w':=by
 have:=cfE_at c j hp hj hk
 exact⟨by rw [this],fun h=>absurd (this.symm.trans h) hk,h⟩
set_option maxRecDepth 100000 in
set_option maxHeartbeats 4000000 in
theorem rnew04_any (S:Nat→Prop) (A:CfA) (c:Cfg) (w:World) (h:CfR S w A c):Calls Tryz.prog 24 #[.agg (cfV A c).toArray] w (NewR c w):=by
 obtain⟨cv,hcv⟩:∃cv,cv=cfV A c:=⟨_,rfl⟩
 rw [←hcv]
 have HCV:=Lib.hid hcv
 have HCF:=Lib.hid h
 have HW:Hid _:=Lib.hid (fun x lo hi w=>rwithin2_any x lo hi w)
 have hpl:c.P.length=A.pn:=h.p.1
 have hsl:c.Sl.length=A.sn:=h.s.1
 have hbl:c.B.length=A.bn:=h.b.1
 have htl:c.St.length=A.tn:=h.t.1
 obtain⟨⟨hp1,hp2⟩,⟨hs1,hs2⟩,⟨hb1,hb2⟩,⟨ht1,ht2⟩⟩:=h.cp
 unfold maxLen at hp2 hs2 hb2 ht2
 have HP:Hid (4≤c.N∧c.N≤16→c.P.length≤8→∀w',Below w.heap.size w w'→Calls Tryz.prog 44 #[.agg cv.toArray] w' (RetB (PairOk c.N c.P) w')):=Lib.hid fun h1 h2 w' hb=>by rw [hcv];exact rpairs_any S A c w' (h.below hb) h1 h2
 have HS:Hid (c.P.length≤8→∀w',Below w.heap.size w w'→Calls Tryz.prog 45 #[.agg cv.toArray] w' (RetB (SlotsOk c.P.length c.Sl) w')):=Lib.hid fun h2 w' hb=>by rw [hcv];exact rslots_any S A c w' (h.below hb) h2
 clear hcv h
 go_enter Tryz.func24,Tryz.ntmps24
 go_upto_region 1 with fail
 have HB0:Hid (Below w.heap.size w (w.alloc (.cells cv.toArray 25))∧Blk (w.alloc (.cells cv.toArray 25)) w.heap.size 25 cv.toArray):=Lib.hid ⟨(Below.refl _ _).alloc (Nat.le_refl _) _,Blk.new _ _ _⟩
 generalize w.alloc (.cells cv.toArray 25)=w0 at HB0 ⊢
 have hw0:w.heap.size<w0.heap.size:=HB0.out.2.lt
 have FC:Hid (∀w',Below w0.heap.size w0 w'→w'.cell? ⟨w.heap.size,0,none⟩=some (.int .i64 c.N)∧w'.cell? ⟨w.heap.size,1,none⟩=some (.slice A.pa A.pn A.pc)∧w'.cell? ⟨w.heap.size,2,none⟩=some (.slice A.sa A.sn A.sc)∧w'.cell? ⟨w.heap.size,3,none⟩=some (.int .i64 c.lo)∧w'.cell? ⟨w.heap.size,4,none⟩=some (.slice A.ba A.bn A.bc)∧w'.cell? ⟨w.heap.size,5,none⟩=some (.slice A.ta A.tn A.tc)∧w'.cell? ⟨w.heap.size,6,none⟩=some (.int .i64 c.mi)∧w'.cell? ⟨w.heap.size,7,none⟩=some (.int .i64 c.go)∧w'.cell? ⟨w.heap.size,8,none⟩=some (.int .i64 c.fr)∧hasRow w' ⟨w.heap.size,0,none⟩ 9=true∧rowOf w' ⟨w.heap.size,0,none⟩ 9=cv):=Lib.hid fun w' hb=>by
  have hB:=HB0.out.2.below hb hw0
  obtain⟨d1,d2,-⟩:=hB.whole (n:=9) (by rw [HCV.out];rfl)
  rw [HCV.out] at hB
  obtain⟨c0,c1,c2,c3,c4,c5,c6,c7,c8⟩:=cfV_cells hB
  exact⟨c0,c1,c2,c3,c4,c5,c6,c7,c8,d1,d2⟩
 obtain⟨pa,pn,pc,sa,sn,sc,ba,bn,bc,ta,tn,tc⟩:=A
 simp only at hpl hsl hbl htl hp1 hp2 hs1 hs2 hb1 hb2 ht1 ht2 FC
 obtain⟨c0,c1,c2,c3,c4,c5,c6,c7,c8,d1,d2⟩:=FC.out w0 (Below.refl _ _)
 have HNO:Hid (∀k:Int,¬k=0→∀w',Below w0.heap.size w0 w'→∀j,Pre c j→(cfE c)[j]? =some k→NewR c w (.returned (.int .i64 k)) w'):=Lib.hid fun k hk w' hb j hp hj=>NewR.no hk j hp hj (HB0.out.1.trans (hb.mono HB0.out.1.size))
 have HPL:=Lib.hid (And.intro hpl (And.intro hsl (And.intro hbl htl)))
 clear hpl hsl hbl htl
 obtain⟨N,hN⟩:∃N,Hid (N=c.N):=⟨_,Lib.hid rfl⟩
 rw [←hN.out] at c0
 go_wp2_with fail
 (with_reducible refine (HW.out _ _ _ _).mono ?_)
 rintro e w' ⟨rfl,(⟨rfl,g1,g2⟩ | ⟨k,⟨hk,hkk⟩,rfl⟩)⟩
 rotate_left 1
 ·go_wp2_with fail
  go_ret
  exact HNO.out k hk _ (Below.refl _ _) 0 ⟨fun h=>absurd h (by omega),fun h=>absurd h (by omega),fun h=>absurd h (by omega),fun h=>absurd h (by omega),fun h=>absurd h (by omega),fun h=>absurd h (by omega),fun h=>absurd h (by omega),fun h=>absurd h (by omega),fun h=>absurd h (by omega)⟩ (by rw [←hkk,hN.out];rfl)
 have G1:Hid (4≤c.N∧c.N≤16):=Lib.hid (by rw [←hN.out];exact⟨g1,g2⟩)
 go_wp2_with fail
 (with_reducible refine (HW.out _ _ _ _).mono ?_)
 rintro e w' ⟨rfl,(⟨rfl,g3,g4⟩ | ⟨k,⟨hk,hkk⟩,rfl⟩)⟩
 rotate_left 1
 ·go_wp2_with fail
  go_ret
  exact HNO.out k hk _ (Below.refl _ _) 1 ⟨fun _=>G1.out,fun h=>absurd h (by omega),fun h=>absurd h (by omega),fun h=>absurd h (by omega),fun h=>absurd h (by omega),fun h=>absurd h (by omega),fun h=>absurd h (by omega),fun h=>absurd h (by omega),fun h=>absurd h (by omega)⟩ (by rw [←hkk,←HPL.out.1];rfl)
 have G2:Hid (2≤c.P.length∧c.P.length≤8):=Lib.hid (by have:=HPL.out.1;omega)
 go_wp2_with fail
 (with_reducible refine (HP.out G1.out G2.out.2 _ HB0.out.1).mono ?_)
 rintro e w1 ⟨b1,rfl,g5,hb⟩
 have HB1:=Lib.hid hb
 have G3:=Lib.hid g5
 obtain⟨c0',c1',c2',c3',c4',c5',c6',c7',c8',d1',d2'⟩:=FC.out w1 hb
 clear hb g5 c0 c1 c2 c3 c4 c5 c6 c7 c8 d1 d2
 rw [←hN.out] at c0'
 cases b1 with
 | false=>
   go_wp2_with fail
   go_ret
   exact HNO.out 1 (by decide) _ HB1.out 2 ⟨fun _=>G1.out,fun _=>G2.out,fun h=>absurd h (by omega),fun h=>absurd h (by omega),fun h=>absurd h (by omega),fun h=>absurd h (by omega),fun h=>absurd h (by omega),fun h=>absurd h (by omega),fun h=>absurd h (by omega)⟩ (by
    have:(insideB c.N c.P&&sortedB c.P&&singleB (halvesL c.N c.P))=false:=Bool.eq_false_iff.2 fun h=>by have:=G3.out.2 ((pairOk_iff G1.out.1 G1.out.2).1 h);cases this
    show some (mustE _)=_
    rw [this];rfl)
 | true=>
   go_wp2_with fail
   (with_reducible refine (HW.out _ _ _ _).mono ?_)
   rintro e w' ⟨rfl,(⟨rfl,g6,g7⟩ | ⟨k,⟨hk,hkk⟩,rfl⟩)⟩
   rotate_left 1
   ·go_wp2_with fail
    go_ret
    exact HNO.out k hk _ HB1.out 3 ⟨fun _=>G1.out,fun _=>G2.out,fun _=>(G3.out.1 (by first | rfl | trivial)),fun h=>absurd h (by omega),fun h=>absurd h (by omega),fun h=>absurd h (by omega),fun h=>absurd h (by omega),fun h=>absurd h (by omega),fun h=>absurd h (by omega)⟩ (by rw [←hkk,←HPL.out.2.1];rfl)
   have G4:Hid (1≤c.Sl.length∧c.Sl.length≤16):=Lib.hid (by have:=HPL.out.2.1;omega)
   go_wp2_with fail
   (with_reducible refine (HS.out G2.out.2 _ (HB0.out.1.trans (HB1.out.mono HB0.out.1.size))).mono ?_)
   rintro e w2 ⟨b2,rfl,g8,hb⟩
   have HB2:=Lib.hid (HB1.out.trans (hb.mono HB1.out.size))
   have G5:=Lib.hid g8
   obtain⟨c0,c1,c2,c3,c4,c5,c6,c7,c8,d1,d2⟩:=FC.out w2 HB2.out
   clear hb g8 c0' c1' c2' c3' c4' c5' c6' c7' c8' d1' d2'
   rw [←hN.out] at c0
   cases b2 with
   | false=>
     go_wp2_with fail
     go_ret
     exact HNO.out 1 (by decide) _ HB2.out 4 ⟨fun _=>G1.out,fun _=>G2.out,fun _=>(G3.out.1 (by first | rfl | trivial)),fun _=>G4.out,fun h=>absurd h (by omega),fun h=>absurd h (by omega),fun h=>absurd h (by omega),fun h=>absurd h (by omega),fun h=>absurd h (by omega)⟩ (by
      have:(insideB (c.P.length:Nat) c.Sl&&coverB c.P.length c.Sl)=false:=Bool.eq_false_iff.2 fun h=>by have:=G5.out.2 (slotsOk_iff.1 h);cases this
      show some (mustE _)=_
      rw [this];rfl)
   | true=>
     have hw3:IntKind.i64.wrap (3*N)=3*N:=IntWalk.i64_in _ (by omega)
     have hw31:IntKind.i64.wrap (3*N+1)=3*N+1:=IntWalk.i64_in _ (by omega)
     have hw116:IntKind.i64.wrap (N+116)=N+116:=IntWalk.i64_in _ (by omega)
     have hmx:max (3*N+1) (N+116)=N+116:=by omega
     go_wp2_with fail
     (with_reducible refine (HW.out _ _ _ _).mono ?_)
     rintro e w' ⟨rfl,(⟨rfl,g9,g10⟩ | ⟨k,⟨hk,hkk⟩,rfl⟩)⟩
     rotate_left 1
     ·go_wp2_with fail
      go_ret
      exact HNO.out k hk _ HB2.out 5 ⟨fun _=>G1.out,fun _=>G2.out,fun _=>(G3.out.1 (by first | rfl | trivial)),fun _=>G4.out,fun _=>(G5.out.1 (by first | rfl | trivial)),fun h=>absurd h (by omega),fun h=>absurd h (by omega),fun h=>absurd h (by omega),fun h=>absurd h (by omega)⟩ (by rw [←hkk,hN.out];rfl)
     have G6:Hid (c.N+116≤c.lo∧c.lo≤4096):=Lib.hid (by rw [←hN.out];exact⟨g9,g10⟩)
     clear hw3 hw31 hw116 hmx
     by_cases hbn:(bn:Int)=N
     ·have G7:Hid (((c.B.length:Nat):Int)=c.N):=Lib.hid (by rw [HPL.out.2.2.1,←hN.out];exact hbn)
      have HBN:=Lib.hid hbn
      go_upto_region 19 with fail
      have HRB:=Lib.hid (HCF.out.b.below (HB0.out.1.trans (HB2.out.mono HB0.out.1.size)))
      simp only at HRB
      go_wp2_with fail
      go_loopw [4,3] (fun i _ wr=> ∃k:Nat,k≤bn∧i=.int .i64 k∧w2=wr∧Hid (∀z ∈ c.B.take k,0≤z∧z≤4096)) (fun i _ _=>bn - (intOf i).toNat)
      case atStart=>exact⟨0,by omega,rfl,rfl,Lib.hid (by simp)⟩
      case round=>
       obtain⟨k,hk,rfl,rfl,HK⟩:=hrel
       clear hbn
       by_cases hlt:k<bn
       ·obtain⟨b,off,z,rfl,-,hbl,hz,hc⟩:=HRB.out.at_ hlt
        have hlt':(k:Int)<bn:=by omega
        have hk0:(0:Int)≤k:=by omega
        have HZ:=Lib.hid hz
        clear hz
        go_wp2_with fail
        (with_reducible refine (HW.out _ _ _ _).mono ?_)
        rintro e w' ⟨rfl,(⟨rfl,g11,g12⟩ | ⟨m,⟨hm,hmm⟩,rfl⟩)⟩
        ·have HN:Hid (∀z ∈ c.B.take (k+1),0≤z∧z≤4096):=Lib.hid fun y hy=>by
          rw [List.take_add_one,HZ.out,Option.toList_some,List.mem_append,List.mem_singleton] at hy
          rcases hy with hy | rfl
          ·exact HK.out y hy
          ·exact⟨g11,g12⟩
         go_wp2_with fail
         exact⟨⟨k+1,by omega,by go_num,by first | rfl | trivial,HN⟩,by simp [intOf];omega⟩
        ·go_wp2_with fail
         go_ret
         exact HNO.out m hm _ HB2.out 6 ⟨fun _=>G1.out,fun _=>G2.out,fun _=>(G3.out.1 (by first | rfl | trivial)),fun _=>G4.out,fun _=>(G5.out.1 (by first | rfl | trivial)),fun _=>G6.out,fun h=>absurd h (by omega),fun h=>absurd h (by omega),fun h=>absurd h (by omega)⟩ (by
          show some (firstE [mustE (decide (((c.B.length:Nat):Int)=c.N)),eachE 0 4096 c.B])=_
          rw [eachE_at HK.out HZ.out (by rw [hmm];exact hm),hmm]
          simp [firstE,mustE,G7.out,hm])
       ·obtain rfl:k=bn:=by omega
        have hlt':¬(k:Int)<k:=by omega
        have G8:Hid (∀z ∈ c.B,0≤z∧z≤4096):=Lib.hid (by have:=HK.out;rwa [List.take_of_length_le (by rw [HRB.out.1];omega)] at this)
        clear HK
        go_wp2_with fail
        (with_reducible refine (HW.out _ _ _ _).mono ?_)
        rintro e w' ⟨rfl,(⟨rfl,g13,g14⟩ | ⟨m,⟨hm,hmm⟩,rfl⟩)⟩
        rotate_left 1
        ·go_wp2_with fail
         go_ret
         exact HNO.out m hm _ HB2.out 7 ⟨fun _=>G1.out,fun _=>G2.out,fun _=>(G3.out.1 (by first | rfl | trivial)),fun _=>G4.out,fun _=>(G5.out.1 (by first | rfl | trivial)),fun _=>G6.out,fun _=>⟨G7.out,G8.out⟩,fun h=>absurd h (by omega),fun h=>absurd h (by omega)⟩ (by rw [←hmm,←HPL.out.2.2.2];rfl)
        have G9:Hid (c.St.length≤8):=Lib.hid (by have:=HPL.out.2.2.2;omega)
        go_upto_region 28 with fail
        clear c0 c1 c2 c3 c4 c5 c6 c7 c8 d1 d2
        go_wp2_with fail
        go_loopw [5,3,6] (fun i _ _ wr=> ∃k:Nat,k≤tn∧i=.int .i64 k∧Hid (Below w0.heap.size w0 wr∧∀s ∈ c.St.take k,0≤s.1∧s.1<c.N∧1≤s.2.2∧s.2.2≤100)) (fun i _ _ _=>tn - (intOf i).toNat)
        case atStart=>exact⟨0,by omega,rfl,Lib.hid ⟨HB2.out,by simp⟩⟩
        case round=>
         obtain⟨j,hj,rfl,HK⟩:=hrel
         obtain⟨c0,c1,c2,c3,c4,c5,c6,c7,c8,d1,d2⟩:=FC.out wr HK.out.1
         rw [←hN.out] at c0
         clear c1 c2 c3 c4 d1 d2
         by_cases hlt:j<tn
         ·clear c6 c7 c8
          obtain⟨b,off,st,rfl,-,hbl,hz,hrow,hrof⟩:=(HCF.out.t.below (HB0.out.1.trans (HK.out.1.mono HB0.out.1.size))).row hlt
          obtain⟨s1,s2,s3⟩:=st
          replace hrof:rowOf wr ⟨b,off+j*3,none⟩ 3=[.int .i64 s1,.int .u32 s2,.int .i64 s3]:=hrof
          have hlt':(j:Int)<tn:=by omega
          have hj0:(0:Int)≤j:=by omega
          have HZ:=Lib.hid hz
          have hb2':Below wr.heap.size wr (wr.alloc (.cells #[Value.int .i64 s1,.int .u32 s2,.int .i64 s3] 183)):=(Below.refl _ _).alloc (Nat.le_refl _) _
          have hk2:=Blk.new wr 183 #[Value.int .i64 s1,.int .u32 s2,.int .i64 s3]
          have HW2:=Lib.hid (And.intro hb2' hk2)
          clear hb2' hk2 hz
          go_upto_region 32 with fail
          generalize wr.alloc (.cells #[Value.int .i64 s1,.int .u32 s2,.int .i64 s3] 183)=w4 at HW2 ⊢
          have HB4:=Lib.hid (HK.out.1.trans (HW2.out.1.mono HK.out.1.size))
          obtain⟨e0,-⟩:=FC.out w4 HB4.out
          rw [←hN.out] at e0
          have e1:w4.cell? ⟨wr.heap.size,0,none⟩=some (.int .i64 s1):=HW2.out.2.cell 0
          have e2:w4.cell? ⟨wr.heap.size,2,none⟩=some (.int .i64 s3):=HW2.out.2.cell 2
          clear hrow hrof c0 c5
          by_cases hs0:s1<0
          ·go_wp2_with fail
           go_ret
           exact HNO.out 1 (by decide) _ HB4.out 8 ⟨fun _=>G1.out,fun _=>G2.out,fun _=>(G3.out.1 (by first | rfl | trivial)),fun _=>G4.out,fun _=>(G5.out.1 (by first | rfl | trivial)),fun _=>G6.out,fun _=>⟨G7.out,G8.out⟩,fun _=>G9.out,fun h=>absurd h (by omega)⟩ (by
            show some (stE c)=_
            rw [stE,firstE_at (l:=c.St.map (stP c)) (k:=j) (z:=1) (fun y hy=>stPre HK.out.2 y hy) (by rw [List.getElem?_map,HZ.out];simp [stP,firstE,mustE,←hN.out,show ¬0≤s1 by omega]) (by decide)])
          ·by_cases hsN:N≤s1
           ·go_wp2_with fail
            go_ret
            exact HNO.out 1 (by decide) _ HB4.out 8 ⟨fun _=>G1.out,fun _=>G2.out,fun _=>(G3.out.1 (by first | rfl | trivial)),fun _=>G4.out,fun _=>(G5.out.1 (by first | rfl | trivial)),fun _=>G6.out,fun _=>⟨G7.out,G8.out⟩,fun _=>G9.out,fun h=>absurd h (by omega)⟩ (by
            show some (stE c)=_
            rw [stE,firstE_at (l:=c.St.map (stP c)) (k:=j) (z:=1) (fun y hy=>stPre HK.out.2 y hy) (by rw [List.getElem?_map,HZ.out];simp [stP,firstE,mustE,←hN.out,show ¬s1<N by omega]) (by decide)])
           ·go_wp2_with fail
            (with_reducible refine (HW.out _ _ _ _).mono ?_)
            rintro e w' ⟨rfl,(⟨rfl,g15,g16⟩ | ⟨m,⟨hm,hmm⟩,rfl⟩)⟩
            ·have HN:Hid (∀s ∈ c.St.take (j+1),0≤s.1∧s.1<c.N∧1≤s.2.2∧s.2.2≤100):=Lib.hid fun y hy=>by
              rw [List.take_add_one,HZ.out,Option.toList_some,List.mem_append,List.mem_singleton] at hy
              rcases hy with hy | rfl
              ·exact HK.out.2 y hy
              ·have:=hN.out;simp only;omega
             go_wp2_with fail
             exact⟨⟨j+1,by omega,by go_num,Lib.hid ⟨HB4.out,HN.out⟩⟩,by simp [intOf];omega⟩
            ·go_wp2_with fail
             go_ret
             exact HNO.out m hm _ HB4.out 8 ⟨fun _=>G1.out,fun _=>G2.out,fun _=>(G3.out.1 (by first | rfl | trivial)),fun _=>G4.out,fun _=>(G5.out.1 (by first | rfl | trivial)),fun _=>G6.out,fun _=>⟨G7.out,G8.out⟩,fun _=>G9.out,fun h=>absurd h (by omega)⟩ (by
              show some (stE c)=_
              rw [stE,firstE_at (l:=c.St.map (stP c)) (k:=j) (z:=m) (fun y hy=>stPre HK.out.2 y hy) (by rw [List.getElem?_map,HZ.out];simp [stP,firstE,mustE,←hN.out,show 0≤s1 by omega,show s1<N by omega,hmm,hm]) hm])
         ·obtain rfl:j=tn:=by omega
          have hlt':¬(j:Int)<j:=by omega
          have G10:Hid (stOk c):=Lib.hid (by
           have:=HK.out.2
           rwa [List.take_of_length_le (by rw [HPL.out.2.2.2];omega)] at this)
          have HB5:=Lib.hid HK.out.1
          clear HK c0
          obtain⟨mi,hmi⟩:∃mi,Hid (mi=c.mi):=⟨_,Lib.hid rfl⟩
          obtain⟨go,hgo⟩:∃go,Hid (go=c.go):=⟨_,Lib.hid rfl⟩
          obtain⟨fr,hfr⟩:∃fr,Hid (fr=c.fr):=⟨_,Lib.hid rfl⟩
          rw [←hmi.out] at c6
          rw [←hgo.out] at c7
          rw [←hfr.out] at c8
          have HR3:=Lib.hid (And.intro (rdz3 wr mi go fr) (balN (Below.refl wr.heap.size wr) (.cells #[.int .i64 mi,.int .i64 go,.int .i64 fr] 3)))
          obtain⟨wo,rfl⟩:∃wo,wo=wr:=⟨_,rfl⟩
          go_upto_region 38 with fail
          generalize wo.alloc (.cells #[.int .i64 mi,.int .i64 go,.int .i64 fr] 3)=w5 at HR3 ⊢
          have HB6:=Lib.hid (HB5.out.trans (HR3.out.2.mono HB5.out.size))
          clear c5 c6 c7 c8
          go_wp2_with fail
          go_loopw [8,3] (fun i _ wr=> ∃k:Nat,k≤3∧i=.int .i64 k∧wr=w5∧Hid (∀z ∈ [mi,go,fr].take k,1≤z∧z≤100)) (fun i _ _=>3 - (intOf i).toNat)
          case atStart=>exact⟨0,by omega,rfl,rfl,Lib.hid (by simp)⟩
          case round=>
           obtain⟨i,hi,rfl,rfl,HI⟩:=hrel
           by_cases hli:i<3
           ·obtain⟨b,off,z,he,-,hbl,hz,hc⟩:=HR3.out.1.at_ hli
            simp only [Option.some.injEq,Addr.mk.injEq] at he
            obtain⟨rfl,rfl,-⟩:=he
            have hc:wr.cell? ⟨wo.heap.size,i,none⟩=some (.int .i64 z):=by simpa using hc
            have hli':(i:Int)<3:=by omega
            have hi0:(0:Int)≤i:=by omega
            have HZ:=Lib.hid hz
            clear hz
            go_wp2_with fail
            (with_reducible refine (HW.out _ _ _ _).mono ?_)
            rintro e w' ⟨rfl,(⟨rfl,g17,g18⟩ | ⟨m,⟨hm,hmm⟩,rfl⟩)⟩
            ·have HN:Hid (∀z ∈ [mi,go,fr].take (i+1),1≤z∧z≤100):=Lib.hid fun y hy=>by
              rw [List.take_add_one,HZ.out,Option.toList_some,List.mem_append,List.mem_singleton] at hy
              rcases hy with hy | rfl
              ·exact HI.out y hy
              ·exact⟨g17,g18⟩
             go_wp2_with fail
             exact⟨⟨i+1,by omega,by go_num,by first | rfl | trivial,HN⟩,by simp [intOf];omega⟩
            ·go_wp2_with fail
             go_ret
             exact HNO.out m hm _ HB6.out 9 ⟨fun _=>G1.out,fun _=>G2.out,fun _=>(G3.out.1 (by first | rfl | trivial)),fun _=>G4.out,fun _=>(G5.out.1 (by first | rfl | trivial)),fun _=>G6.out,fun _=>⟨G7.out,G8.out⟩,fun _=>G9.out,fun _=>G10.out⟩ (by
              show some (eachE 1 100 [c.mi,c.go,c.fr])=_
              rw [←hmi.out,←hgo.out,←hfr.out,eachE_at HI.out HZ.out (by rw [hmm];exact hm),hmm])
           ·obtain rfl:i=3:=by omega
            have HF:Hid (NewR c w (.returned (.int .i64 0)) wr):=Lib.hid (by
             have h3:=HI.out
             simp only [List.take_succ_cons,List.take_zero] at h3
             have hs:=G5.out.1 (by first | rfl | trivial)
             have hok:RefOk c:=⟨G1.out,G2.out,G3.out.1 (by first | rfl | trivial),G4.out,hs.1,hs.2,G6.out,G7.out,G8.out,G9.out,G10.out,by rw [←hmi.out];exact h3 mi (by simp),by rw [←hgo.out];exact h3 go (by simp),by rw [←hfr.out];exact h3 fr (by simp)⟩
             exact⟨by rw [hok.cfE];rfl,fun _=>hok,HB0.out.1.trans (HB6.out.mono HB0.out.1.size)⟩)
            go_wp2_with fail
            go_ret
            exact HF.out
     ·go_wp2_with fail
      go_ret
      exact HNO.out 1 (by decide) _ HB2.out 6 ⟨fun _=>G1.out,fun _=>G2.out,fun _=>(G3.out.1 (by first | rfl | trivial)),fun _=>G4.out,fun _=>(G5.out.1 (by first | rfl | trivial)),fun _=>G6.out,fun h=>absurd h (by omega),fun h=>absurd h (by omega),fun h=>absurd h (by omega)⟩ (by
       show some (firstE [mustE (decide (((c.B.length:Nat):Int)=c.N)),eachE 0 4096 c.B])=_
       have:¬((c.B.length:Nat):Int)=c.N:=by rw [HPL.out.2.2.1,←hN.out];exact hbn
       simp [firstE,mustE,this])
end Go.Proofs.YtdilbjikeilhbaaGreatDoor
