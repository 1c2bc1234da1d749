import Derived.Sort.OwnSortedInts
import Derived.Shelf.Slices.CompactI
import Derived.Test.YtdilbjikeilhbaaGreatDoorGn22
import Derived.Test.YtdilbjikeilhbaaGreatDoorGn20
import Derived.Test.YtdilbjikeilhbaaGreatDoorGn02
namespace Go.Proofs.YtdilbjikeilhbaaGreatDoor
open Go.Shelf Go.RowKit
open Go.Sort (Holds grow)
set_option linter.unusedVariables false
set_option linter.unusedSimpArgs false
theorem appendSeq_any (Bs:Nat) (sv:Value) (zs:List Int) (hlen:zs.length≤1000000) (w:World) (hBs:Bs<w.heap.size) (hc0:w.cell? ⟨Bs,0,none⟩=some sv) (hI:IntsB w.heap.size w sv zs) :
 Calls Tryz.prog 220 #[.slice none 0 0,.func (.func 183) #[] #[.pointer (some ⟨Bs,0,none⟩)]] w fun e W'=> ∃v,e=.returned v∧W'.ownsRow w.heap.size 3 1 v zs.length (ints zs)∧Below w.heap.size w W':=
 (callsIn_wide (n:=5)).1 (appendSeq_in Fence.wide 5 trivial trivial rfl (by omega) Bs sv zs hlen w hBs hc0 hI)
theorem RdZ.intsB {S:Nat→Prop} {w:World} {a:Option Addr} {len cap:Nat} {zs:List Int} (h:RdZ S w a len zs):IntsB w.heap.size w (.slice a len cap) zs:=by
 by_cases h0:len=0
 ·exact .inl ⟨a,cap,by rw [h0],List.eq_nil_of_length_eq_zero (by rw [h.1,h0])⟩
 ·obtain⟨b,off,z,rfl,hS,hb,hz,hc⟩:=h.at_ (k:=0) (by omega)
  refine .inr ⟨b,off,cap,by rw [h.1],hb,fun j hj=> ?_⟩
  obtain⟨b2,off2,z2,e2,_,_,hz2,hc2⟩:=h.at_ (k:=j) (by rw [←h.1];exact hj)
  cases e2
  rw [hz2]
  exact hc2
theorem values_any (a:Option Addr) (len cap:Nat) (w:World):Calls Tryz.prog 124 #[.slice a len cap] w fun e w'=>e=.returned (.func (.func 183) #[] #[.pointer (some ⟨w.heap.size,0,none⟩)])∧w'=w.alloc (.cells #[.slice a len cap] 22):=by
 have hmf:∀(fn:Fn) (first cap:Array Value) (w:World),(Instr.makeFunc fn first cap).run Tryz.prog w=.ok (.func fn first cap) w:=fun _ _ _ _=>rfl
 go_enter Tryz.func124,Tryz.ntmps124
 go_wp2
 go_ret
 exact⟨rfl,rfl⟩
theorem collect_any (Bs:Nat) (sv:Value) (zs:List Int) (hlen:zs.length≤1000000) (w:World) (hBs:Bs<w.heap.size) (hc0:w.cell? ⟨Bs,0,none⟩=some sv) (hI:IntsB w.heap.size w sv zs) :
 Calls Tryz.prog 181 #[.func (.func 183) #[] #[.pointer (some ⟨Bs,0,none⟩)]] w fun e W'=> ∃v,e=.returned v∧W'.ownsRow w.heap.size 3 1 v zs.length (ints zs)∧Below w.heap.size w W':=by
 have H:=Lib.hid (appendSeq_any Bs sv zs hlen w hBs hc0 hI)
 clear hc0 hI
 go_enter Tryz.func181,Tryz.ntmps181
 go_wp2_with fail
 ·(with_reducible refine H.out.mono ?_)
  rintro e W ⟨v,rfl,hr,hb⟩
  go_wp2_with fail
  go_ret
  exact⟨v,rfl,hr,hb⟩
theorem grownBy_put {w:World} {g n:Nat} (d:Array Int):w.grownBy (Go.Sort.putRow (Value.int .i64) (Sort.ahead w n) g 0 d) (some g):=by
 refine⟨rfl,rfl,rfl,by simp [Go.Sort.putRow,Go.Sort.mapBlock,Sort.ahead],fun k hk hne=> ?_⟩
 have:g≠k:=fun e=>hne (by rw [e])
 simp [Go.Sort.putRow,Go.Sort.mapBlock,Sort.ahead,Array.getElem?_modify,this]
theorem sorted1_any (Bs:Nat) (sv:Value) (zs:List Int) (hlen:zs.length≤1000000) (w:World) (hBs:Bs<w.heap.size) (hc0:w.cell? ⟨Bs,0,none⟩=some sv) (hI:IntsB w.heap.size w sv zs) :
 Calls Tryz.prog 123 #[.func (.func 183) #[] #[.pointer (some ⟨Bs,0,none⟩)]] w fun e W'=> ∃v,e=.returned v∧W'.ownsRow w.heap.size 3 1 v zs.length (ints (srtI zs))∧Below w.heap.size w W':=by
 have H:=Lib.hid (collect_any Bs sv zs hlen w hBs hc0 hI)
 clear hc0 hI
 go_enter Tryz.func123,Tryz.ntmps123
 go_wp2_with fail
 ·(with_reducible refine H.out.mono ?_)
  rintro e W ⟨v,rfl,hr,hb⟩
  rcases hr.2 with ⟨rfl,hn⟩ | ⟨g,cap,cur,rfl,hg,hgb,hn,hcap,hsz,htk⟩
  ·have hz:zs=[]:=List.eq_nil_of_length_eq_zero hn
   subst hz
   have HS:=Lib.hid (sorti_none none 0 W)
   go_wp2_with fail
   ·(with_reducible refine HS.out.mono ?_)
    rintro e W2 ⟨rfl,rfl⟩
    go_wp2_with fail
    go_ret
    exact⟨_,rfl,by simpa [srtI] using hr,hb⟩
  ·have hH:Holds (Value.int .i64) W g 0 zs.toArray:=holds_of_blockI hgb (by simpa [ints] using htk)
   have HS:=Lib.hid (sorti_some g 0 cap zs W hH (Array.getElem?_eq_some_iff.1 hgb).1 (by omega))
   clear hH
   go_wp2_with fail
   ·(with_reducible refine HS.out.mono ?_)
    rintro e W2 ⟨rfl,n,os,rfl⟩
    go_wp2_with fail
    go_ret
    exact⟨_,rfl,ownsRow_sortedI (srtI_len zs) hg hgb hn hcap hsz,hb.grown (grownBy_sortedI _) hb.size (by intro k hk;cases hk;exact hg)⟩
def comp_ren:Go.Shelf.Ren:=⟨fun | 20=>125 | n=>n,fun | 22=>22 | 3=>3 | 0=>0 | 4=>4 | n=>n,fun | n=>n⟩
theorem compL:Lays2.n20 Tryz.prog comp_ren:={
 mixed:=by kernel_rfl,
 f20:=Tryz.func125.trans (congrArg some (by kernel_rfl)),
 t0:=Tryz.underlying0,
 a0:=Tryz.isAgg0,
 z0:=Tryz.sizeOf0,
 v0:=Tryz.zeroValue0,
 t3:=Tryz.underlying3,
 a3:=Tryz.isAgg3,
 z3:=Tryz.sizeOf3,
 v3:=Tryz.zeroValue3,
 t4:=Tryz.underlying4,
 a4:=Tryz.isAgg4,
 z4:=Tryz.sizeOf4,
 v4:=Tryz.zeroValue4,
 t22:=Tryz.underlying22,
 a22:=Tryz.isAgg22,
 z22:=Tryz.sizeOf22,
 v22:=Tryz.zeroValue22,
 i3:=infoInt }
theorem compact_some (blk off cap:Nat) (zs:List Int) (w:World) (hH:Holds (Value.int .i64) w blk off zs.toArray) (hsz:zs.length≤9223372036854775807) (hcap:zs.length≤cap) :
 Calls Tryz.prog 125 #[.slice (some ⟨blk,off,none⟩) zs.length cap] w fun e w'=>e=.returned (.slice (some ⟨blk,off,none⟩) (Lib.compact zs).length cap)∧∃q,w'=Go.Sort.putRow (Value.int .i64) (Sort.ahead w q) blk off (Lib.compact zs++List.replicate (zs.length - (Lib.compact zs).length) 0).toArray:=Any.slices_Compact_int compL blk off cap zs w hH hsz hcap
theorem compact_none (a:Option Addr) (cap:Nat) (w:World):Calls Tryz.prog 125 #[.slice a 0 cap] w fun e w'=>e=.returned (.slice a 0 cap)∧w'=w:=Any.slices_Compact_int_empty compL a cap w
def singleB (l:List Int):Bool:=(Lib.compact (srtI l)).length==l.length
theorem single_any (S:Nat→Prop) (a:Option Addr) (len cap:Nat) (zs:List Int) (hlen:len≤1000000) (w:World) (h:RdZ S w a len zs) :
 Calls Tryz.prog 64 #[.slice a len cap] w fun e W'=>e=.returned (.bool (singleB zs))∧Below w.heap.size w W':=by
 have hl:zs.length≤1000000:=by rw [h.1];exact hlen
 have HV:=Lib.hid (values_any a len cap w)
 have hB0:Below w.heap.size w (w.alloc (.cells #[.slice a len cap] 22)):=(Below.refl _ w).alloc (Nat.le_refl _) _
 have HS:=Lib.hid (sorted1_any w.heap.size (.slice a len cap) zs hl (w.alloc (.cells #[.slice a len cap] 22)) (by simp) ((Blk.new w _ _).cell 0) (by have:=(h.intsB (cap:=cap)).below hB0;rcases this with ⟨a,c,e,hz⟩ | ⟨b,o,c,e,hb,hc⟩;exact .inl ⟨a,c,e,hz⟩;exact .inr ⟨b,o,c,e,by simp;omega,hc⟩))
 clear h
 go_enter Tryz.func64,Tryz.ntmps64
 go_wp2_with fail
 ·(with_reducible refine HV.out.mono ?_)
  rintro e W ⟨rfl,rfl⟩
  go_wp2_with fail
  ·(with_reducible refine HS.out.mono ?_)
   rintro e W ⟨v,rfl,hr,hb⟩
   have hbw:=hB0.trans (hb.mono (by simp))
   rcases hr.2 with ⟨rfl,hn⟩ | ⟨g,cap',cur,rfl,hg,hgb,hn,hcap,hsz,htk⟩
   ·have hz:zs=[]:=List.eq_nil_of_length_eq_zero hn
    subst hz
    have HC:=Lib.hid (compact_none none 0 W)
    go_wp2_with fail
    ·(with_reducible refine HC.out.mono ?_)
     rintro e W2 ⟨rfl,rfl⟩
     go_wp2_with fail
     go_ret
     have h0:singleB []=true:=by simp [singleB,srtI,Lib.compact,Lib.compactUpTo]
     exact⟨by rw [h0];rfl,hbw⟩
   ·have hH:Holds (Value.int .i64) W g 0 (srtI zs).toArray:=holds_of_blockI hgb (by rw [srtI_len];simpa [ints] using htk)
    have HC:=Lib.hid (compact_some g 0 cap' (srtI zs) W hH (by rw [srtI_len];omega) (by rw [srtI_len];exact hn))
    rw [srtI_len] at HC
    clear hH
    go_wp2_with fail
    ·(with_reducible refine HC.out.mono ?_)
     rintro e W2 ⟨rfl,q,rfl⟩
     go_wp2_with fail
     go_ret
     refine⟨?_,hbw.grown (grownBy_put _) hbw.size (by intro k hk;cases hk;simp at hg;omega)⟩
     simp [singleB]
     rw [Bool.eq_iff_iff]
     simp only [beq_iff_eq]
     omega
end Go.Proofs.YtdilbjikeilhbaaGreatDoor
namespace Go.Proofs.YtdilbjikeilhbaaGreatDoor
open Go.RowKit
set_option linter.unusedVariables false
set_option linter.unusedSimpArgs false
def RuS (e:Int) (w:World) (r:Ending) (w':World):Prop:=r=.returned (.int .i64 e)∧Below w.heap.size w w'
set_option maxRecDepth 100000 in
set_option maxHeartbeats 1000000 in
theorem r1_any (A:CfA) (c:Cfg) (w:World):Calls Tryz.prog 57 #[.agg (cfV A c).toArray] w (RuS (withE c.N 4 16) w):=by
 obtain⟨pa,pn,pc,sa,sn,sc,ba,bn,bc,ta,tn,tc⟩:=A
 obtain⟨cv,hcv⟩:∃cv,cv=cfV ⟨pa,pn,pc,sa,sn,sc,ba,bn,bc,ta,tn,tc⟩ c:=⟨_,rfl⟩
 rw [←hcv]
 have HCV:=Lib.hid hcv
 clear hcv
 go_enter Tryz.func57,Tryz.ntmps57
 go_upto_region 1 with fail
 have HB0:Hid (Below w.heap.size w (w.alloc (.cells cv.toArray 25))∧Blk (w.alloc (.cells cv.toArray 25)) w.heap.size 25 cv.toArray):=Lib.hid ⟨(Below.refl _ _).alloc (Nat.le_refl _) _,Blk.new _ _ _⟩
 generalize w.alloc (.cells cv.toArray 25)=w0 at HB0 ⊢
 rw [HCV.out] at HB0
 obtain⟨c0,c1,c2,c3,c4,c5,c6,c7,c8⟩:=cfV_cells HB0.out.2
 have c0:w0.cell? ⟨w.heap.size,0,none⟩=some (.int .i64 c.N):=c0
 have c1:w0.cell? ⟨w.heap.size,1,none⟩=some (.slice pa pn pc):=c1
 have c2:w0.cell? ⟨w.heap.size,2,none⟩=some (.slice sa sn sc):=c2
 have c3:w0.cell? ⟨w.heap.size,3,none⟩=some (.int .i64 c.lo):=c3
 have c4:w0.cell? ⟨w.heap.size,4,none⟩=some (.slice ba bn bc):=c4
 have c5:w0.cell? ⟨w.heap.size,5,none⟩=some (.slice ta tn tc):=c5
 have c6:w0.cell? ⟨w.heap.size,6,none⟩=some (.int .i64 c.mi):=c6
 have c7:w0.cell? ⟨w.heap.size,7,none⟩=some (.int .i64 c.go):=c7
 have c8:w0.cell? ⟨w.heap.size,8,none⟩=some (.int .i64 c.fr):=c8
 have HW:=Lib.hid (within_any c.N 4 16 w0)
 go_wp2_with fail
 (with_reducible refine HW.out.mono ?_)
 rintro e w' ⟨rfl,rfl⟩
 go_wp2_with fail
 go_ret
 exact⟨rfl,HB0.out.1⟩
set_option maxRecDepth 100000 in
set_option maxHeartbeats 1000000 in
theorem r2_any (A:CfA) (c:Cfg) (w:World):Calls Tryz.prog 59 #[.agg (cfV A c).toArray] w (RuS (withE A.pn 2 8) w):=by
 obtain⟨pa,pn,pc,sa,sn,sc,ba,bn,bc,ta,tn,tc⟩:=A
 obtain⟨cv,hcv⟩:∃cv,cv=cfV ⟨pa,pn,pc,sa,sn,sc,ba,bn,bc,ta,tn,tc⟩ c:=⟨_,rfl⟩
 rw [←hcv]
 have HCV:=Lib.hid hcv
 clear hcv
 go_enter Tryz.func59,Tryz.ntmps59
 go_upto_region 1 with fail
 have HB0:Hid (Below w.heap.size w (w.alloc (.cells cv.toArray 25))∧Blk (w.alloc (.cells cv.toArray 25)) w.heap.size 25 cv.toArray):=Lib.hid ⟨(Below.refl _ _).alloc (Nat.le_refl _) _,Blk.new _ _ _⟩
 generalize w.alloc (.cells cv.toArray 25)=w0 at HB0 ⊢
 rw [HCV.out] at HB0
 obtain⟨c0,c1,c2,c3,c4,c5,c6,c7,c8⟩:=cfV_cells HB0.out.2
 have c0:w0.cell? ⟨w.heap.size,0,none⟩=some (.int .i64 c.N):=c0
 have c1:w0.cell? ⟨w.heap.size,1,none⟩=some (.slice pa pn pc):=c1
 have c2:w0.cell? ⟨w.heap.size,2,none⟩=some (.slice sa sn sc):=c2
 have c3:w0.cell? ⟨w.heap.size,3,none⟩=some (.int .i64 c.lo):=c3
 have c4:w0.cell? ⟨w.heap.size,4,none⟩=some (.slice ba bn bc):=c4
 have c5:w0.cell? ⟨w.heap.size,5,none⟩=some (.slice ta tn tc):=c5
 have c6:w0.cell? ⟨w.heap.size,6,none⟩=some (.int .i64 c.mi):=c6
 have c7:w0.cell? ⟨w.heap.size,7,none⟩=some (.int .i64 c.go):=c7
 have c8:w0.cell? ⟨w.heap.size,8,none⟩=some (.int .i64 c.fr):=c8
 have HW:=Lib.hid (within_any pn 2 8 w0)
 go_wp2_with fail
 (with_reducible refine HW.out.mono ?_)
 rintro e w' ⟨rfl,rfl⟩
 go_wp2_with fail
 go_ret
 exact⟨rfl,HB0.out.1⟩
set_option maxRecDepth 100000 in
set_option maxHeartbeats 1000000 in
theorem r4_any (A:CfA) (c:Cfg) (w:World):Calls Tryz.prog 65 #[.agg (cfV A c).toArray] w (RuS (withE A.sn 1 16) w):=by
 obtain⟨pa,pn,pc,sa,sn,sc,ba,bn,bc,ta,tn,tc⟩:=A
 obtain⟨cv,hcv⟩:∃cv,cv=cfV ⟨pa,pn,pc,sa,sn,sc,ba,bn,bc,ta,tn,tc⟩ c:=⟨_,rfl⟩
 rw [←hcv]
 have HCV:=Lib.hid hcv
 clear hcv
 go_enter Tryz.func65,Tryz.ntmps65
 go_upto_region 1 with fail
 have HB0:Hid (Below w.heap.size w (w.alloc (.cells cv.toArray 25))∧Blk (w.alloc (.cells cv.toArray 25)) w.heap.size 25 cv.toArray):=Lib.hid ⟨(Below.refl _ _).alloc (Nat.le_refl _) _,Blk.new _ _ _⟩
 generalize w.alloc (.cells cv.toArray 25)=w0 at HB0 ⊢
 rw [HCV.out] at HB0
 obtain⟨c0,c1,c2,c3,c4,c5,c6,c7,c8⟩:=cfV_cells HB0.out.2
 have c0:w0.cell? ⟨w.heap.size,0,none⟩=some (.int .i64 c.N):=c0
 have c1:w0.cell? ⟨w.heap.size,1,none⟩=some (.slice pa pn pc):=c1
 have c2:w0.cell? ⟨w.heap.size,2,none⟩=some (.slice sa sn sc):=c2
 have c3:w0.cell? ⟨w.heap.size,3,none⟩=some (.int .i64 c.lo):=c3
 have c4:w0.cell? ⟨w.heap.size,4,none⟩=some (.slice ba bn bc):=c4
 have c5:w0.cell? ⟨w.heap.size,5,none⟩=some (.slice ta tn tc):=c5
 have c6:w0.cell? ⟨w.heap.size,6,none⟩=some (.int .i64 c.mi):=c6
 have c7:w0.cell? ⟨w.heap.size,7,none⟩=some (.int .i64 c.go):=c7
 have c8:w0.cell? ⟨w.heap.size,8,none⟩=some (.int .i64 c.fr):=c8
 have HW:=Lib.hid (within_any sn 1 16 w0)
 go_wp2_with fail
 (with_reducible refine HW.out.mono ?_)
 rintro e w' ⟨rfl,rfl⟩
 go_wp2_with fail
 go_ret
 exact⟨rfl,HB0.out.1⟩
set_option maxRecDepth 100000 in
set_option maxHeartbeats 1000000 in
theorem r8_any (A:CfA) (c:Cfg) (w:World):Calls Tryz.prog 72 #[.agg (cfV A c).toArray] w (RuS (withE A.tn 0 8) w):=by
 obtain⟨pa,pn,pc,sa,sn,sc,ba,bn,bc,ta,tn,tc⟩:=A
 obtain⟨cv,hcv⟩:∃cv,cv=cfV ⟨pa,pn,pc,sa,sn,sc,ba,bn,bc,ta,tn,tc⟩ c:=⟨_,rfl⟩
 rw [←hcv]
 have HCV:=Lib.hid hcv
 clear hcv
 go_enter Tryz.func72,Tryz.ntmps72
 go_upto_region 1 with fail
 have HB0:Hid (Below w.heap.size w (w.alloc (.cells cv.toArray 25))∧Blk (w.alloc (.cells cv.toArray 25)) w.heap.size 25 cv.toArray):=Lib.hid ⟨(Below.refl _ _).alloc (Nat.le_refl _) _,Blk.new _ _ _⟩
 generalize w.alloc (.cells cv.toArray 25)=w0 at HB0 ⊢
 rw [HCV.out] at HB0
 obtain⟨c0,c1,c2,c3,c4,c5,c6,c7,c8⟩:=cfV_cells HB0.out.2
 have c0:w0.cell? ⟨w.heap.size,0,none⟩=some (.int .i64 c.N):=c0
 have c1:w0.cell? ⟨w.heap.size,1,none⟩=some (.slice pa pn pc):=c1
 have c2:w0.cell? ⟨w.heap.size,2,none⟩=some (.slice sa sn sc):=c2
 have c3:w0.cell? ⟨w.heap.size,3,none⟩=some (.int .i64 c.lo):=c3
 have c4:w0.cell? ⟨w.heap.size,4,none⟩=some (.slice ba bn bc):=c4
 have c5:w0.cell? ⟨w.heap.size,5,none⟩=some (.slice ta tn tc):=c5
 have c6:w0.cell? ⟨w.heap.size,6,none⟩=some (.int .i64 c.mi):=c6
 have c7:w0.cell? ⟨w.heap.size,7,none⟩=some (.int .i64 c.go):=c7
 have c8:w0.cell? ⟨w.heap.size,8,none⟩=some (.int .i64 c.fr):=c8
 have HW:=Lib.hid (within_any tn 0 8 w0)
 go_wp2_with fail
 (with_reducible refine HW.out.mono ?_)
 rintro e w' ⟨rfl,rfl⟩
 go_wp2_with fail
 go_ret
 exact⟨rfl,HB0.out.1⟩
def sentC (n:Nat) (x0 x1:Value):Cgo:=if n=0 then cgo0 else ⟨x0,x1,true⟩
theorem wayV_app (l:List Cgo) (c:Cgo):wayV (l++ [c])=wayV l++c.vals:=by
 induction l with
 | nil=>simp [wayV]
 | cons a l ih=>simp [wayV,ih]
structure SndA (w:World) (a:Option Addr) (n:Nat) (x0 x1:Value):Prop where
 le:n≤1
 ok:cell1 x0=true∧cell1 x1=true
 rd:n=1→∃xb xo,a=some ⟨xb,xo,none⟩∧xb<w.heap.size∧hasRow w ⟨xb,xo,none⟩ 2=true∧rowOf w ⟨xb,xo,none⟩ 2=[x0,x1]
theorem cargo_put {w:World} {p:Nat} {x0 x1:Value} (h:Blk w p 358 cargoZ.toArray):Blk ((putRow w ⟨p,0,none⟩ [x0,x1]).setCell ⟨p,2,none⟩ (.bool true)) p 358 (Cgo.vals ⟨x0,x1,true⟩).toArray:=by
 have:=(h.put 0 [x0,x1]).set_ 2 (.bool true)
 exact this
def SendP (b g:Nat) (tk:Int) (l:List Cgo) (w:World) (e:Ending) (w':World):Prop:=e=.returned (.int .i64 0)∧LnAt w' b g (tk+1) l∧Chg (fun k=>k=b∨k=g) w w'
set_option maxRecDepth 100000 in
set_option maxHeartbeats 2000000 in
theorem send_any {w:World} {b g:Nat} {tk:Int} {c:Cgo} {l:List Cgo} (h:LnAt w b g tk (c :: l)) (hl:l.length≤1) (ht0:0≤tk) (ht1:tk≤1000000) (a:Option Addr) (n cp:Nat) (x0 x1:Value) (hx:SndA w a n x0 x1) :
 Calls Tryz.prog 96 #[.pointer (some ⟨b,0,none⟩),.slice a n cp] w (SendP b g tk (l++ [sentC n x0 x1]) w):=by
 have HL:=Lib.hid h
 have HX:=Lib.hid hx
 have hn:n≤1:=hx.le
 clear h hx
 go_enter Tryz.func96,Tryz.ntmps96
 have HT:=Lib.hid (lthere_any HL.out (by simp))
 go_wp2_with fail
 (with_reducible refine HT.out.mono ?_)
 rintro e w' ⟨rfl,rfl⟩
 have hn1:¬(1:Int)<n:=by omega
 go_upto_region 6 with fail
 have hB:Below w.heap.size w (w.alloc (.cells cargoZ.toArray 358)):=(Below.refl _ _).alloc (Nat.le_refl _) _
 have kP:=Blk.new w 358 cargoZ.toArray
 have HL1:Hid (LnAt (w.alloc (.cells cargoZ.toArray 358)) b g tk (c :: l)):=Lib.hid (HL.out.keep (hB.block _ HL.out.b.lt) (hB.block _ HL.out.g.lt))
 generalize (w.alloc (.cells cargoZ.toArray 358))=w1 at HL1 hB kP ⊢
 obtain⟨p,hp⟩:∃p,Hid (p=w.heap.size):=⟨_,Lib.hid rfl⟩
 rw [←hp.out] at kP ⊢
 have HB:=Lib.hid hB
 have KP:=Lib.hid kP
 clear hB kP HT
 go_wp2_with fail
 go_loopw [16] (fun i wr=> ∃k:Nat,k≤n∧i=.int .i64 k∧Hid (LnAt wr b g tk (c :: l)∧Blk wr p 358 (sentC k x0 x1).vals.toArray∧Below w.heap.size w wr)) (fun i _=>n - (intOf i).toNat)
 case atStart=>exact⟨0,by omega,rfl,Lib.hid ⟨HL1.out,KP.out,HB.out⟩⟩
 case round=>
  obtain⟨k,hk,rfl,HR⟩:=hrel
  clear HL1 HB KP
  by_cases hlt:k<n
  ·obtain rfl:k=0:=by omega
   obtain rfl:n=1:=by omega
   obtain⟨xb,xo,rfl,hxl,hx0,hx1⟩:=HX.out.rd rfl
   obtain⟨o1,o2⟩:=HX.out.ok
   have hb:=HR.out.2.2
   obtain⟨r1,r2⟩:=row_below hb (p:=⟨xb,xo,none⟩) hxl 2
   rw [←r1] at hx0
   rw [←r2] at hx1
   have kp:=HR.out.2.1
   have q3:canPut wr ⟨p,0,none⟩ 2=true:=by rw [kp.rules.2.2.2.2];rfl
   have HE:Hid (LnAt ((putRow wr ⟨p,0,none⟩ [x0,x1]).setCell ⟨p,2,none⟩ (.bool true)) b g tk (c :: l)∧Blk ((putRow wr ⟨p,0,none⟩ [x0,x1]).setCell ⟨p,2,none⟩ (.bool true)) p 358 (sentC 1 x0 x1).vals.toArray∧Below w.heap.size w ((putRow wr ⟨p,0,none⟩ [x0,x1]).setCell ⟨p,2,none⟩ (.bool true))):=Lib.hid (by
    have hpw:=hp.out
    have hlb:=HL.out.b.lt
    have hlg:=HL.out.g.lt
    refine⟨HR.out.1.keep ?_ ?_,cargo_put kp,(Below.put hb (p:=⟨p,0,none⟩) (by show w.heap.size≤p;omega) _).setCell (by show w.heap.size≤p;omega) _⟩
    ·exact (Below.heap_setCell _ _ _ _ (by show b≠p;omega)).trans (putRow_other _ _ _ _ (by show b≠p;omega))
    ·exact (Below.heap_setCell _ _ _ _ (by show g≠p;omega)).trans (putRow_other _ _ _ _ (by show g≠p;omega)))
   have f2:(putRow wr ⟨p,0,none⟩ [x0,x1]).cell? ⟨p,2,none⟩=some (.bool false):=by rw [(kp.put 0 [x0,x1]).rules.1];rfl
   have f3:(putRow wr ⟨p,0,none⟩ [x0,x1]).frozen? ⟨p,2,none⟩=false:=(kp.put 0 [x0,x1]).frozen 2
   clear kp hb r1 r2 hxl HR
   go_wp2_with fail
   exact⟨⟨1,by omega,rfl,HE⟩,by simp [intOf]⟩
  ·obtain rfl:k=n:=by omega
   go_wp2_with fail
   obtain⟨cg,hcg⟩:∃cg,Hid (cg=sentC k x0 x1):=⟨_,Lib.hid rfl⟩
   have HO:Hid (cg.ok):=Lib.hid (by
    rw [hcg.out];unfold sentC;split
    ·exact⟨rfl,rfl⟩
    ·exact HX.out.ok)
   rw [←hcg.out] at HR ⊢
   have c0:=HR.out.1.b.cell 0
   have c1:=HR.out.1.b.cell 1
   simp only [List.getElem?_toArray,List.getElem?_cons_zero,List.getElem?_cons_succ] at c0 c1
   -- the copy
   obtain⟨m,s1,w2,cz,hm,hs1,hcp,H2⟩:∃(m:Nat) (s1:Option Addr) (w2:World) (cz:Cgo),(c :: l).length=m+1∧s1=(if m=0 then (some (⟨g,0,none⟩:Addr)) else some ⟨g,3,none⟩)∧(Builtin.copy_ #[228,228] 3 #[.slice (some ⟨g,0,none⟩) (m+1) (m+1),.slice s1 m m]).run Tryz.prog wr.drew=.ok (.int .i64 m) w2∧Hid (LnAt w2 b g tk (l++ [cz])∧Blk w2 p 358 cg.vals.toArray∧Chg (· =g) wr w2):=by
    cases l with
    | nil=>
      have hg:=HR.out.1.g
      have h:=run_copyN (P:=Tryz.prog) wr.drew 228 228 3 358 3 g 0 1 1 ⟨g,0,none⟩ 0 0 _ _ [] Tryz.underlying228 (by kernel_rfl) hg.drew rfl (by simp) (by simp) (by simp)
      refine⟨0,_,_,c,rfl,rfl,h,Lib.hid ?_⟩
      simp only [List.length_nil,Nat.add_zero,List.append_nil,List.take_append_drop]
      rw [setRow_self _ _ _ _ _ hg.drew]
      exact⟨⟨HR.out.1.b,HR.out.1.g,HR.out.1.ok⟩,HR.out.2.1,(Chg.refl _ _).drew⟩
    | cons c' r=>
      obtain rfl:r=[]:=by cases r with
       | nil=>rfl
       | cons a b=>simp at hl
      have hg:=HR.out.1.g
      have hc':c'.ok:=HR.out.1.ok c' (by simp)
      have h:=run_copyN (P:=Tryz.prog) wr.drew 228 228 3 358 3 g 0 2 2 ⟨g,3,none⟩ 1 1 _ _ c'.vals Tryz.underlying228 (by kernel_rfl) hg.drew rfl (by
       intro j v hv
       rw [add_at]
       refine (hg.drew.cell (3+j)).trans ?_
       rw [←hv]
       match j with
       | 0=>rfl
       | 1=>rfl
       | 2=>rfl
       | j+3=>simp [wayV,Cgo.vals,Nat.add_comm 3]) (by simp [wayV,Cgo.vals]) (by
       intro v hv
       simp only [Cgo.vals,List.mem_cons,List.not_mem_nil,or_false] at hv
       rcases hv with rfl | rfl | rfl
       ·exact cell1_one hc'.1
       ·exact cell1_one hc'.2
       ·rfl)
      refine⟨1,_,_,c',rfl,rfl,h,Lib.hid ?_⟩
      have hpg:p≠g:=by
       rintro rfl
       have:=hp.out
       have:=HL.out.g.lt
       omega
      have hbg:b≠g:=HR.out.1.b.ne_ hg (by decide)
      refine⟨⟨(setRow_other _ _ _ _ hbg).trans HR.out.1.b,setRow_heap _ _ _ _ _ _ hg.drew,?_⟩,(setRow_other _ _ _ _ hpg).trans HR.out.2.1,?_⟩
      ·intro d hd
       simp at hd
       subst hd
       exact hc'
      ·exact⟨rfl,rfl,rfl,by simp [World.setRow],fun k _ hk=>setRow_other _ _ _ _ hk⟩
   have hlm:l.length=m:=by simpa using hm
   rw [hm] at c0
   have hm1:m≤1:=by omega
   have HC:Hid (Chg (fun k=>k=b∨k=g) w wr):=Lib.hid (Chg.of_below HR.out.2.2 _)
   clear HR HX hlt hk
   have q0:(if m=0 then (some (⟨g,0,none⟩:Addr)) else some ⟨g,3,none⟩)=s1:=hs1.symm
   have q2:(1:Int)≤(m:Int)+1:=by omega
   clear hs1
   go_region
   clear hcp c0 c1 q0 q2
   have hl2:(l++ [cz]).length=m+1:=by simp [hlm]
   have c0:=H2.out.1.b.cell 0
   have c1:=H2.out.1.b.cell 1
   simp only [List.getElem?_toArray,List.getElem?_cons_zero,List.getElem?_cons_succ,hl2] at c0 c1
   obtain⟨r1,r2,-⟩:=H2.out.2.1.whole (n:=3) rfl
   have hgl:(wayV (l++ [cz])).length=3*(m+1):=by rw [wayV_len,hl2]
   have r3:canPut w2 ⟨g,m*3,none⟩ 3=true:=by rw [H2.out.1.g.rules.2.2.2.2,hgl];simp;omega
   have hcl:cg.vals.length=3:=rfl
   have hca:cg.vals.all cell1=true:=by simp [Cgo.vals,HO.out.1,HO.out.2,cell1_bool]
   have hbg:b≠g:=H2.out.1.b.ne_ H2.out.1.g (by decide)
   have H3:Hid (Blk (putRow w2 ⟨g,m*3,none⟩ cg.vals) b 230 #[Value.slice (some ⟨g,0,none⟩) (m+1) (m+1),.int .i64 tk]∧Blk (putRow w2 ⟨g,m*3,none⟩ cg.vals) g 358 (wayV (l++ [cg])).toArray∧Chg (· =g) w2 (putRow w2 ⟨g,m*3,none⟩ cg.vals)):=Lib.hid (by
    refine⟨(putRow_other _ _ _ _ hbg).trans (by rw [←hl2];exact H2.out.1.b),?_,Chg.put (S:=(· =g)) (p:=⟨g,m*3,none⟩) (Chg.refl _ _) (.inl rfl) _⟩
    have:=H2.out.1.g.put (m*3) cg.vals
    have e:(wayV (l++ [cz])).take (m*3)++cg.vals++(wayV (l++ [cz])).drop (m*3+cg.vals.length)=wayV (l++ [cg]):=by
     rw [wayV_app,wayV_app,List.take_left' (by rw [wayV_len,hlm];omega),List.drop_eq_nil_of_le (by rw [List.length_append,wayV_len,hlm];simp [Cgo.vals];omega),List.append_nil]
    rwa [e] at this)
   have d1:(putRow w2 ⟨g,m*3,none⟩ cg.vals).cell? ⟨b,1,none⟩=some (.int .i64 tk):=by rw [H3.out.1.cell];rfl
   have d2:(putRow w2 ⟨g,m*3,none⟩ cg.vals).frozen? ⟨b,1,none⟩=false:=H3.out.1.frozen 1
   have hmi:IntKind.i64.wrap ((m:Int)+1 - 1)=m:=by rw [IntWalk.i64_in _ (by omega)];omega
   have hmj:IntKind.i64.wrap (m:Int)=m:=IntWalk.i64_in _ (by omega)
   have htk:IntKind.i64.wrap (tk+1)=tk+1:=IntWalk.i64_in _ (by omega)
   generalize hv:cg.vals=cv at r1 r2 hcl hca d1 d2 H3
   have HCV:=Lib.hid hv
   clear hv
   have HE:Hid (SendP b g tk (l++ [cg]) w (.returned (.int .i64 0)) ((putRow w2 ⟨g,m*3,none⟩ cv).setCell ⟨b,1,none⟩ (.int .i64 (tk+1)))):=Lib.hid (by
    have hb2:=(H3.out.1.set_ 1 (.int .i64 (tk+1)))
    have hll:(l++ [cg]).length=m+1:=by simp [hlm]
    refine⟨rfl,⟨by rw [hll];exact hb2,H3.out.2.1.far (p:=⟨b,1,none⟩) (Ne.symm hbg) _,fun d hd=> ?_⟩,?_⟩
    ·rcases List.mem_append.1 hd with h | h
     ·exact HL.out.ok d (List.mem_cons_of_mem _ h)
     ·simp at h;subst h;exact HO.out
    ·exact HC.out.trans (((H2.out.2.2.mono fun k _ h=> .inr h).trans (H3.out.2.2.mono fun k _ h=> .inr h)).setCell (.inl (.inl rfl)) _))
   rw [hcg.out] at HE
   go_wp2_with fail
   go_region
   go_wp2_with fail
   go_ret
   exact⟨rfl,⟨HE.out.2.1.b,HE.out.2.1.g,HE.out.2.1.ok⟩,HE.out.2.2.drew⟩
def lnF (lb:Nat→Nat) (n:Nat) (i:Int):Option Value:=if 0≤i∧i<4*(n:Int) then some (.pointer (some ⟨lb i.toNat,0,none⟩)) else none
theorem lnF_at (lb:Nat→Nat) {n k:Nat} (h:k<4*n):lnF lb n (k:Int)=some (.pointer (some ⟨lb k,0,none⟩)):=by
 unfold lnF
 rw [if_pos ⟨by omega,by omega⟩]
 rfl
structure WrAt (w:World) (wb mb gb:Nat) (lb wy:Nat→Nat) (n gc:Nat) (tk:Int) (W:Nat→List Cgo) (G:Int→Option Value):Prop where
 b:Blk w wb 171 #[Value.map (some mb),.int .i64 n,.map (some gb),.int .i64 tk]
 m:∃c,MapI Tryz.prog 3 w mb c (lnF lb n)
 g:MapI Tryz.prog 3 w gb gc G
 l:∀k,k<4*n→LnAt w (lb k) (wy k) tk (W k)
theorem WrAt.keep {w w':World} {wb mb gb:Nat} {lb wy:Nat→Nat} {n gc:Nat} {tk:Int} {W:Nat→List Cgo} {G:Int→Option Value} (h:WrAt w wb mb gb lb wy n gc tk W G)
 (hk:∀b,b<w.heap.size→(b=wb∨b=mb∨b=gb∨∃k,k<4*n∧(b=lb k∨b=wy k))→w'.heap[b]? =w.heap[b]?):WrAt w' wb mb gb lb wy n gc tk W G:=
 ⟨(hk wb h.b.lt (.inl rfl)).trans h.b,by obtain⟨c,hc⟩:=h.m;exact⟨c,hc.keep (hk mb hc.lt (.inr (.inl rfl)))⟩,h.g.keep (hk gb h.g.lt (.inr (.inr (.inl rfl)))),
  fun k hl=>(h.l k hl).keep (hk _ (h.l k hl).b.lt (.inr (.inr (.inr ⟨k,hl,.inl rfl⟩)))) (hk _ (h.l k hl).g.lt (.inr (.inr (.inr ⟨k,hl,.inr rfl⟩))))⟩
theorem WrAt.below {w w':World} {wb mb gb:Nat} {lb wy:Nat→Nat} {n gc:Nat} {tk:Int} {W:Nat→List Cgo} {G:Int→Option Value} (h:WrAt w wb mb gb lb wy n gc tk W G) (hb:Below w.heap.size w w'):WrAt w' wb mb gb lb wy n gc tk W G:=h.keep fun b hl _=>hb.block b hl
theorem wthere_any {w:World} {wb mb gb:Nat} {n:Nat} {tk:Int} (h:Blk w wb 171 #[Value.map (some mb),.int .i64 n,.map (some gb),.int .i64 tk]) (hn:0<n):Calls Tryz.prog 95 #[.pointer (some ⟨wb,0,none⟩)] w fun e w'=>e=.returned (.bool true)∧w=w':=by
 have c0:=h.cell 1
 have hl':(0:Int)<n:=by omega
 simp only [List.getElem?_toArray,List.getElem?_cons_zero,List.getElem?_cons_succ] at c0
 clear h
 go_enter Tryz.func95,Tryz.ntmps95
 go_wp2
 go_ret
 exact⟨by simp [hn],rfl⟩
theorem srcD_rng (n:Int) (d at_ hop:Nat) (h:0<n):0≤srcD n d at_ hop∧srcD n d at_ hop<n:=⟨Int.emod_nonneg _ (by omega),Int.emod_lt_of_pos _ h⟩
set_option maxRecDepth 100000 in
set_option maxHeartbeats 2000000 in
theorem whereA_any {w:World} {wb mb gb:Nat} {lb wy:Nat→Nat} {n gc:Nat} {tk:Int} {W:Nat→List Cgo} {G:Int→Option Value} (h:WrAt w wb mb gb lb wy n gc tk W G) (hs:SgW w) (h4:4≤n) (h16:n≤16) (d at_ hop:Nat) (hd:d<2) (ha:at_<n) (hh:hop=1∨hop=2) {c:Cgo} {l:List Cgo} (hc:W (linkE d (srcD n d at_ hop).toNat hop)=c :: l) :
 Calls Tryz.prog 52 #[.pointer (some ⟨wb,0,none⟩),.int .u8 d,.int .i64 at_,.int .i64 hop] w fun e w'=>e=.returned (.tuple #[.agg #[c.x0,c.x1],.bool c.is])∧Below w.heap.size w w':=by
 obtain⟨sc,hsc⟩:∃sc:Nat,Hid (srcD n d at_ hop=sc):=⟨(srcD n d at_ hop).toNat,Lib.hid (by have:=srcD_rng n d at_ hop (by omega);omega)⟩
 have hscn:sc<n:=by have:=srcD_rng n d at_ hop (by omega);have:=hsc.out;omega
 rw [hsc.out,Int.toNat_natCast] at hc
 have hk:linkE d sc hop<4*n:=by unfold linkE;omega
 obtain⟨k,hkk⟩:∃k,Hid (k=linkE d sc hop):=⟨_,Lib.hid rfl⟩
 rw [←hkk.out] at hc hk
 have hB:Below w.heap.size w (w.alloc (.cells postZ.toArray 63)):=(Below.refl _ _).alloc (Nat.le_refl _) _
 have kP:=Blk.new w 63 postZ.toArray
 have hW1:=h.below hB
 have hs1:=hs.below hB
 go_enter Tryz.func52,Tryz.ntmps52
 go_upto_region 1 with fail
 generalize hw1:(w.alloc (.cells postZ.toArray 63))=w1 at hW1 hs1 hB kP ⊢
 obtain⟨p,hp⟩:∃p,Hid (p=w.heap.size):=⟨_,Lib.hid rfl⟩
 rw [←hp.out] at kP hB ⊢
 have HT:=Lib.hid (wthere_any hW1.b (by omega))
 have HWR:=Lib.hid hW1
 have HB:=Lib.hid hB
 have KP:=Lib.hid kP
 have F0:Hid (∀w',WrAt w' wb mb gb lb wy n gc tk W G→w'.cell? ⟨wb,0,none⟩=some (.map (some mb))∧w'.cell? ⟨wb,1,none⟩=some (.int .i64 n)∧(Instr.lookup 167 (.map (some mb)) (.int .i64 k) false).run Tryz.prog w'=.ok (.pointer (some ⟨lb k,0,none⟩)) w'):=Lib.hid fun w' hx=>by
  refine⟨by rw [hx.b.cell];rfl,by rw [hx.b.cell];rfl,?_⟩
  obtain⟨c,hm⟩:=hx.m
  have:=hm.look1 (t:=167) (e:=175) (by kernel_rfl) (by kernel_rfl) (z:=.pointer none) (by kernel_rfl) (i:=(k:Int)) (by simp [Lit.wf,IntKind.min,IntKind.max,IntKind.signed,IntKind.bits];omega)
  rw [lnF_at lb hk] at this
  exact this
 have FA:Hid (∀w',Below w1.heap.size w1 w'→w'.cell? ⟨wb,0,none⟩=some (.map (some mb))∧w'.cell? ⟨wb,1,none⟩=some (.int .i64 n)∧(Instr.lookup 167 (.map (some mb)) (.int .i64 k) false).run Tryz.prog w'=.ok (.pointer (some ⟨lb k,0,none⟩)) w'∧canPut w' ⟨p,0,none⟩ 2=true):=Lib.hid fun w' hb=>by
  obtain⟨a1,a2,a3⟩:=F0.out w' (hW1.below hb)
  exact⟨a1,a2,a3,by rw [(kP.below hb kP.lt).rules.2.2.2.2];rfl⟩
 have FP:Hid (∀(w':World) (cv:List Value),Below w1.heap.size w1 w'→(putRow w' ⟨p,0,none⟩ cv).cell? ⟨wb,0,none⟩=some (.map (some mb))∧(putRow w' ⟨p,0,none⟩ cv).cell? ⟨wb,1,none⟩=some (.int .i64 n)∧(Instr.lookup 167 (.map (some mb)) (.int .i64 k) false).run Tryz.prog (putRow w' ⟨p,0,none⟩ cv)=.ok (.pointer (some ⟨lb k,0,none⟩)) (putRow w' ⟨p,0,none⟩ cv)∧canPut (putRow w' ⟨p,0,none⟩ cv) ⟨p,0,none⟩ 2=true):=Lib.hid fun w' cv hb=>by
  have hq:∀b,b<w.heap.size→b≠p:=fun b h=>by have:=hp.out;omega
  obtain⟨a1,a2,a3⟩:=F0.out (putRow w' ⟨p,0,none⟩ cv) (h.keep fun b hl _=>(putRow_other _ _ _ _ (hq b hl)).trans ((hb.block b (Nat.lt_of_lt_of_le hl (by have:=hB.size;have:=hp.out;omega))).trans (hB.block b (by have:=hp.out;omega))))
  refine⟨a1,a2,a3,?_⟩
  rw [((kP.below hb kP.lt).put 0 cv).rules.2.2.2.2]
  simp [postZ]
  omega
 have HS:Hid (∀w',Below w1.heap.size w1 w'→Calls Tryz.prog 97 #[.int .i64 n,.int .u8 d,.int .i64 at_,.int .i64 hop] w' fun e w''=>e=.returned (.int .i64 sc)∧Below w1.heap.size w1 w''):=Lib.hid fun w' hb=>by
  refine (source_any n d at_ hop w' (hs1.below hb) (by omega) (by omega) hd (by omega) hh).mono ?_
  rintro e w'' ⟨rfl,hb2⟩
  exact⟨by rw [hsc.out],hb.trans (hb2.mono hb.size)⟩
 have HK:Hid (∀w',Below w1.heap.size w1 w'→Calls Tryz.prog 54 #[.int .i64 n,.int .u8 d,.int .i64 sc,.int .i64 hop] w' fun e w''=>e=.returned (.int .i64 k)∧Below w1.heap.size w1 w''):=Lib.hid fun w' hb=>by
  refine (link_any n d sc hop (by omega) (by omega) hd (by omega) hh w').mono ?_
  rintro e w'' ⟨rfl,hb2⟩
  exact⟨by rw [hkk.out],hb.trans (hb2.mono hb.size)⟩
 obtain⟨cv,hcv⟩:∃cv,Hid (cv=[c.x0,c.x1]):=⟨_,Lib.hid rfl⟩
 have hcl:cv.length=2:=by rw [hcv.out];rfl
 have hca:cv.all cell1=true:=by
  have hok:c.ok:=(hW1.l k hk).ok c (by rw [hc];simp)
  rw [hcv.out];simp [hok.1,hok.2]
 have HH:Hid (∀w',Below w1.heap.size w1 w'→Calls Tryz.prog 98 #[.pointer (some ⟨lb k,0,none⟩)] w' fun e w''=>e=.returned (.tuple #[.agg cv.toArray,.bool c.is])∧Below w1.heap.size w1 w''):=Lib.hid fun w' hb=>by
  refine (lhere_any (c:=c) (l:=l) (by rw [←hc];exact (hW1.below hb).l k hk)).mono ?_
  rintro e w'' ⟨rfl,hb2⟩
  exact⟨by rw [hcv.out],hb.trans (hb2.mono hb.size)⟩
 have hcok:c.ok:=(hW1.l k hk).ok c (by rw [hc];simp)
 have HCok:=Lib.hid hcok
 have HE:Hid (∀w',Below w1.heap.size w1 w'→hasRow (putRow w' ⟨p,0,none⟩ cv) ⟨p,0,none⟩ 2=true∧rowOf (putRow w' ⟨p,0,none⟩ cv) ⟨p,0,none⟩ 2=cv∧Below w.heap.size w (putRow w' ⟨p,0,none⟩ cv)):=Lib.hid fun w' hb=>by
  obtain⟨e1,e2,e3⟩:=((kP.below hb kP.lt).put_all (l:=cv) hcl.symm).whole (n:=2) hcl
  rw [hp.out] at hB
  exact⟨e1,e2,Below.put (hB.trans (hb.mono hB.size)) (by show w.heap.size≤p;have:=hp.out;omega) _⟩
 obtain⟨f0,f1,f2,f3⟩:=FA.out w1 (Below.refl _ _)
 clear hW1 hs1 hB kP h hs hc hw1 hcok
 go_wp2_with fail
 (with_reducible refine HT.out.mono ?_)
 rintro e w' ⟨rfl,rfl⟩
 go_upto_region 3 with fail
 go_region_held3 (fun w'=>w'.cell? ⟨wb,0,none⟩=some (.map (some mb))∧w'.cell? ⟨wb,1,none⟩=some (.int .i64 n)∧(Instr.lookup 167 (.map (some mb)) (.int .i64 k) false).run Tryz.prog w'=.ok (.pointer (some ⟨lb k,0,none⟩)) w'∧canPut w' ⟨p,0,none⟩ 2=true)
  (with_reducible first | exact FP.out _ _ HB4.out | exact FA.out _ HB4.out | exact FA.out _ HB3.out | exact FA.out _ HB2.out | exact FA.out _ (Below.refl _ _).drew)
  ((first
    | (go_at_call 97;(with_reducible refine (HS.out _ (Below.refl _ _).drew).mono ?_);rintro e w2 ⟨rfl,hb2⟩;have HB2:=Lib.hid hb2;clear hb2)
    | (go_at_call 54;(with_reducible refine (HK.out _ HB2.out).mono ?_);rintro e w3 ⟨rfl,hb3⟩;have HB3:=Lib.hid hb3;clear hb3)
    | (go_at_call 98;(with_reducible refine (HH.out _ HB3.out).mono ?_);rintro e w4 ⟨rfl,hb4⟩;have HB4:=Lib.hid hb4;clear hb4)))
 all_goals try go_wp2_with fail
 all_goals try simp only [Exit.inBlock,Exit.then]
 all_goals first | refine bodyPost_ret (ret_rowL (n:=2) rfl ag_post _ _ _ rfl ?_) rfl ?_ | refine bodyPost_end (ret_rowL (n:=2) rfl ag_post _ _ _ rfl ?_) rfl ?_
 ·exact (HE.out _ HB4.out).1
 ·exact⟨by rw [(HE.out _ HB4.out).2.1,hcv.out];rfl,(HE.out _ HB4.out).2.2⟩
set_option maxRecDepth 100000 in
theorem wmay_any {w:World} {wb mb gb:Nat} {lb wy:Nat→Nat} {n gc:Nat} {tk:Int} {W:Nat→List Cgo} {G:Int→Option Value} (h:WrAt w wb mb gb lb wy n gc tk W G) (h4:4≤n) (h16:n≤16) (k:Nat) (hk:k<4*n) :
 Calls Tryz.prog 119 #[.pointer (some ⟨wb,0,none⟩),.int .i64 k] w fun e w'=>e=.returned (.int .i64 0)∧w=w':=by
 have HT:=Lib.hid (wthere_any h.b (by omega))
 have c0:=h.b.cell 0
 simp only [List.getElem?_toArray,List.getElem?_cons_zero] at c0
 have hlk:(Instr.lookup 167 (.map (some mb)) (.int .i64 k) true).run Tryz.prog w=.ok (.tuple #[.pointer (some ⟨lb k,0,none⟩),.bool true]) w:=by
  obtain⟨c,hm⟩:=h.m
  have:=hm.look (t:=167) (e:=175) (by kernel_rfl) (by kernel_rfl) (z:=.pointer none) (by kernel_rfl) (i:=(k:Int)) (by simp [Lit.wf,IntKind.min,IntKind.max,IntKind.signed,IntKind.bits];omega)
  rw [lnF_at lb hk] at this
  exact this
 clear h
 go_enter Tryz.func119,Tryz.ntmps119
 go_wp2_with fail
 (with_reducible refine HT.out.mono ?_)
 rintro e w' ⟨rfl,rfl⟩
 go_wp2_with fail
 go_ret
 exact⟨rfl,rfl⟩
def putF (G:Int→Option Value) (k:Int) (v:Value) (i:Int):Option Value:=if i=k then some v else G i
set_option maxRecDepth 100000 in
set_option maxHeartbeats 1000000 in
theorem wgive_any {w:World} {wb mb gb:Nat} {lb wy:Nat→Nat} {n gc:Nat} {tk:Int} {W:Nat→List Cgo} {G:Int→Option Value} (h:WrAt w wb mb gb lb wy n gc tk W G) (h4:4≤n) (h16:n≤16) (hgc:gc≤1000) (k:Nat) (hk:k<4*n) (hne:gb≠wb∧gb≠mb∧∀k,k<4*n→gb≠lb k∧gb≠wy k) (x0 x1:Value) (h0:cell1 x0=true) (h1:cell1 x1=true) :
 Calls Tryz.prog 56 #[.pointer (some ⟨wb,0,none⟩),.int .i64 k,.agg #[x0,x1]] w fun e w'=>e=.returned (.int .i64 0)∧WrAt w' wb mb gb lb wy n (gc+1) tk W (putF G k (.agg #[x0,x1]))∧Chg (· =gb) w w':=by
 obtain⟨cv,hcv⟩:∃cv,Hid (cv=[x0,x1]):=⟨_,Lib.hid rfl⟩
 have hcl:cv.length=2:=by rw [hcv.out];rfl
 have hca:cv.all cell1=true:=by rw [hcv.out];simp [h0,h1]
 rw [show (#[x0,x1]:Array Value)=cv.toArray by rw [hcv.out]]
 have hB:Below w.heap.size w (w.alloc (.cells cv.toArray 63)):=(Below.refl _ _).alloc (Nat.le_refl _) _
 have kP:=Blk.new w 63 cv.toArray
 have HW:=Lib.hid (h.below hB)
 have hpl:w.heap.size<(w.alloc (.cells cv.toArray 63)).heap.size:=by simp
 have HLT:Hid (∀b,(b=wb∨b=mb∨b=gb∨∃k,k<4*n∧(b=lb k∨b=wy k))→b<w.heap.size):=Lib.hid (by
  rintro b (rfl | rfl | rfl | ⟨k,hk,rfl | rfl⟩)
  ·exact h.b.lt
  ·obtain⟨c,hm⟩:=h.m;exact hm.lt
  ·exact h.g.lt
  ·exact (h.l k hk).b.lt
  ·exact (h.l k hk).g.lt)
 have HB:=Lib.hid hB
 clear h hB
 go_enter Tryz.func56,Tryz.ntmps56
 go_upto_region 1 with fail
 generalize (w.alloc (.cells cv.toArray 63))=w1 at HW HB hpl kP ⊢
 obtain⟨p,hp⟩:∃p,Hid (p=w.heap.size):=⟨_,Lib.hid rfl⟩
 rw [←hp.out] at kP hpl ⊢
 have HM:=Lib.hid (wmay_any HW.out h4 h16 k hk)
 go_wp2_with fail
 (with_reducible refine HM.out.mono ?_)
 rintro e w' ⟨rfl,rfl⟩
 have c2:=HW.out.b.cell 2
 simp only [List.getElem?_toArray,List.getElem?_cons_zero,List.getElem?_cons_succ] at c2
 obtain⟨r1,r2,-⟩:=kP.whole hcl
 obtain⟨w2,hmu,hm2,hg2⟩:=(HW.out.g.keep (w':=w1.drew) rfl).put (t:=54) (e:=63) (by kernel_rfl) (by kernel_rfl) (by unfold maxLen;omega) (i:=(k:Int)) (by simp [Lit.wf,IntKind.min,IntKind.max,IntKind.signed,IntKind.bits];omega) (.agg cv.toArray)
 have HE:Hid (WrAt w2 wb mb gb lb wy n (gc+1) tk W (putF G k (.agg cv.toArray))∧Chg (· =gb) w w2):=Lib.hid (by
  have hW:=HW.out
  have hbl:∀b,b<w1.heap.size→b≠gb→w2.heap[b]? =w1.heap[b]?:=fun b hl hn=>hg2.block b hl (by intro e;injection e with e;exact hn e)
  refine⟨⟨(hbl wb hW.b.lt hne.1.symm).trans hW.b,?_,?_,fun j hj=>(hW.l j hj).keep (hbl _ (hW.l j hj).b.lt (hne.2.2 j hj).1.symm) (hbl _ (hW.l j hj).g.lt (hne.2.2 j hj).2.symm)⟩,?_⟩
  ·obtain⟨c,hm⟩:=hW.m
   exact⟨c,hm.keep (hbl mb hm.lt hne.2.1.symm)⟩
  ·exact hm2
  ·have hb:=HB.out
   exact⟨hg2.os.trans hb.os,hg2.tape.trans hb.tape,hg2.output.trans hb.output,Nat.le_trans hb.size hg2.size,fun j hj hn=>(hbl j (Nat.lt_of_lt_of_le hj hb.size) hn).trans (hb.block j hj)⟩)
 clear hm2 hg2 kP hpl
 go_wp2_with fail
 go_region
 go_wp2_with fail
 go_ret
 exact⟨rfl,HE.out⟩
end Go.Proofs.YtdilbjikeilhbaaGreatDoor
