import Derived.Shelf.SortM.Plain
import Derived.Shelf.SortM.SortNone
import Derived.Ground.SlgmProg
import Derived.Test.YtdilbjikeilhbaaGreatDoorGn13
import Derived.Test.YtdilbjikeilhbaaGreatDoorProg
import Derived.Test.YtdilbjikeilhbaaGreatDoorGn14
import Derived.Lib.OwnBridge
import Derived.Sort.Grow
import Derived.Sort.OwnSortedInts
namespace Go.Proofs.YtdilbjikeilhbaaGreatDoor
open Go.Shelf Go.Sort Go.RowKit
set_option linter.unusedVariables false
set_option linter.unusedSimpArgs false
def sortA_ren:Go.Shelf.Ren:=⟨fun | 5=>147 | 8=>189 | 7=>188 | 19=>234 | 20=>235 | 10=>225 | 11=>226 | 12=>227 | 13=>228 | 14=>229 | 15=>230 | 16=>231 | 17=>232 | 18=>233 | 30=>277 | 31=>278 | 32=>279 | 33=>280 | 34=>281 | 35=>282 | 40=>318 | n=>n,fun | 23=>367 | 25=>2 | 3=>3 | 32=>224 | 22=>328 | 0=>0 | 44=>78 | 46=>125 | 4=>4 | 36=>466 | 35=>465 | 41=>471 | 5=>5 | 9=>9 | 53=>518 | 57=>522 | 63=>557 | 64=>558 | n=>n,fun | n=>n⟩
theorem sortA:Go.Proofs.SlLaysM.n5 Tryz.prog sortA_ren:={
 mixed:=by kernel_rfl,
 f5:=⟨Tryz.f147.name,by decide,Tryz.func147.trans (congrArg some (by kernel_rfl))⟩,
 f7:=⟨Tryz.f188.name,by decide,Tryz.func188.trans (congrArg some (by kernel_rfl))⟩,
 f8:=Tryz.func189.trans (congrArg some (by kernel_rfl)),
 f10:=⟨Tryz.f225.name,by decide,Tryz.func225.trans (congrArg some (by kernel_rfl))⟩,
 f11:=⟨Tryz.f226.name,by decide,Tryz.func226.trans (congrArg some (by kernel_rfl))⟩,
 f12:=⟨Tryz.f227.name,by decide,Tryz.func227.trans (congrArg some (by kernel_rfl))⟩,
 f13:=⟨Tryz.f228.name,by decide,Tryz.func228.trans (congrArg some (by kernel_rfl))⟩,
 f14:=⟨Tryz.f229.name,by decide,Tryz.func229.trans (congrArg some (by kernel_rfl))⟩,
 f15:=⟨Tryz.f230.name,by decide,Tryz.func230.trans (congrArg some (by kernel_rfl))⟩,
 f16:=⟨Tryz.f231.name,by decide,Tryz.func231.trans (congrArg some (by kernel_rfl))⟩,
 f17:=⟨Tryz.f232.name,by decide,Tryz.func232.trans (congrArg some (by kernel_rfl))⟩,
 f18:=⟨Tryz.f233.name,by decide,Tryz.func233.trans (congrArg some (by kernel_rfl))⟩,
 f19:=Tryz.func234.trans (congrArg some (by kernel_rfl)),
 f20:=Tryz.func235.trans (congrArg some (by kernel_rfl)),
 f30:=⟨Tryz.f277.name,by decide,Tryz.func277.trans (congrArg some (by kernel_rfl))⟩,
 f31:=Tryz.func278.trans (congrArg some (by kernel_rfl)),
 f32:=Tryz.func279.trans (congrArg some (by kernel_rfl)),
 f33:=⟨Tryz.f280.name,by decide,Tryz.func280.trans (congrArg some (by kernel_rfl))⟩,
 f34:=⟨Tryz.f281.name,by decide,Tryz.func281.trans (congrArg some (by kernel_rfl))⟩,
 f35:=⟨Tryz.f282.name,by decide,Tryz.func282.trans (congrArg some (by kernel_rfl))⟩,
 f40:=⟨Tryz.f318.name,by decide,Tryz.func318.trans (congrArg some (by kernel_rfl))⟩,
 t0:=Tryz.underlying0,
 a0:=Tryz.isAgg0,
 z0:=Tryz.sizeOf0,
 v0:=Tryz.zeroValue0,
 t3:=Tryz.underlying3,
 a3:=Tryz.isAgg3,
 z3:=Tryz.sizeOf3,
 v3:=Tryz.zeroValue3,
 t4:=Tryz.underlying4,
 a4:=Tryz.isAgg4,
 z4:=Tryz.sizeOf4,
 v4:=Tryz.zeroValue4,
 t5:=Tryz.underlying5,
 a5:=Tryz.isAgg5,
 z5:=Tryz.sizeOf5,
 v5:=Tryz.zeroValue5,
 t9:=Tryz.underlying9,
 a9:=Tryz.isAgg9,
 z9:=Tryz.sizeOf9,
 v9:=Tryz.zeroValue9,
 t22:=Tryz.underlying328,
 a22:=Tryz.isAgg328,
 z22:=Tryz.sizeOf328,
 v22:=Tryz.zeroValue328,
 t23:=Tryz.underlying367,
 a23:=Tryz.isAgg367,
 z23:=Tryz.sizeOf367,
 v23:=Tryz.zeroValue367,
 t25:=Tryz.underlying2,
 a25:=Tryz.isAgg2,
 z25:=Tryz.sizeOf2,
 v25:=Tryz.zeroValue2,
 t32:=Tryz.underlying224,
 a32:=Tryz.isAgg224,
 z32:=Tryz.sizeOf224,
 v32:=Tryz.zeroValue224,
 t35:=Tryz.underlying465,
 a35:=Tryz.isAgg465,
 z35:=Tryz.sizeOf465,
 v35:=Tryz.zeroValue465,
 t36:=Tryz.underlying466,
 a36:=Tryz.isAgg466,
 z36:=Tryz.sizeOf466,
 v36:=Tryz.zeroValue466,
 t41:=Tryz.underlying471,
 a41:=Tryz.isAgg471,
 z41:=Tryz.sizeOf471,
 v41:=Tryz.zeroValue471,
 t44:=Tryz.underlying78,
 a44:=Tryz.isAgg78,
 z44:=Tryz.sizeOf78,
 v44:=Tryz.zeroValue78,
 t46:=Tryz.underlying125,
 a46:=Tryz.isAgg125,
 z46:=Tryz.sizeOf125,
 v46:=Tryz.zeroValue125,
 t53:=Tryz.underlying518,
 a53:=Tryz.isAgg518,
 z53:=Tryz.sizeOf518,
 v53:=Tryz.zeroValue518,
 t57:=Tryz.underlying522,
 a57:=Tryz.isAgg522,
 z57:=Tryz.sizeOf522,
 v57:=Tryz.zeroValue522,
 t63:=Tryz.underlying557,
 a63:=Tryz.isAgg557,
 z63:=Tryz.sizeOf557,
 v63:=Tryz.zeroValue557,
 t64:=Tryz.underlying558,
 a64:=Tryz.isAgg558,
 z64:=Tryz.sizeOf558,
 v64:=Tryz.zeroValue558 }
theorem sort_some (blk off cap:Nat) (zs:List Int) (w:World) (hH:Holds (Value.int .i64) w blk off zs.toArray) (hblk:blk<w.heap.size) (hsz:zs.length<4611686018427387904) :
 Calls Tryz.prog 147 #[.slice (some ⟨blk,off,none⟩) zs.length cap] w fun e w'=>e=.returned (.tuple #[])∧∃n os,w'=grow (Go.Sort.putRow (Value.int .i64) (Sort.ahead w n) blk off (srt zs).toArray) os:=AnyM.slices_Sort_int sortA blk off cap zs w hH hblk hsz
end Go.Proofs.YtdilbjikeilhbaaGreatDoor
namespace Go.Proofs.YtdilbjikeilhbaaGreatDoor
open Go.RowKit Go.Sort
set_option linter.unusedVariables false
set_option linter.unusedSimpArgs false
set_option maxRecDepth 100000 in
set_option maxHeartbeats 1000000 in
theorem each_any (S:Nat→Prop) (W:World) (g:Nat) (xs:List Int) (a:Option Addr) (len cap:Nat) (L:List Hd) (w:World) (hrd:RdHs S W a len L) (hv:AgV W g xs w) (hx:xs.length+len≤1000) :
 Calls Tryz.prog 145 #[.slice a len cap,.func (.func 146) #[.pointer (some ⟨g,0,none⟩)] #[]] w fun e w'=>e=.returned (.tuple #[])∧AgV W g (xs++agesOf L) w':=by
 have HR:=Lib.hid hrd
 have HV:=Lib.hid hv
 clear hrd hv
 go_enter Tryz.func145,Tryz.ntmps145
 go_wp2_with fail
 go_loopw [8] (fun i wr=> ∃k:Nat,k≤len∧i=.int .i64 k∧AgV W g (xs++agesOf (L.take k)) wr) (fun i _=>len - (intOf i).toNat)
 case atStart=>exact⟨0,by omega,rfl,by simpa [agesOf] using HV.out⟩
 case round=>
  obtain⟨k,hk,rfl,hr⟩:=hrel
  by_cases hlt:k<len
  ·obtain⟨b,off,is,n,r,rfl,hS,hbw,hlk,hok,hlr,hlc1,h1,h2,h3,h4,h5,h6,h7,h8⟩:=HR.out.at_ k hlt
   obtain⟨v,q1,q2,q3,q4⟩:=id hr
   have r1:=row_below q3 (p:=⟨b,off+k*56,none⟩) hbw 56
   have g1:hasRow wr ⟨b,off+k*56,none⟩ 56=true:=r1.1.trans h1
   have g2:rowOf wr ⟨b,off+k*56,none⟩ 56=Hd.vals ⟨is,.int .i64 n :: r⟩:=r1.2.trans h2
   have hvl:=Hd.vals_len (h:=⟨is,.int .i64 n :: r⟩) hok
   have hvc:=hd_cell1 (h:=⟨is,.int .i64 n :: r⟩) hok
   have hal:(xs++agesOf (L.take k)).length≤1000:=by
    have:=agesOf_len (L.take k)
    rw [List.length_take] at this
    rw [List.length_append];omega
   have HC:=Lib.hid (add_any W g (xs++agesOf (L.take k)) ⟨is,.int .i64 n :: r⟩ hok (wr.alloc (.cells (Hd.vals ⟨is,.int .i64 n :: r⟩).toArray 204)) (hr.below ((Below.refl _ _).alloc (Nat.le_refl _) _)) hal)
   have HK:=Lib.hid (agesOf_succ hlk)
   have hvt:=List.take_of_length_le (Nat.le_of_eq hvl)
   clear r1 h1 h2 h3 h4 h5 h6 hr q1 q2 q3 q4 hlk hlr hlc1 hal
   generalize Hd.vals ⟨is,.int .i64 n :: r⟩=y at *
   go_wp2_with fail
   refine HC.out.mono ?_
   rintro e w3 ⟨rfl,hv3⟩
   have H3:=Lib.hid hv3
   clear hv3 HC
   go_wp2_with fail
   refine⟨⟨k+1,by omega,by go_num,?_⟩,by simp [intOf];omega⟩
   rw [HK.out,←List.append_assoc]
   exact H3.out
  ·have hkl:k=len:=by omega
   subst hkl
   have H:=Lib.hid hr
   clear hr
   go_wp2_with fail
   go_end0
   have h1:=H.out
   rw [List.take_of_length_le (by rw [HR.out.1];omega)] at h1
   exact⟨rfl,h1⟩
set_option maxRecDepth 100000 in
set_option maxHeartbeats 1000000 in
theorem common_in (S:Nat→Prop) (n:Int) (hn:4≤n∧n≤16) (a:Option Addr) (len cap:Nat) (L:List Hd) (w:World) (hrd:RdHs S w a len L) (hm1:len≤cap) (hm2:cap≤maxLen) :
 Calls Tryz.prog 102 #[.int .i64 n,.slice a len cap] w fun e w'=>e=.returned (.int .i64 (commonF n L))∧Below w.heap.size w w':=by
 obtain⟨h4,h16⟩:=hn
 have e1:(decide (4≤n)&&decide (n≤16))=true:=by simp [h4,h16]
 obtain⟨M,hM⟩:∃M:Nat,M=min n.toNat len:=⟨_,rfl⟩
 have hMe:(min n (len:Int)).toNat=M:=by omega
 have hMl:M≤len:=by omega
 have hM16:M≤16:=by omega
 have htk:L.take n.toNat=L.take M:=by
  rw [hM]
  rcases Nat.le_total n.toNat len with h | h
  ·rw [Nat.min_eq_left h]
  ·rw [Nat.min_eq_right h,List.take_of_length_le (by rw [hrd.1];exact h),List.take_of_length_le (by rw [hrd.1];exact Nat.le_refl _)]
 have hcF:commonF n L=if ((agesOf (L.take M)).length:Int)<n - 1 then -1 else medI (agesOf (L.take M)):=by
  unfold commonF
  rw [if_pos ⟨h4,h16⟩,htk]
 have hlen:=agesOf_len (L.take M)
 rw [List.length_take] at hlen
 have hR:=rdHs_take hrd hMl
 have hall:∀x ∈ agesOf (L.take M),0≤x∧x≤1099511627776:=fun x hx=>agesOf_ok hx
 have HE:=Lib.hid (each_any S w w.heap.size [] a M cap (L.take M) (w.alloc (.cells #[.slice none 0 0] 367)) hR (AgV.start w) (by simp;omega))
 rw [List.nil_append] at HE
 generalize agesOf (L.take M)=xs at hcF hlen hall HE
 rw [hcF]
 have HA:=Lib.hid hall
 clear hcF hR hrd htk hM hall
 unfold maxLen at hm2
 by_cases hfew:(xs.length:Int)<n - 1
 ·rw [if_pos hfew]
  go_enter Tryz.func102,Tryz.ntmps102
  go_wp2_with fail
  refine (agmay_any _ _).mono ?_
  rintro e w' ⟨rfl,rfl⟩
  go_wp2_with fail
  refine HE.out.mono ?_
  rintro e w2 ⟨rfl,v,q1,q2,q3,q4⟩
  have d0:w2.cell? ⟨w.heap.size,0,none⟩=some v:=q1.cell 0
  have HB:=Lib.hid q3
  obtain⟨va,vc,rfl⟩:=own_slice q2
  clear q1 q2 q3 q4 HE
  go_wp2_with fail
  go_ret
  exact⟨rfl,HB.out⟩
 ·rw [if_neg hfew]
  go_enter Tryz.func102,Tryz.ntmps102
  go_wp2_with fail
  refine (agmay_any _ _).mono ?_
  rintro e w' ⟨rfl,rfl⟩
  go_wp2_with fail
  refine HE.out.mono ?_
  rintro e w2 ⟨rfl,v,q1,q2,q3,q4⟩
  obtain⟨g,cp,rfl,hbg,hgl,hncap,hcm,-,hH⟩:=Lib.holds_of_ownsRow q2 (own_nn q2 (by omega))
  have d0:w2.cell? ⟨w.heap.size,0,none⟩=some (.slice (some ⟨g,0,none⟩) xs.length cp):=q1.cell 0
  have hne:=own_not q2 q1 (by decide)
  have hne:w.heap.size≠g:=fun e=>hne (by rw [e];rfl)
  have HS:=Lib.hid (sort_some g 0 cp xs w2 hH hgl (by omega))
  have HH:=Lib.hid (And.intro q1 (And.intro q3 (And.intro hH (And.intro hbg (And.intro hgl hne)))))
  clear q1 q2 q3 q4 HE hH hbg hgl hne hcm
  go_wp2_with fail
  refine HS.out.mono ?_
  rintro e w3 ⟨rfl,nn,os,hw3⟩
  have hH3:Holds (Value.int .i64) w3 g 0 (srt xs).toArray:=by
   subst hw3
   exact holds_grow _ _ os g 0 _ (by simpa [putRow,mapBlock,Sort.ahead] using HH.out.2.2.2.2.1) (holds_putRow _ _ g 0 _ _ (holds_ahead _ w2 nn g 0 _ HH.out.2.2.1) (by simp [srt_len]))
  have hgr:w2.grownBy w3 (some g):=by subst hw3;exact grownBy_sortedI _
  have hB3:Below w.heap.size w w3:=HH.out.2.1.grown hgr HH.out.2.1.size (fun j hj=>by cases hj;exact HH.out.2.2.2.1)
  have hb3:Blk w3 w.heap.size 367 #[.slice (some ⟨g,0,none⟩) xs.length cp]:=(hgr.block _ HH.out.1.lt (by simp;exact fun e=>HH.out.2.2.2.2.2 e)).trans HH.out.1
  have d3:w3.cell? ⟨w.heap.size,0,none⟩=some (.slice (some ⟨g,0,none⟩) xs.length cp):=hb3.cell 0
  obtain⟨I,hI⟩:∃I:Nat,I=(xs.length - 1) / 2:=⟨_,rfl⟩
  have hI1:((xs.length:Int) - 1) / 2=(I:Int):=by omega
  have hI2:I<xs.length:=by omega
  have c3:w3.cell? ⟨g,I,none⟩=some (.int .i64 (medI xs)):=by
   have h1:=(hH3 I (by simp [srt_len];exact hI2)).1
   rw [Nat.zero_add] at h1
   rw [h1,getElem!_pos _ I (by simp [srt_len];exact hI2)]
   have h2:=medI_at (l:=xs) (by omega)
   rw [←hI] at h2
   have h3:=(List.getElem?_eq_some_iff.1 h2).2
   simp [h3]
  have HF:=Lib.hid (And.intro hB3 hI)
  clear hw3 HS hH3 hgr hB3 hb3 d0 hI
  go_wp2_with fail
  go_ret
  exact⟨rfl,HF.out.1⟩
theorem common_any (S:Nat→Prop) (n:Int) (a:Option Addr) (len cap:Nat) (L:List Hd) (w:World) (hrd:RdHs S w a len L) (hm1:len≤cap) (hm2:cap≤maxLen) :
 Calls Tryz.prog 102 #[.int .i64 n,.slice a len cap] w fun e w'=>e=.returned (.int .i64 (commonF n L))∧Below w.heap.size w w':=by
 by_cases h:4≤n∧n≤16
 ·exact common_in S n h a len cap L w hrd hm1 hm2
 ·have e1:(decide (4≤n)&&decide (n≤16))=false:=by simp;omega
  have e2:commonF n L= -1:=by unfold commonF;rw [if_neg h]
  rw [e2]
  clear h
  go_enter Tryz.func102,Tryz.ntmps102
  go_wp2_with fail
  refine (agmay_any _ _).mono ?_
  rintro e w' ⟨rfl,rfl⟩
  go_wp2_with fail
  go_ret
  exact⟨rfl,Below.refl _ _⟩
end Go.Proofs.YtdilbjikeilhbaaGreatDoor
