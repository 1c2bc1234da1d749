import Derived.Test.YtdilbjikeilhbaaGreatDoorGn19
import Derived.Test.YtdilbjikeilhbaaGreatDoorGn03
import Derived.Laws.CopyOwn
namespace Go.Proofs.YtdilbjikeilhbaaGreatDoor
open Go.RowKit
set_option linter.unusedVariables false
set_option linter.unusedSimpArgs false
def idxP (p:Int→Bool):List Int→Int→Int
 | [],_=> -1
 | x :: r,k=>if p x then k else idxP p r (k+1)
theorem idxP_step {p:Int→Bool} {zs:List Int} {k:Nat} {z:Int} (hz:zs[k]? =some z):idxP p (zs.drop k) k=if p z then (k:Int) else idxP p (zs.drop (k+1)) ((k+1:Nat):Int):=by
 have hk:k<zs.length:=(List.getElem?_eq_some_iff.1 hz).1
 rw [List.drop_eq_getElem_cons hk]
 have:zs[k]=z:=(List.getElem?_eq_some_iff.1 hz).2
 rw [this]
 simp [idxP]
def firstE:List Int→Int
 | [] =>0
 | x :: r=>if x=0 then firstE r else x
theorem first1_any (z:Int) (w:World):Calls Tryz.prog 128 #[.int .i64 z] w fun e w'=>e=.returned (.bool (decide (z≠0)))∧w'=w:=by
 go_enter Tryz.func128,Tryz.ntmps128
 by_cases h:z=0
 ·subst h
  go_wp2
  go_ret
  exact⟨rfl,rfl⟩
 ·go_wp2
  go_ret
  exact⟨by simp [h],rfl⟩
set_option maxRecDepth 100000 in
set_option maxHeartbeats 1000000 in
theorem idxE_any (S:Nat→Prop) (a:Option Addr) (len cap:Nat) (zs:List Int) (w:World) (h:RdZ S w a len zs) (hm1:len≤cap) (hm2:cap≤maxLen) :
 Calls Tryz.prog 127 #[.slice a len cap,.func (.func 128) #[] #[]] w fun e w'=>e=.returned (.int .i64 (idxP (fun z=>decide (z≠0)) zs 0))∧w'=w:=by
 unfold maxLen at hm2
 have HR:=Lib.hid h
 clear h
 obtain⟨p,hp⟩:∃p:Int→Bool,p=fun z=>decide (z≠0):=⟨_,rfl⟩
 rw [←hp]
 have HF:Hid (∀z w,Calls Tryz.prog 128 #[.int .i64 z] w fun e w'=>e=.returned (.bool (p z))∧w'=w):=Lib.hid (by rw [hp];exact first1_any)
 clear hp
 go_enter Tryz.func127,Tryz.ntmps127
 go_wp2_with fail
 go_loopw [8] (fun i wr=> ∃k:Nat,k≤len∧i=.int .i64 k∧wr=w∧idxP p zs 0=idxP p (zs.drop k) k) (fun i _=>len - (intOf i).toNat)
 case atStart=>exact⟨0,by omega,rfl,rfl,rfl⟩
 case round=>
  obtain⟨k,hk,rfl,rfl,he⟩:=hrel
  have HE:=Lib.hid he
  clear he
  by_cases hlt:k<len
  ·obtain⟨b,off,z,rfl,-,-,hz,hc⟩:=HR.out.at_ hlt
   have hlt':(k:Int)<len:=by omega
   have hk0:(0:Int)≤k:=by omega
   have HZ:=Lib.hid hz
   have HW:=Lib.hid (HF.out z wr)
   obtain⟨q,hq⟩:∃q,q=p z:=⟨_,rfl⟩
   have HQ:=Lib.hid hq
   rw [←hq] at HW
   clear hz hq
   go_wp2_with fail
   (with_reducible refine HW.out.mono ?_)
   rintro e w' ⟨rfl,rfl⟩
   cases q with
   | true=>
     have HN:Hid (idxP p zs 0=(k:Int)):=Lib.hid (by rw [HE.out,idxP_step HZ.out,if_pos HQ.out.symm])
     go_wp2_with fail
     go_ret
     rw [HN.out]
     exact⟨rfl,rfl⟩
   | false=>
     have HN:Hid (idxP p zs 0=idxP p (zs.drop (k+1)) ((k+1:Nat):Int)):=Lib.hid (by rw [HE.out,idxP_step HZ.out,if_neg (by rw [←HQ.out];decide)])
     go_wp2_with fail
     exact⟨⟨k+1,by omega,by go_num,by first | rfl | trivial,HN.out⟩,by simp [intOf];omega⟩
  ·have hlt':¬(k:Int)<len:=by omega
   have HN:Hid (idxP p zs 0= -1):=Lib.hid (by rw [HE.out,List.drop_eq_nil_of_le (by rw [HR.out.1];omega)];rfl)
   go_wp2_with fail
   go_ret
   rw [HN.out]
   exact⟨rfl,rfl⟩
theorem firstE_idx (zs:List Int):∀k:Nat,(idxP (fun z=>decide (z≠0)) zs k= -1∧firstE zs=0)∨∃j z,zs[j]? =some z∧idxP (fun z=>decide (z≠0)) zs k=((k+j:Nat):Int)∧firstE zs=z:=by
 induction zs with
 | nil=>exact fun k=> .inl ⟨rfl,rfl⟩
 | cons x r ih=>
   intro k
   by_cases h:x=0
   ·rcases ih (k+1) with ⟨h1,h2⟩ | ⟨j,z,h1,h2,h3⟩
    ·refine .inl ⟨?_,?_⟩
     ·simp only [idxP,h,ne_eq,not_true,decide_false]
      exact h1
     ·simp only [firstE,h,if_true]
      exact h2
    ·refine .inr ⟨j+1,z,by simpa using h1,?_,?_⟩
     ·simp only [idxP,h,ne_eq,not_true,decide_false]
      rw [show k+(j+1)=k+1+j from by omega]
      exact h2
     ·simp only [firstE,h,if_true]
      exact h3
   ·exact .inr ⟨0,x,rfl,by simp [idxP,h],by simp [firstE,h]⟩
set_option maxRecDepth 100000 in
set_option maxHeartbeats 1000000 in
theorem first_any (S:Nat→Prop) (a:Option Addr) (len cap:Nat) (zs:List Int) (w:World) (h:RdZ S w a len zs) (hm1:len≤cap) (hm2:cap≤maxLen) :
 Calls Tryz.prog 70 #[.slice a len cap] w fun e w'=>e=.returned (.int .i64 (firstE zs))∧w'=w:=by
 have HR:=Lib.hid h
 have HI:=Lib.hid (idxE_any S a len cap zs w h hm1 hm2)
 unfold maxLen at hm2
 clear h
 go_enter Tryz.func70,Tryz.ntmps70
 rcases firstE_idx zs 0 with ⟨h1,h2⟩ | ⟨j,z,hj,h1,h2⟩
 ·rw [h2]
  rw [show ((0:Nat):Int)=0 from rfl] at h1
  rw [h1] at HI
  clear h1 h2
  go_wp2_with fail
  (with_reducible refine HI.out.mono ?_)
  rintro e w' ⟨rfl,rfl⟩
  go_wp2_with fail
  go_ret
  exact⟨rfl,rfl⟩
 ·obtain⟨b,off,rfl,-,-,hc⟩:=HR.out.2 j z hj
  have hjl:j<len:=by rw [←HR.out.1];exact (List.getElem?_eq_some_iff.1 hj).1
  rw [h2]
  rw [show ((0:Nat):Int)=0 from rfl,Nat.zero_add] at h1
  rw [h1] at HI
  have hj1:(j:Int)<len:=by omega
  have hj0:(0:Int)≤j:=by omega
  have hj2:¬(j:Int)<0:=by omega
  clear h1 h2 hj
  go_wp2_with fail
  (with_reducible refine HI.out.mono ?_)
  rintro e w' ⟨rfl,rfl⟩
  go_wp2_with fail
  go_ret
  exact⟨rfl,rfl⟩
theorem inside1_any (N z:Int) (g:Nat) (w:World) (hg:w.cell? ⟨g,0,none⟩=some (.int .i64 N)):Calls Tryz.prog 121 #[.int .i64 z,.pointer (some ⟨g,0,none⟩)] w fun e w'=>e=.returned (.bool (decide (z<0∨N≤z)))∧w'=w:=by
 go_enter Tryz.func121,Tryz.ntmps121
 by_cases h:z<0
 ·go_wp2
  go_ret
  exact⟨by simp [h],rfl⟩
 ·by_cases h2:N≤z
  ·go_wp2
   go_ret
   exact⟨by simp [h2],rfl⟩
  ·go_wp2
   go_ret
   exact⟨by simp [h,h2],rfl⟩
set_option maxRecDepth 100000 in
set_option maxHeartbeats 1000000 in
theorem idxI_any (S:Nat→Prop) (a:Option Addr) (len cap:Nat) (zs:List Int) (N:Int) (g:Nat) (w:World) (hg:w.cell? ⟨g,0,none⟩=some (.int .i64 N)) (h:RdZ S w a len zs) (hm1:len≤cap) (hm2:cap≤maxLen) :
 Calls Tryz.prog 179 #[.slice a len cap,.func (.func 121) #[] #[.pointer (some ⟨g,0,none⟩)]] w fun e w'=>e=.returned (.int .i64 (idxP (fun z=>decide (z<0∨N≤z)) zs 0))∧w'=w:=by
 unfold maxLen at hm2
 have HR:=Lib.hid h
 clear h
 obtain⟨p,hp⟩:∃p:Int→Bool,p=fun z=>decide (z<0∨N≤z):=⟨_,rfl⟩
 rw [←hp]
 have HF:Hid (∀z,Calls Tryz.prog 121 #[.int .i64 z,.pointer (some ⟨g,0,none⟩)] w fun e w'=>e=.returned (.bool (p z))∧w'=w):=Lib.hid (by rw [hp];exact fun z=>inside1_any N z g w hg)
 clear hp hg
 go_enter Tryz.func179,Tryz.ntmps179
 go_wp2_with fail
 go_loopw [8] (fun i wr=> ∃k:Nat,k≤len∧i=.int .i64 k∧wr=w∧idxP p zs 0=idxP p (zs.drop k) k) (fun i _=>len - (intOf i).toNat)
 case atStart=>exact⟨0,by omega,rfl,rfl,rfl⟩
 case round=>
  obtain⟨k,hk,rfl,rfl,he⟩:=hrel
  have HE:=Lib.hid he
  clear he
  by_cases hlt:k<len
  ·obtain⟨b,off,z,rfl,-,-,hz,hc⟩:=HR.out.at_ hlt
   have hlt':(k:Int)<len:=by omega
   have hk0:(0:Int)≤k:=by omega
   have HZ:=Lib.hid hz
   have HW:=Lib.hid (HF.out z)
   obtain⟨q,hq⟩:∃q,q=p z:=⟨_,rfl⟩
   have HQ:=Lib.hid hq
   rw [←hq] at HW
   clear hz hq
   go_wp2_with fail
   (with_reducible refine HW.out.mono ?_)
   rintro e w' ⟨rfl,rfl⟩
   cases q with
   | true=>
     have HN:Hid (idxP p zs 0=(k:Int)):=Lib.hid (by rw [HE.out,idxP_step HZ.out,if_pos HQ.out.symm])
     go_wp2_with fail
     go_ret
     rw [HN.out]
     exact⟨rfl,rfl⟩
   | false=>
     have HN:Hid (idxP p zs 0=idxP p (zs.drop (k+1)) ((k+1:Nat):Int)):=Lib.hid (by rw [HE.out,idxP_step HZ.out,if_neg (by rw [←HQ.out];decide)])
     go_wp2_with fail
     exact⟨⟨k+1,by omega,by go_num,by first | rfl | trivial,HN.out⟩,by simp [intOf];omega⟩
  ·have hlt':¬(k:Int)<len:=by omega
   have HN:Hid (idxP p zs 0= -1):=Lib.hid (by rw [HE.out,List.drop_eq_nil_of_le (by rw [HR.out.1];omega)];rfl)
   go_wp2_with fail
   go_ret
   rw [HN.out]
   exact⟨rfl,rfl⟩
def insideB (N:Int) (zs:List Int):Bool:=zs.all fun z=>decide (0≤z∧z<N)
theorem idxP_any {p:Int→Bool}:∀(zs:List Int) (k:Nat),(0≤idxP p zs k∧zs.any p=true)∨(idxP p zs k= -1∧zs.any p=false)
 | [],k=> .inr ⟨rfl,rfl⟩
 | x :: r,k=>by
   by_cases h:p x
   ·exact .inl ⟨by simp [idxP,h],by simp [h]⟩
   ·rcases idxP_any (p:=p) r (k+1) with ⟨h1,h2⟩ | ⟨h1,h2⟩
    ·refine .inl ⟨?_,by simp [h2]⟩
     simp only [idxP,h]
     exact h1
    ·refine .inr ⟨?_,by simp [h,h2]⟩
     simp only [idxP,h]
     exact h1
set_option maxRecDepth 100000 in
set_option maxHeartbeats 1000000 in
theorem inside_any (S:Nat→Prop) (a:Option Addr) (len cap:Nat) (zs:List Int) (N:Int) (w:World) (h:RdZ S w a len zs) (hm1:len≤cap) (hm2:cap≤maxLen) :
 Calls Tryz.prog 62 #[.slice a len cap,.int .i64 N] w fun e w'=>e=.returned (.bool (insideB N zs))∧Below w.heap.size w w':=by
 have hmf:∀(fn:Fn) (first cap:Array Value) (w:World),(Instr.makeFunc fn first cap).run Tryz.prog w=.ok (.func fn first cap) w:=fun _ _ _ _=>rfl
 have hB:Below w.heap.size w (w.alloc (.cells #[.int .i64 N] 3)):=(Below.refl _ _).alloc (Nat.le_refl _) _
 have hc:(w.alloc (.cells #[.int .i64 N] 3)).cell? ⟨w.heap.size,0,none⟩=some (.int .i64 N):=(Blk.new w _ _).cell 0
 have HB:=Lib.hid hB
 obtain⟨w1,hw1⟩:∃w1,w1=w.alloc (.cells #[.int .i64 N] 3):=⟨_,rfl⟩
 have HC:Hid (Calls Tryz.prog 120 #[.slice a len cap,.func (.func 121) #[] #[.pointer (some ⟨w.heap.size,0,none⟩)]] w1 fun e w'=>e=.returned (.bool (!insideB N zs))∧w'=w1):=Lib.hid (by
  rw [←hw1] at hc hB
  have HI:=Lib.hid (idxI_any S a len cap zs N w.heap.size w1 hc (h.below hB) hm1 hm2)
  clear hw1 h hB hc
  go_enter Tryz.func120,Tryz.ntmps120
  have he:zs.any (fun z=>decide (z<0∨N≤z))= !insideB N zs:=by
   unfold insideB
   rw [List.not_all_eq_any_not]
   congr 1
   funext z
   by_cases h1:z<0 <;> by_cases h2:N≤z <;> simp [h1,h2] <;> omega
  rw [←he]
  rcases idxP_any (p:=fun z=>decide (z<0∨N≤z)) zs 0 with ⟨h1,h2⟩ | ⟨h1,h2⟩
  ·rw [h2]
   rw [show ((0:Nat):Int)=0 from rfl] at h1
   generalize idxP (fun z=>decide (z<0∨N≤z)) zs 0=q at HI h1
   clear h2 he
   go_wp2_with fail
   (with_reducible refine HI.out.mono ?_)
   rintro e w' ⟨rfl,rfl⟩
   go_wp2_with fail
   go_ret
   exact⟨rfl,rfl⟩
  ·rw [h2]
   rw [show ((0:Nat):Int)=0 from rfl] at h1
   rw [h1] at HI
   clear h2 he h1
   go_wp2_with fail
   (with_reducible refine HI.out.mono ?_)
   rintro e w' ⟨rfl,rfl⟩
   go_wp2_with fail
   go_ret
   exact⟨rfl,rfl⟩)
 clear hB hc h
 go_enter Tryz.func62,Tryz.ntmps62
 obtain⟨q,hq⟩:∃q,q=insideB N zs:=⟨_,rfl⟩
 rw [←hq] at HC
 rw [←hq]
 clear hq
 go_upto_region 1 with fail
 rw [←hw1] at HB
 rw [←hw1]
 clear hw1
 go_wp2_with fail
 (with_reducible refine HC.out.mono ?_)
 rintro e w' ⟨rfl,rfl⟩
 cases q <;> (go_wp2_with fail;go_ret;exact⟨rfl,HB.out⟩)
def SgW (w:World):Prop:=w.cell? ⟨0,0,none⟩=some (.int .i64 1)∧w.cell? ⟨0,1,none⟩=some (.int .i64 (-1))
theorem SgW.lt {w:World} (h:SgW w):0<w.heap.size:=World.block_lt_of_cell? w _ h.1
theorem SgW.below {w w':World} (h:SgW w) (hb:Below w.heap.size w w'):SgW w':=⟨(hb.cell (p:=⟨0,0,none⟩) h.lt).trans h.1,(hb.cell (p:=⟨0,1,none⟩) h.lt).trans h.2⟩
theorem round_any (n i:Int) (w:World) (h4:4≤n) (h16:n≤16) (h0:0≤i) (h1:i≤100):Calls Tryz.prog 131 #[.int .i64 n,.int .i64 i] w fun e w'=>e=.returned (.int .i64 (i % n))∧w'=w:=by
 have e1:i.tmod n=i % n:=Int.tmod_eq_emod_of_nonneg h0
 have hm0:=Int.emod_nonneg i (show n≠0 by omega)
 have hm1:=Int.emod_lt_of_pos i (show 0<n by omega)
 have e2:(i % n+n).tmod n=i % n:=by
  rw [Int.tmod_eq_emod_of_nonneg (by omega),Int.add_emod_right,Int.emod_emod_of_dvd _ (Int.dvd_refl n)]
 have e2':(i % n+n) % n=i % n:=by rw [Int.add_emod_right,Int.emod_emod_of_dvd _ (Int.dvd_refl n)]
 obtain⟨m,hm⟩:∃m,m=i % n:=⟨_,rfl⟩
 rw [←hm] at e1 hm0 hm1 e2 e2'
 have e3:i % n=m:=hm.symm
 have hn0:¬n=0:=by omega
 have hn1:¬n= -1:=by omega
 rw [←hm]
 clear hm
 go_enter Tryz.func131,Tryz.ntmps131
 go_wp2
 go_ret
 exact⟨rfl,rfl⟩
theorem node_any (n i:Int) (w:World):Calls Tryz.prog 111 #[.int .i64 n,.int .i64 i] w fun e w'=>e=.returned (.bool (decide (0≤i∧i<n)))∧w'=w:=by
 go_enter Tryz.func111,Tryz.ntmps111
 by_cases h:0≤i
 ·by_cases h2:i<n
  ·go_wp2
   go_ret
   exact⟨by simp [h,h2],rfl⟩
  ·go_wp2
   go_ret
   exact⟨by simp [h,h2],rfl⟩
 ·go_wp2
  go_ret
  exact⟨by simp;intro h';omega,rfl⟩
theorem ring_any (n:Int) (w:World):Calls Tryz.prog 81 #[.int .i64 n,.int .u8 0] w fun e w'=>e=.returned (.bool (decide (4≤n∧n≤16)))∧w'=w:=by
 go_enter Tryz.func81,Tryz.ntmps81
 by_cases h:4≤n
 ·by_cases h2:n≤16
  ·go_wp2
   go_ret
   exact⟨by simp [h,h2],rfl⟩
  ·go_wp2
   go_ret
   exact⟨by simp [h,h2],rfl⟩
 ·go_wp2
  go_ret
  exact⟨by simp;intro h';omega,rfl⟩
def stepE (n i:Int):Int:=if (4≤n∧n≤16)∧(0≤i∧i<n) then (i+1) % n else -1
set_option maxRecDepth 100000 in
set_option maxHeartbeats 1000000 in
theorem step_any (n i:Int) (w:World) (hs:SgW w):Calls Tryz.prog 80 #[.int .i64 n,.int .u8 0,.int .i64 i,.int .i64 1] w fun e w'=>e=.returned (.int .i64 (stepE n i))∧Below w.heap.size w w':=by
 have HR:=Lib.hid (ring_any n w)
 have HN:=Lib.hid (node_any n i w)
 have hs1:=hs.1
 have hlt:=hs.lt
 clear hs
 unfold stepE
 go_enter Tryz.func80,Tryz.ntmps80
 by_cases h:4≤n∧n≤16
 ·rw [decide_eq_true h] at HR
  by_cases h2:0≤i∧i<n
  ·rw [decide_eq_true h2] at HN
   rw [if_pos ⟨h,h2⟩]
   obtain⟨h3,h4⟩:=h
   obtain⟨h5,h6⟩:=h2
   have e1:(1:Int).tmod n=1:=by rw [Int.tmod_eq_emod_of_nonneg (by omega)];exact Int.emod_eq_of_lt (by omega) (by omega)
   have e1':(1:Int) % n=1:=Int.emod_eq_of_lt (by omega) (by omega)
   have hn0:¬n=0:=by omega
   have hn1:¬n= -1:=by omega
   have HD:=Lib.hid (fun w'=>round_any n (i+1) w' h3 h4 (by omega) (by omega))
   have w1:IntKind.i64.wrap (i+1)=i+1:=IntWalk.i64_in _ (by omega)
   have w0:IntKind.i64.wrap 1=1:=IntWalk.i64_in _ (by omega)
   go_wp2_with fail
   (with_reducible refine HR.out.mono ?_)
   rintro e w' ⟨rfl,rfl⟩
   go_wp2_with fail
   (with_reducible refine HN.out.mono ?_)
   rintro e w' ⟨rfl,rfl⟩
   go_upto_region 3 with fail
   have FA:Hid (∀w'':World,Below w'.heap.size w' w''→w''.cell? ⟨0,0,none⟩=some (.int .i64 1)):=Lib.hid fun w'' hb=>(hb.cell (p:=⟨0,0,none⟩) hlt).trans hs1
   go_region_held3 (fun w''=>w''.cell? ⟨0,0,none⟩=some (.int .i64 1))
    (with_reducible (first | assumption | exact FA.out _ (Below.refl _ _).drew))
    ((first | ((with_reducible refine (HD.out _).mono ?_);rintro e w'' ⟨rfl,rfl⟩)))
   go_wp2_with fail
   go_ret
   exact⟨rfl,(Below.refl _ _).drew⟩
  ·rw [decide_eq_false h2] at HN
   rw [if_neg (fun h'=>h2 h'.2)]
   clear h2
   go_wp2_with fail
   (with_reducible refine HR.out.mono ?_)
   rintro e w' ⟨rfl,rfl⟩
   go_wp2_with fail
   (with_reducible refine HN.out.mono ?_)
   rintro e w' ⟨rfl,rfl⟩
   go_wp2_with fail
   go_ret
   exact⟨rfl,Below.refl _ _⟩
 ·rw [decide_eq_false h] at HR
  rw [if_neg (fun h'=>h h'.1)]
  clear h HN
  go_wp2_with fail
  (with_reducible refine HR.out.mono ?_)
  rintro e w' ⟨rfl,rfl⟩
  go_wp2_with fail
  go_ret
  exact⟨rfl,Below.refl _ _⟩
set_option maxRecDepth 100000 in
set_option maxHeartbeats 1000000 in
theorem index_any (S:Nat→Prop) (a:Option Addr) (len cap:Nat) (zs:List Int) (x:Int) (w:World) (h:RdZ S w a len zs) (hm1:len≤cap) (hm2:cap≤maxLen) :
 Calls Tryz.prog 126 #[.slice a len cap,.int .i64 x] w fun e w'=>e=.returned (.int .i64 (idxP (fun z=>decide (x=z)) zs 0))∧w'=w:=by
 unfold maxLen at hm2
 have HR:=Lib.hid h
 clear h
 obtain⟨p,hp⟩:∃p:Int→Bool,p=fun z=>decide (x=z):=⟨_,rfl⟩
 rw [←hp]
 have HP:Hid (∀z,p z=decide (x=z)):=Lib.hid fun z=>by rw [hp]
 clear hp
 go_enter Tryz.func126,Tryz.ntmps126
 go_wp2_with fail
 go_loopw [8] (fun i wr=> ∃k:Nat,k≤len∧i=.int .i64 k∧wr=w∧idxP p zs 0=idxP p (zs.drop k) k) (fun i _=>len - (intOf i).toNat)
 case atStart=>exact⟨0,by omega,rfl,rfl,rfl⟩
 case round=>
  obtain⟨k,hk,rfl,rfl,he⟩:=hrel
  have HE:=Lib.hid he
  clear he
  by_cases hlt:k<len
  ·obtain⟨b,off,z,rfl,-,-,hz,hc⟩:=HR.out.at_ hlt
   have hlt':(k:Int)<len:=by omega
   have hk0:(0:Int)≤k:=by omega
   have HZ:=Lib.hid hz
   clear hz
   by_cases hxz:x=z
   ·have HN:Hid (idxP p zs 0=(k:Int)):=Lib.hid (by rw [HE.out,idxP_step HZ.out,if_pos (by rw [HP.out,decide_eq_true hxz])])
    go_wp2_with fail
    go_ret
    rw [HN.out]
    exact⟨rfl,rfl⟩
   ·have HN:Hid (idxP p zs 0=idxP p (zs.drop (k+1)) ((k+1:Nat):Int)):=Lib.hid (by rw [HE.out,idxP_step HZ.out,if_neg (by rw [HP.out,decide_eq_false hxz];decide)])
    go_wp2_with fail
    exact⟨⟨k+1,by omega,by go_num,by first | rfl | trivial,HN.out⟩,by simp [intOf];omega⟩
  ·have hlt':¬(k:Int)<len:=by omega
   have HN:Hid (idxP p zs 0= -1):=Lib.hid (by rw [HE.out,List.drop_eq_nil_of_le (by rw [HR.out.1];omega)];rfl)
   go_wp2_with fail
   go_ret
   rw [HN.out]
   exact⟨rfl,rfl⟩
def hasB (x:Int) (zs:List Int):Bool:=zs.any fun z=>decide (x=z)
theorem contains_any (S:Nat→Prop) (a:Option Addr) (len cap:Nat) (zs:List Int) (x:Int) (w:World) (h:RdZ S w a len zs) (hm1:len≤cap) (hm2:cap≤maxLen) :
 Calls Tryz.prog 67 #[.slice a len cap,.int .i64 x] w fun e w'=>e=.returned (.bool (hasB x zs))∧w'=w:=by
 have HI:=Lib.hid (index_any S a len cap zs x w h hm1 hm2)
 clear h
 unfold hasB
 go_enter Tryz.func67,Tryz.ntmps67
 rcases idxP_any (p:=fun z=>decide (x=z)) zs 0 with ⟨h1,h2⟩ | ⟨h1,h2⟩
 ·rw [h2]
  rw [show ((0:Nat):Int)=0 from rfl] at h1
  generalize idxP (fun z=>decide (x=z)) zs 0=q at HI h1
  clear h2
  go_wp2_with fail
  (with_reducible refine HI.out.mono ?_)
  rintro e w' ⟨rfl,rfl⟩
  go_wp2_with fail
  go_ret
  exact⟨rfl,rfl⟩
 ·rw [h2]
  rw [show ((0:Nat):Int)=0 from rfl] at h1
  rw [h1] at HI
  clear h2 h1
  go_wp2_with fail
  (with_reducible refine HI.out.mono ?_)
  rintro e w' ⟨rfl,rfl⟩
  go_wp2_with fail
  go_ret
  exact⟨rfl,rfl⟩
theorem less_any (x y:Int) (w:World):Calls Tryz.prog 122 #[.int .i64 x,.int .i64 y] w fun e w'=>e=.returned (.bool (decide (x<y)))∧w'=w:=by
 have HN:Hid (∀z w,Calls Tryz.prog 180 #[.int .i64 z] w fun e w'=>e=.returned (.bool false)∧w'=w):=Lib.hid fun z w=>by
  go_enter Tryz.func180,Tryz.ntmps180
  go_wp2
  go_ret
  exact⟨rfl,rfl⟩
 go_enter Tryz.func122,Tryz.ntmps122
 go_wp2_with fail
 (with_reducible refine (HN.out _ _).mono ?_)
 rintro e w' ⟨rfl,rfl⟩
 go_wp2_with fail
 go_ret
 exact⟨rfl,rfl⟩
def sortedB (zs:List Int):Bool:=(List.range (zs.length - 1)).all fun i=>decide (zs.getD i 0≤zs.getD (i+1) 0)
set_option maxRecDepth 100000 in
set_option maxHeartbeats 1000000 in
theorem sorted_any (S:Nat→Prop) (a:Option Addr) (len cap:Nat) (zs:List Int) (w:World) (h:RdZ S w a len zs) (hm1:len≤cap) (hm2:cap≤maxLen) :
 Calls Tryz.prog 63 #[.slice a len cap] w fun e w'=>e=.returned (.bool (sortedB zs))∧Below w.heap.size w w':=by
 unfold maxLen at hm2
 have HR:=Lib.hid h
 have hzl:=h.1
 clear h
 have wl:IntKind.i64.wrap ((len:Int) - 1)=(len:Int) - 1:=IntWalk.i64_in _ (by omega)
 go_enter Tryz.func63,Tryz.ntmps63
 go_wp2_with fail
 go_loopw [3] (fun i wr=> ∃j:Int,i=.int .i64 j∧j≤(len:Int) - 1∧ -1≤j∧Below w.heap.size w wr∧∀m:Nat,j≤m→m+1<len→zs.getD m 0≤zs.getD (m+1) 0) (fun i _=>(intOf i).toNat)
 case atStart=>exact⟨(len:Int) - 1,rfl,by omega,by omega,Below.refl _ _,fun m h1 h2=>by omega⟩
 case round=>
  obtain⟨j,rfl,hj1,hj2,hb,hm⟩:=hrel
  have HB:=Lib.hid hb
  have HM:=Lib.hid hm
  clear hb hm
  by_cases hj:0<j
  ·obtain⟨k,rfl⟩:∃k:Nat,j=((k+1:Nat):Int):=⟨(j - 1).toNat,by omega⟩
   have hk1:k+1<len:=by omega
   obtain⟨b,off,z1,rfl,-,hbl,hz1,hc1⟩:=HR.out.at_ hk1
   obtain⟨b',off',z0,he,-,-,hz0,hc0⟩:=HR.out.at_ (show k<len by omega)
   cases he
   have HZ:=Lib.hid (And.intro hz0 hz1)
   have FC:Hid (∀w',Below w.heap.size w w'→w'.cell? ⟨b,off+(k+1),none⟩=some (.int .i64 z1)∧w'.cell? ⟨b,off+k,none⟩=some (.int .i64 z0)):=Lib.hid fun w' hb=>⟨(hb.cell (p:=⟨b,off+(k+1),none⟩) hbl).trans hc1,(hb.cell (p:=⟨b,off+k,none⟩) hbl).trans hc0⟩
   have HL:=Lib.hid (less_any z1 z0)
   have wk:IntKind.i64.wrap (((k+1:Nat):Int) - 1)=(k:Int):=by rw [IntWalk.i64_in _ (by omega)];omega
   have wk':IntKind.i64.wrap ((k:Int)+1 - 1)=(k:Int):=by rw [IntWalk.i64_in _ (by omega)];omega
   have wk2:IntKind.i64.wrap (k:Int)=(k:Int):=IntWalk.i64_in _ (by omega)
   have hk2:((k+1:Nat):Int)<len:=by omega
   have hk3:(k:Int)<len:=by omega
   have hk0:(0:Int)≤k:=by omega
   have hk5:(k:Int)+1<len:=by omega
   have hk6:(0:Int)≤(k:Int)+1:=by omega
   have hk7:(0:Int)<(k:Int)+1:=by omega
   clear hz0 hz1 hc1 hc0
   go_upto_region 4 with fail
   go_region_held3 (fun w'=>w'.cell? ⟨b,off+(k+1),none⟩=some (.int .i64 z1)∧w'.cell? ⟨b,off+k,none⟩=some (.int .i64 z0))
    (with_reducible (first | assumption | exact FC.out _ HB.out.drew))
    ((first | ((with_reducible refine (HL.out _).mono ?_);rintro e w'' ⟨rfl,rfl⟩)))
   have HW:Hid (Below w.heap.size w wr.drew):=Lib.hid HB.out.drew
   have g0:zs.getD k 0=z0:=by rw [List.getD_eq_getElem?_getD,HZ.out.1];rfl
   have g1:zs.getD (k+1) 0=z1:=by rw [List.getD_eq_getElem?_getD,HZ.out.2];rfl
   have HG:=Lib.hid (And.intro g0 g1)
   clear g0 g1
   by_cases hlt:z1<z0
   ·have HN:Hid (sortedB zs=false):=Lib.hid (by
     unfold sortedB
     rw [List.all_eq_false]
     refine⟨k,List.mem_range.2 (by omega),?_⟩
     rw [HG.out.1,HG.out.2]
     simpa using hlt)
    go_wp2_with fail
    go_ret
    rw [HN.out]
    exact⟨rfl,HW.out⟩
   ·have HM2:Hid (∀m:Nat,(k:Int)≤m→m+1<len→zs.getD m 0≤zs.getD (m+1) 0):=Lib.hid fun m h1 h2=>by
     by_cases hmk:m=k
     ·subst hmk
      rw [HG.out.1,HG.out.2]
      omega
     ·exact HM.out m (by omega) h2
    go_wp2_with fail
    exact⟨⟨(k:Int),by go_num,by omega,by omega,HW.out,HM2.out⟩,by simp [intOf] <;> omega⟩
  ·have HN:Hid (sortedB zs=true):=Lib.hid (by
    unfold sortedB
    rw [List.all_eq_true]
    intro m hm
    have:=List.mem_range.1 hm
    exact decide_eq_true (HM.out m (by omega) (by omega)))
   have hj':j≤0:=by omega
   go_wp2_with fail
   go_ret
   rw [HN.out]
   exact⟨rfl,HB.out⟩
theorem ringD_any (n:Int) (d:Nat) (h4:4≤n) (h16:n≤16) (hd:d<2) (w:World):Calls Tryz.prog 81 #[.int .i64 n,.int .u8 d] w fun e w'=>e=.returned (.bool true)∧w=w':=by
 rcases (show d=0∨d=1 by omega) with rfl | rfl
 all_goals go_enter Tryz.func81,Tryz.ntmps81
 all_goals go_wp2
 all_goals go_ret
 all_goals exact⟨by simp,rfl⟩
theorem roundD_any (n i:Int) (w:World) (h4:4≤n) (h16:n≤16) (h0: -100≤i) (h1:i≤100):Calls Tryz.prog 131 #[.int .i64 n,.int .i64 i] w fun e w'=>e=.returned (.int .i64 (i % n))∧w=w':=by
 have hm0:=Int.emod_nonneg i (show n≠0 by omega)
 have hm1:=Int.emod_lt_of_pos i (show 0<n by omega)
 obtain⟨a,ha⟩:∃a,a=i.tmod n:=⟨_,rfl⟩
 have ha1: -n<a∧a<n:=by
  rw [ha]
  have:=Int.tmod_lt_of_pos i (show 0<n by omega)
  have h2:=Int.lt_tmod_of_pos i (show 0<n by omega)
  omega
 have ha2:(a+n).tmod n=i % n:=by
  rw [Int.tmod_eq_emod_of_nonneg (by omega),Int.add_emod_right,ha]
  rw [Int.tmod_eq_emod]
  split
  ·rw [show i % n - ((0:Nat):Int)=i % n by simp,Int.emod_emod_of_dvd _ (Int.dvd_refl n)]
  ·rw [Int.sub_emod,Int.emod_emod_of_dvd _ (Int.dvd_refl n)]
   have:((n.natAbs:Int)) % n=0:=by rw [Int.natAbs_of_nonneg (by omega)];exact Int.emod_self
   rw [this,Int.sub_zero,Int.emod_emod_of_dvd _ (Int.dvd_refl n)]
 have hn0:¬n=0:=by omega
 have hn1:¬n= -1:=by omega
 have e1:i.tmod n=a:=ha.symm
 have hw:IntKind.i64.wrap (a+n)=a+n:=IntWalk.i64_in _ (by omega)
 obtain⟨m,hm⟩:∃m,m=i % n:=⟨_,rfl⟩
 rw [←hm] at ha2 hm0 hm1 ⊢
 clear hm ha
 go_enter Tryz.func131,Tryz.ntmps131
 go_wp2
 go_ret
 exact⟨rfl,rfl⟩
theorem hops_any (hop:Nat) (hh:hop=1∨hop=2) (w:World):Calls Tryz.prog 112 #[.int .i64 hop] w fun e w'=>e=.returned (.bool true)∧w=w':=by
 rcases hh with rfl | rfl
 all_goals go_enter Tryz.func112,Tryz.ntmps112
 all_goals go_wp2
 all_goals go_ret
 all_goals exact⟨by simp,rfl⟩
def srcD (n:Int) (d at_ hop:Nat):Int:=((at_:Int)+(if d=0 then -(hop:Int) else (hop:Int))) % n
set_option maxRecDepth 100000 in
set_option maxHeartbeats 1000000 in
theorem stepD01_any (n:Int) (at_:Nat) (w:World) (hs:SgW w) (h4:4≤n) (h16:n≤16) (ha:(at_:Int)<n):Calls Tryz.prog 80 #[.int .i64 n,.int .u8 0,.int .i64 at_,.int .i64 (-1)] w fun e w'=>e=.returned (.int .i64 (((at_:Int)+ -1) % n))∧Below w.heap.size w w':=by
 have HR:Hid (∀w,Calls Tryz.prog 81 #[.int .i64 n,.int .u8 0] w fun e w'=>e=.returned (.bool true)∧w=w'):=Lib.hid (fun w=>ringD_any n 0 h4 h16 (by omega) w)
 have HN:Hid (∀w,Calls Tryz.prog 111 #[.int .i64 n,.int .i64 at_] w fun e w'=>e=.returned (.bool true)∧w=w'):=Lib.hid fun w=>by
  refine (node_any n at_ w).mono ?_
  rintro e w' ⟨rfl,rfl⟩
  exact⟨by rw [decide_eq_true (by omega)],rfl⟩
 have hs1:=hs.1
 have hlt:=hs.lt
 clear hs
 have e1:(-1:Int).tmod n= -1:=by rw [Int.neg_tmod,Int.tmod_eq_emod_of_nonneg (by omega),Int.emod_eq_of_lt (by omega) (by omega)]
 have hn0:¬n=0:=by omega
 have hn1:¬n= -1:=by omega
 obtain⟨v,hv⟩:∃v,Hid (v=((at_:Int)+ -1) % n):=⟨_,Lib.hid rfl⟩
 have HD:Hid (∀w',Calls Tryz.prog 131 #[.int .i64 n,.int .i64 ((at_:Int)+ -1)] w' fun e w''=>e=.returned (.int .i64 v)∧w'=w''):=Lib.hid (fun w'=>by rw [hv.out];exact roundD_any n ((at_:Int)+ -1) w' h4 h16 (by omega) (by omega))
 have w1:IntKind.i64.wrap ((at_:Int)+ -1)=((at_:Int)+ -1):=IntWalk.i64_in _ (by omega)
 have w0:IntKind.i64.wrap (-1)= -1:=IntWalk.i64_in _ (by omega)
 have w2:IntKind.i64.wrap 1=1:=IntWalk.i64_in _ (by omega)
 rw [←hv.out]
 go_enter Tryz.func80,Tryz.ntmps80
 go_wp2_with fail
 (with_reducible refine (HR.out _).mono ?_)
 rintro e w' ⟨rfl,rfl⟩
 go_wp2_with fail
 (with_reducible refine (HN.out _).mono ?_)
 rintro e w' ⟨rfl,rfl⟩
 go_upto_region 3 with fail
 have FA:Hid (∀w'':World,Below w.heap.size w w''→w''.cell? ⟨0,0,none⟩=some (.int .i64 1)):=Lib.hid fun w'' hb=>(hb.cell (p:=⟨0,0,none⟩) hlt).trans hs1
 go_region_held3 (fun w''=>w''.cell? ⟨0,0,none⟩=some (.int .i64 1))
  (with_reducible (first | assumption | exact FA.out _ (Below.refl _ _).drew))
  ((first | (go_at_call 131;(with_reducible refine (HD.out _).mono ?_);rintro e w'' ⟨rfl,rfl⟩)))
 go_wp2_with fail
 go_ret
 exact⟨rfl,(Below.refl _ _).drew⟩
set_option maxRecDepth 100000 in
set_option maxHeartbeats 1000000 in
theorem stepD02_any (n:Int) (at_:Nat) (w:World) (hs:SgW w) (h4:4≤n) (h16:n≤16) (ha:(at_:Int)<n):Calls Tryz.prog 80 #[.int .i64 n,.int .u8 0,.int .i64 at_,.int .i64 (-2)] w fun e w'=>e=.returned (.int .i64 (((at_:Int)+ -2) % n))∧Below w.heap.size w w':=by
 have HR:Hid (∀w,Calls Tryz.prog 81 #[.int .i64 n,.int .u8 0] w fun e w'=>e=.returned (.bool true)∧w=w'):=Lib.hid (fun w=>ringD_any n 0 h4 h16 (by omega) w)
 have HN:Hid (∀w,Calls Tryz.prog 111 #[.int .i64 n,.int .i64 at_] w fun e w'=>e=.returned (.bool true)∧w=w'):=Lib.hid fun w=>by
  refine (node_any n at_ w).mono ?_
  rintro e w' ⟨rfl,rfl⟩
  exact⟨by rw [decide_eq_true (by omega)],rfl⟩
 have hs1:=hs.1
 have hlt:=hs.lt
 clear hs
 have e1:(-2:Int).tmod n= -2:=by rw [Int.neg_tmod,Int.tmod_eq_emod_of_nonneg (by omega),Int.emod_eq_of_lt (by omega) (by omega)]
 have hn0:¬n=0:=by omega
 have hn1:¬n= -1:=by omega
 obtain⟨v,hv⟩:∃v,Hid (v=((at_:Int)+ -2) % n):=⟨_,Lib.hid rfl⟩
 have HD:Hid (∀w',Calls Tryz.prog 131 #[.int .i64 n,.int .i64 ((at_:Int)+ -2)] w' fun e w''=>e=.returned (.int .i64 v)∧w'=w''):=Lib.hid (fun w'=>by rw [hv.out];exact roundD_any n ((at_:Int)+ -2) w' h4 h16 (by omega) (by omega))
 have w1:IntKind.i64.wrap ((at_:Int)+ -2)=((at_:Int)+ -2):=IntWalk.i64_in _ (by omega)
 have w0:IntKind.i64.wrap (-2)= -2:=IntWalk.i64_in _ (by omega)
 have w2:IntKind.i64.wrap 2=2:=IntWalk.i64_in _ (by omega)
 rw [←hv.out]
 go_enter Tryz.func80,Tryz.ntmps80
 go_wp2_with fail
 (with_reducible refine (HR.out _).mono ?_)
 rintro e w' ⟨rfl,rfl⟩
 go_wp2_with fail
 (with_reducible refine (HN.out _).mono ?_)
 rintro e w' ⟨rfl,rfl⟩
 go_upto_region 3 with fail
 have FA:Hid (∀w'':World,Below w.heap.size w w''→w''.cell? ⟨0,0,none⟩=some (.int .i64 1)):=Lib.hid fun w'' hb=>(hb.cell (p:=⟨0,0,none⟩) hlt).trans hs1
 go_region_held3 (fun w''=>w''.cell? ⟨0,0,none⟩=some (.int .i64 1))
  (with_reducible (first | assumption | exact FA.out _ (Below.refl _ _).drew))
  ((first | (go_at_call 131;(with_reducible refine (HD.out _).mono ?_);rintro e w'' ⟨rfl,rfl⟩)))
 go_wp2_with fail
 go_ret
 exact⟨rfl,(Below.refl _ _).drew⟩
set_option maxRecDepth 100000 in
set_option maxHeartbeats 1000000 in
theorem stepD11_any (n:Int) (at_:Nat) (w:World) (hs:SgW w) (h4:4≤n) (h16:n≤16) (ha:(at_:Int)<n):Calls Tryz.prog 80 #[.int .i64 n,.int .u8 1,.int .i64 at_,.int .i64 (-1)] w fun e w'=>e=.returned (.int .i64 (((at_:Int)+1) % n))∧Below w.heap.size w w':=by
 have HR:Hid (∀w,Calls Tryz.prog 81 #[.int .i64 n,.int .u8 1] w fun e w'=>e=.returned (.bool true)∧w=w'):=Lib.hid (fun w=>ringD_any n 1 h4 h16 (by omega) w)
 have HN:Hid (∀w,Calls Tryz.prog 111 #[.int .i64 n,.int .i64 at_] w fun e w'=>e=.returned (.bool true)∧w=w'):=Lib.hid fun w=>by
  refine (node_any n at_ w).mono ?_
  rintro e w' ⟨rfl,rfl⟩
  exact⟨by rw [decide_eq_true (by omega)],rfl⟩
 have hs1:=hs.2
 have hlt:=hs.lt
 clear hs
 have e1:(-1:Int).tmod n= -1:=by rw [Int.neg_tmod,Int.tmod_eq_emod_of_nonneg (by omega),Int.emod_eq_of_lt (by omega) (by omega)]
 have hn0:¬n=0:=by omega
 have hn1:¬n= -1:=by omega
 obtain⟨v,hv⟩:∃v,Hid (v=((at_:Int)+1) % n):=⟨_,Lib.hid rfl⟩
 have HD:Hid (∀w',Calls Tryz.prog 131 #[.int .i64 n,.int .i64 ((at_:Int)+1)] w' fun e w''=>e=.returned (.int .i64 v)∧w'=w''):=Lib.hid (fun w'=>by rw [hv.out];exact roundD_any n ((at_:Int)+1) w' h4 h16 (by omega) (by omega))
 have w1:IntKind.i64.wrap ((at_:Int)+1)=((at_:Int)+1):=IntWalk.i64_in _ (by omega)
 have w0:IntKind.i64.wrap (-1)= -1:=IntWalk.i64_in _ (by omega)
 have w2:IntKind.i64.wrap 1=1:=IntWalk.i64_in _ (by omega)
 rw [←hv.out]
 go_enter Tryz.func80,Tryz.ntmps80
 go_wp2_with fail
 (with_reducible refine (HR.out _).mono ?_)
 rintro e w' ⟨rfl,rfl⟩
 go_wp2_with fail
 (with_reducible refine (HN.out _).mono ?_)
 rintro e w' ⟨rfl,rfl⟩
 go_upto_region 3 with fail
 have FA:Hid (∀w'':World,Below w.heap.size w w''→w''.cell? ⟨0,1,none⟩=some (.int .i64 (-1))):=Lib.hid fun w'' hb=>(hb.cell (p:=⟨0,1,none⟩) hlt).trans hs1
 go_region_held3 (fun w''=>w''.cell? ⟨0,1,none⟩=some (.int .i64 (-1)))
  (with_reducible (first | assumption | exact FA.out _ (Below.refl _ _).drew))
  ((first | (go_at_call 131;(with_reducible refine (HD.out _).mono ?_);rintro e w'' ⟨rfl,rfl⟩)))
 go_wp2_with fail
 go_ret
 exact⟨rfl,(Below.refl _ _).drew⟩
set_option maxRecDepth 100000 in
set_option maxHeartbeats 1000000 in
theorem stepD12_any (n:Int) (at_:Nat) (w:World) (hs:SgW w) (h4:4≤n) (h16:n≤16) (ha:(at_:Int)<n):Calls Tryz.prog 80 #[.int .i64 n,.int .u8 1,.int .i64 at_,.int .i64 (-2)] w fun e w'=>e=.returned (.int .i64 (((at_:Int)+2) % n))∧Below w.heap.size w w':=by
 have HR:Hid (∀w,Calls Tryz.prog 81 #[.int .i64 n,.int .u8 1] w fun e w'=>e=.returned (.bool true)∧w=w'):=Lib.hid (fun w=>ringD_any n 1 h4 h16 (by omega) w)
 have HN:Hid (∀w,Calls Tryz.prog 111 #[.int .i64 n,.int .i64 at_] w fun e w'=>e=.returned (.bool true)∧w=w'):=Lib.hid fun w=>by
  refine (node_any n at_ w).mono ?_
  rintro e w' ⟨rfl,rfl⟩
  exact⟨by rw [decide_eq_true (by omega)],rfl⟩
 have hs1:=hs.2
 have hlt:=hs.lt
 clear hs
 have e1:(-2:Int).tmod n= -2:=by rw [Int.neg_tmod,Int.tmod_eq_emod_of_nonneg (by omega),Int.emod_eq_of_lt (by omega) (by omega)]
 have hn0:¬n=0:=by omega
 have hn1:¬n= -1:=by omega
 obtain⟨v,hv⟩:∃v,Hid (v=((at_:Int)+2) % n):=⟨_,Lib.hid rfl⟩
 have HD:Hid (∀w',Calls Tryz.prog 131 #[.int .i64 n,.int .i64 ((at_:Int)+2)] w' fun e w''=>e=.returned (.int .i64 v)∧w'=w''):=Lib.hid (fun w'=>by rw [hv.out];exact roundD_any n ((at_:Int)+2) w' h4 h16 (by omega) (by omega))
 have w1:IntKind.i64.wrap ((at_:Int)+2)=((at_:Int)+2):=IntWalk.i64_in _ (by omega)
 have w0:IntKind.i64.wrap (-2)= -2:=IntWalk.i64_in _ (by omega)
 have w2:IntKind.i64.wrap 2=2:=IntWalk.i64_in _ (by omega)
 rw [←hv.out]
 go_enter Tryz.func80,Tryz.ntmps80
 go_wp2_with fail
 (with_reducible refine (HR.out _).mono ?_)
 rintro e w' ⟨rfl,rfl⟩
 go_wp2_with fail
 (with_reducible refine (HN.out _).mono ?_)
 rintro e w' ⟨rfl,rfl⟩
 go_upto_region 3 with fail
 have FA:Hid (∀w'':World,Below w.heap.size w w''→w''.cell? ⟨0,1,none⟩=some (.int .i64 (-1))):=Lib.hid fun w'' hb=>(hb.cell (p:=⟨0,1,none⟩) hlt).trans hs1
 go_region_held3 (fun w''=>w''.cell? ⟨0,1,none⟩=some (.int .i64 (-1)))
  (with_reducible (first | assumption | exact FA.out _ (Below.refl _ _).drew))
  ((first | (go_at_call 131;(with_reducible refine (HD.out _).mono ?_);rintro e w'' ⟨rfl,rfl⟩)))
 go_wp2_with fail
 go_ret
 exact⟨rfl,(Below.refl _ _).drew⟩
theorem stepD_any (n:Int) (d at_ hop:Nat) (w:World) (hs:SgW w) (h4:4≤n) (h16:n≤16) (hd:d<2) (ha:(at_:Int)<n) (hh:hop=1∨hop=2):Calls Tryz.prog 80 #[.int .i64 n,.int .u8 d,.int .i64 at_,.int .i64 (-(hop:Int))] w fun e w'=>e=.returned (.int .i64 (srcD n d at_ hop))∧Below w.heap.size w w':=by
 rcases (show d=0∨d=1 by omega) with rfl | rfl <;> rcases hh with rfl | rfl
 ·exact stepD01_any n at_ w hs h4 h16 ha
 ·exact stepD02_any n at_ w hs h4 h16 ha
 ·exact stepD11_any n at_ w hs h4 h16 ha
 ·exact stepD12_any n at_ w hs h4 h16 ha
set_option maxRecDepth 100000 in
theorem source_any (n:Int) (d at_ hop:Nat) (w:World) (hs:SgW w) (h4:4≤n) (h16:n≤16) (hd:d<2) (ha:(at_:Int)<n) (hh:hop=1∨hop=2):Calls Tryz.prog 97 #[.int .i64 n,.int .u8 d,.int .i64 at_,.int .i64 hop] w fun e w'=>e=.returned (.int .i64 (srcD n d at_ hop))∧Below w.heap.size w w':=by
 have HH:=Lib.hid (hops_any hop hh w)
 have HS:=Lib.hid (stepD_any n d at_ hop w hs h4 h16 hd ha hh)
 have hw:IntKind.i64.wrap (-(hop:Int))= -(hop:Int):=IntWalk.i64_in _ (by omega)
 clear hs
 go_enter Tryz.func97,Tryz.ntmps97
 go_wp2_with fail
 (with_reducible refine HH.out.mono ?_)
 rintro e w' ⟨rfl,rfl⟩
 go_wp2_with fail
 (with_reducible refine HS.out.mono ?_)
 rintro e w' ⟨rfl,hb⟩
 have HB:=Lib.hid hb
 clear hb
 go_wp2_with fail
 go_ret
 exact⟨rfl,HB.out⟩
def linkE (d at_ hop:Nat):Nat:=4*at_+2*d+hop - 1
set_option maxRecDepth 100000 in
set_option maxHeartbeats 1000000 in
theorem link_any (n:Int) (d at_ hop:Nat) (h4:4≤n) (h16:n≤16) (hd:d<2) (ha:(at_:Int)<n) (hh:hop=1∨hop=2) (w:World) :
 Calls Tryz.prog 54 #[.int .i64 n,.int .u8 d,.int .i64 at_,.int .i64 hop] w fun e w'=>e=.returned (.int .i64 (linkE d at_ hop))∧Below w.heap.size w w':=by
 have HR:=Lib.hid (fun w=>ringD_any n d h4 h16 hd w)
 have HN:Hid (∀w,Calls Tryz.prog 111 #[.int .i64 n,.int .i64 at_] w fun e w'=>e=.returned (.bool true)∧w=w'):=Lib.hid fun w=>by
  refine (node_any n at_ w).mono ?_
  rintro e w' ⟨rfl,rfl⟩
  exact⟨by rw [decide_eq_true (by omega)],rfl⟩
 have HH:=Lib.hid (fun w=>hops_any hop hh w)
 have w1:IntKind.i64.wrap (4*(at_:Int))=4*(at_:Int):=IntWalk.i64_in _ (by omega)
 have w2:IntKind.i64.wrap (2*(d:Int))=2*(d:Int):=IntWalk.i64_in _ (by omega)
 have w3:IntKind.i64.wrap (4*(at_:Int)+2*(d:Int))=4*(at_:Int)+2*(d:Int):=IntWalk.i64_in _ (by omega)
 have w4:IntKind.i64.wrap (4*(at_:Int)+2*(d:Int)+(hop:Int))=4*(at_:Int)+2*(d:Int)+(hop:Int):=IntWalk.i64_in _ (by omega)
 have w5:IntKind.i64.wrap (4*(at_:Int)+2*(d:Int)+(hop:Int) - 1)=4*(at_:Int)+2*(d:Int)+(hop:Int) - 1:=IntWalk.i64_in _ (by omega)
 have w6:IntKind.i64.wrap (d:Int)=(d:Int):=IntWalk.i64_in _ (by omega)
 have hl:((linkE d at_ hop:Nat):Int)=4*(at_:Int)+2*(d:Int)+(hop:Int) - 1:=by unfold linkE;omega
 rw [hl]
 clear hl
 go_enter Tryz.func54,Tryz.ntmps54
 go_wp2_with fail
 (with_reducible refine (HR.out _).mono ?_)
 rintro e w' ⟨rfl,rfl⟩
 go_wp2_with fail
 (with_reducible refine (HN.out _).mono ?_)
 rintro e w' ⟨rfl,rfl⟩
 go_wp2_with fail
 (with_reducible refine (HH.out _).mono ?_)
 rintro e w' ⟨rfl,rfl⟩
 go_wp2_with fail
 go_ret
 exact⟨rfl,Below.refl _ _⟩
theorem run_copyN {P:Program} (w:World) (dT sT ty elem:TypeId) (s g o dLen dCap:Nat) (a:Addr) (sLen sCap:Nat) (cur:Array Value) (t:TypeId) (cs:List Value)
 (hu:P.underlying dT=some (.slice elem)) (hs:(P.info? elem).map (·.size)=some s)
 (hg:w.heap[g]? =some (.cells cur t (0,0))) (hn:cs.length=Nat.min sLen dLen*s)
 (hsrc:∀j v,cs[j]? =some v→w.cell? (a.add j)=some v) (hfit:o+cs.length≤cur.size) (h1:∀v ∈ cs,v.oneCell'=true) :
 (Builtin.copy_ #[dT,sT] ty #[.slice (some ⟨g,o,none⟩) dLen dCap,.slice (some a) sLen sCap]).run P w =
   .ok (goInt (Nat.min sLen dLen)) (w.setRow g (cur.toList.take o++cs++cur.toList.drop (o+cs.length)).toArray):=by
 have hl:=run_loadCells_list (P:=P) w a cs hsrc
 have hst:=run_storeCells_at P g o t cs 0 cur w hg (by simpa using hfit) h1
 cases hq:P.info? elem with
 | none=>simp [hq] at hs
 | some i=>
   have hi:i.size=s:=by simpa [hq] using hs
   simp [Builtin.copy_,run_underlying hu,Builtin.lenOf,Builtin.firstCells,sizeOf,typeInfo,hq,hi,←hn,hl,hst]
def postZ:List Value:=[.int .u8 0,.slice none 0 0]
def cargoZ:List Value:=[.int .u8 0,.slice none 0 0,.bool false]
@[go_sem] theorem len_postZ:postZ.length=2:=(rfl)
@[go_sem] theorem len_cargoZ:cargoZ.length=3:=(rfl)
@[go_sem] theorem all_postZ:postZ.all cell1=true:=by kernel_rfl
section
variable (ρ:Operand→Value) (d:Option Tmp) (x y z:Operand) (ty:TypeId) (s:String) (af:Array Edge) (g:Option (Nat×Bool)) (w:World)
theorem ag_post:aggOf Tryz.prog 63 2=true:=by kernel_rfl
theorem ag_cargo:aggOf Tryz.prog 358 3=true:=by kernel_rfl
@[go_sem ↓] theorem ld_post (h:hasRowV w 2 (ρ x)=true):(execOp ρ { dst:=d,op:=.load 63 x,type:=ty,pos:=s,after:=af,guard:=g }).run Tryz.prog w=.ok (.value (.agg (rowV w 2 (ρ x)).toArray)) w:=exec_load ag_post ρ d x ty s af g w h
@[go_sem ↓] theorem st_post (h1:okAgg 2 (ρ y)=true) (h2:canPutV w 2 (ρ x)=true):(execOp ρ { dst:=d,op:=.store 63 x y,type:=ty,pos:=s,after:=af,guard:=g }).run Tryz.prog w=.ok .skip (putV w (ρ x) (ρ y)):=exec_store ag_post ρ d x y ty s af g w h1 h2
@[go_sem ↓] theorem al_post:(execOp ρ { dst:=d,op:=.alloc 63,type:=ty,pos:=s,after:=af,guard:=g }).run Tryz.prog w=.ok (.value (.pointer (some ⟨w.heap.size,0,none⟩))) (w.alloc (.cells postZ.toArray 63)):=exec_alloc (by unfold zeroIs;kernel_rfl) ρ d ty s af g w
@[go_sem ↓] theorem ld_cargo (h:hasRowV w 3 (ρ x)=true):(execOp ρ { dst:=d,op:=.load 358 x,type:=ty,pos:=s,after:=af,guard:=g }).run Tryz.prog w=.ok (.value (.agg (rowV w 3 (ρ x)).toArray)) w:=exec_load ag_cargo ρ d x ty s af g w h
@[go_sem ↓] theorem st_cargo (h1:okAgg 3 (ρ y)=true) (h2:canPutV w 3 (ρ x)=true):(execOp ρ { dst:=d,op:=.store 358 x y,type:=ty,pos:=s,after:=af,guard:=g }).run Tryz.prog w=.ok .skip (putV w (ρ x) (ρ y)):=exec_store ag_cargo ρ d x y ty s af g w h1 h2
@[go_sem ↓] theorem al_cargo:(execOp ρ { dst:=d,op:=.alloc 358,type:=ty,pos:=s,after:=af,guard:=g }).run Tryz.prog w=.ok (.value (.pointer (some ⟨w.heap.size,0,none⟩))) (w.alloc (.cells cargoZ.toArray 358)):=exec_alloc (by unfold zeroIs;kernel_rfl) ρ d ty s af g w
end
theorem ret_rowL {P:Program} {fn:Func} {p q:Tmp} {ty:TypeId} {n:Nat} (h:fn.results=#[.cell p ty,.tmp q]) (hT:aggOf P ty n=true) (tmps:Array Value) (w:World) (a:Addr)
 (hp:tmps.getD p undef=.pointer (some a)) (hr:hasRow w a n=true):(results fn tmps).run P w=.ok (.tuple #[.agg (rowOf w a n).toArray,tmps.getD q undef]) w:=by
 have hp':tmps[p]?.getD undef=.pointer (some a):=by simpa using hp
 simp [results,h,hp',asAddr,run_load_row hT hr]
structure Cgo where
 x0:Value
 x1:Value
 is:Bool
def Cgo.vals (c:Cgo):List Value:=[c.x0,c.x1,.bool c.is]
def Cgo.ok (c:Cgo):Prop:=cell1 c.x0=true∧cell1 c.x1=true
def cgo0:Cgo:=⟨.int .u8 0,.slice none 0 0,false⟩
def wayV:List Cgo→List Value
 | [] =>[]
 | c :: l=>c.vals++wayV l
theorem wayV_len (l:List Cgo):(wayV l).length=3*l.length:=by
 induction l with
 | nil=>rfl
 | cons c l ih=>simp [wayV,Cgo.vals,ih];omega
structure LnAt (w:World) (b g:Nat) (tk:Int) (l:List Cgo):Prop where
 b:Blk w b 230 #[Value.slice (some ⟨g,0,none⟩) l.length l.length,.int .i64 tk]
 g:Blk w g 358 (wayV l).toArray
 ok:∀c ∈ l,c.ok
theorem LnAt.keep {w w':World} {b g:Nat} {tk:Int} {l:List Cgo} (h:LnAt w b g tk l) (hb:w'.heap[b]? =w.heap[b]?) (hg:w'.heap[g]? =w.heap[g]?):LnAt w' b g tk l:=⟨hb.trans h.b,hg.trans h.g,h.ok⟩
theorem lthere_any {w:World} {b g:Nat} {tk:Int} {l:List Cgo} (h:LnAt w b g tk l) (hl:0<l.length):Calls Tryz.prog 139 #[.pointer (some ⟨b,0,none⟩)] w fun e w'=>e=.returned (.bool true)∧w=w':=by
 have c0:=h.b.cell 0
 have hl':(0:Int)<l.length:=by omega
 simp only [List.getElem?_toArray,List.getElem?_cons_zero] at c0
 clear h
 generalize l.length=n at *
 go_enter Tryz.func139,Tryz.ntmps139
 go_wp2
 go_ret
 exact⟨by simp [hl],rfl⟩
set_option maxRecDepth 100000 in
set_option maxHeartbeats 1000000 in
theorem lhere_any {w:World} {b g:Nat} {tk:Int} {c:Cgo} {l:List Cgo} (h:LnAt w b g tk (c :: l)) :
 Calls Tryz.prog 98 #[.pointer (some ⟨b,0,none⟩)] w fun e w'=>e=.returned (.tuple #[.agg #[c.x0,c.x1],.bool c.is])∧Below w.heap.size w w':=by
 have hB:Below w.heap.size w (w.alloc (.cells postZ.toArray 63)):=(Below.refl _ _).alloc (Nat.le_refl _) _
 have kP:=Blk.new w 63 postZ.toArray
 have HL:Hid (LnAt (w.alloc (.cells postZ.toArray 63)) b g tk (c :: l)):=Lib.hid (h.keep (hB.block _ h.b.lt) (hB.block _ h.g.lt))
 have hbl:=h.b.lt
 have hgl:=h.g.lt
 clear h
 go_enter Tryz.func98,Tryz.ntmps98
 go_upto_region 1 with fail
 generalize (w.alloc (.cells postZ.toArray 63))=w1 at HL hB kP ⊢
 have HT:=Lib.hid (lthere_any HL.out (by simp))
 go_wp2_with fail
 (with_reducible refine HT.out.mono ?_)
 rintro e w' ⟨rfl,rfl⟩
 have c0:=HL.out.b.cell 0
 simp only [List.getElem?_toArray,List.getElem?_cons_zero] at c0
 have hg0:hasRow w1 ⟨g,0,none⟩ 2=true:=by rw [HL.out.g.rules.2.2.1];simp [wayV,Cgo.vals]
 have hg1:rowOf w1 ⟨g,0,none⟩ 2=[c.x0,c.x1]:=by rw [HL.out.g.rules.2.2.2.1 0 2 (by simp [wayV,Cgo.vals])];rfl
 have hg2:w1.cell? ⟨g,2,none⟩=some (.bool c.is):=by rw [HL.out.g.rules.1];rfl
 have hl0:(0:Int)<(c :: l).length:=by simp
 obtain⟨q1,q2,q3⟩:=kP.whole (n:=2) rfl
 obtain⟨o1,o2⟩:=HL.out.ok c (by simp)
 generalize (c :: l).length=n at c0 hl0
 obtain⟨e1,e2,e3⟩:=(kP.put_all (l:=[c.x0,c.x1]) rfl).whole (n:=2) rfl
 have HB:=Lib.hid (Below.put hB (p:=⟨w.heap.size,0,none⟩) (Nat.le_refl _) [c.x0,c.x1])
 have f0:=(World.cell?_of_block (a:=⟨b,0,none⟩) (putRow_other w1 ⟨w.heap.size,0,none⟩ [c.x0,c.x1] b (by show b≠w.heap.size;omega))).trans c0
 have f2:=(World.cell?_of_block (a:=⟨g,2,none⟩) (putRow_other w1 ⟨w.heap.size,0,none⟩ [c.x0,c.x1] g (by show g≠w.heap.size;omega))).trans hg2
 have hl1:0<n:=by omega
 clear kP hB HT hbl hgl
 obtain⟨p,hp⟩:∃p,Hid (p=w.heap.size):=⟨_,Lib.hid rfl⟩
 rw [←hp.out] at q1 q2 q3 e1 e2 e3 HB f0 f2 ⊢
 have hlen:[c.x0,c.x1].length=2:=rfl
 generalize hcv:[c.x0,c.x1]=cv at *
 have hcl:cv.all cell1=true:=by rw [←hcv];simp [o1,o2]
 have HCV:=Lib.hid hcv.symm
 clear hcv
 go_wp2_with fail
 go_region
 go_wp2_with fail
 try simp only [Exit.inBlock,Exit.then]
 first | refine bodyPost_ret (ret_rowL (n:=2) rfl ag_post _ _ _ rfl ?_) rfl ?_ | refine bodyPost_end (ret_rowL (n:=2) rfl ag_post _ _ _ rfl ?_) rfl ?_
 ·exact e1
 ·refine⟨?_,(by rw [←hp.out];exact HB.out.drew)⟩
  rw [show rowOf (putRow w1 ⟨p,0,none⟩ cv).drew ⟨p,0,none⟩ 2=cv from e2,HCV.out]
  rfl
end Go.Proofs.YtdilbjikeilhbaaGreatDoor
