import Derived.Test.YtdilbjikeilhbaaGreatDoorGn02
import Derived.WalkSpells
import Derived.WalkLawsBesides
import Derived.Outline
import Derived.Deep.QuietTactic
import Derived.BigQuiet
import Derived.Deep.Light
namespace Go.Proofs.YtdilbjikeilhbaaGreatDoor
open Go.RowKit
set_option linter.unusedVariables false
set_option linter.unusedSimpArgs false
theorem cmay_any (n:Int) (w:World):Calls Tryz.prog 136 #[.int .i64 n] w fun e w'=>e=.returned (.bool (decide (4≤n)&&decide (n≤16)))∧w=w':=by
 by_cases h:4≤n
 all_goals
  go_enter Tryz.func136,Tryz.ntmps136
  go_wp2
  go_ret
  refine⟨?_,rfl⟩
  first | (rw [show decide (4≤n)=true from by simp;omega];simp) | (rw [show decide (4≤n)=false from by simp;omega];simp)
def evenN (l:List Hd) (common:Int):Nat:=(l.filter fun h=>h.is&&ageL h.c==common).length
def evenF (n:Int) (l:List Hd) (common:Int):Bool:=
 decide (4≤n)&&decide (n≤16)&&decide (0≤common)&&decide (common≤1099511627776)&&decide (n - 1≤evenN (l.take n.toNat) common)
theorem evenN_le (l:List Hd) (c:Int):evenN l c≤l.length:=List.length_filter_le _ _
theorem evenN_succ (l:List Hd) (c:Int) (k:Nat) (h:Hd) (hk:l[k]? =some h):evenN (l.take (k+1)) c=evenN (l.take k) c+if h.is&&ageL h.c==c then 1 else 0:=by
 unfold evenN
 rw [List.take_add_one,hk]
 simp [List.filter_append,List.filter_cons]
 split <;> simp
set_option maxHeartbeats 400000 in
theorem even_any (S:Nat→Prop) (n common:Int) (a:Option Addr) (len cap:Nat) (l:List Hd) (w:World) (hn0:4≤n) (hn1:n≤16) (hc0:0≤common) (hc1:common≤1099511627776)
 (hrd:RdHs S w a len l) (hlc:len≤cap) (hcm:cap≤maxLen) :
 Calls Tryz.prog 151 #[.int .i64 n,.slice a len cap,.int .i64 common] w fun e w'=>e=.returned (.bool (evenF n l common))∧Below w.heap.size w w':=by
 unfold maxLen at hcm
 obtain⟨m,rfl⟩:∃m:Nat,n=m:=⟨n.toNat,by omega⟩
 have HR:=Lib.hid hrd
 clear hrd
 have HB:=Lib.hid (Below.refl w.heap.size w)
 obtain⟨L,hL⟩:∃L:Nat,L=min m len:=⟨_,rfl⟩
 have hT:l.take (m:Int).toNat=l.take L:=by
  rw [Int.toNat_natCast,hL]
  rcases Nat.le_total m len with h | h
  ·rw [Nat.min_eq_left h]
  ·rw [Nat.min_eq_right h,List.take_of_length_le (by rw [HR.out.1];exact h),List.take_of_length_le (by rw [HR.out.1];exact Nat.le_refl _)]
 have HT:=Lib.hid hT
 clear hT
 have hcase:len=L∧L<m∨m=L∧L≤len:=by omega
 clear hL
 have hb:=evenN_le (l.take L) common
 rcases hcase with ⟨rfl,hlt⟩ | ⟨rfl,hge⟩
 all_goals
  go_enter Tryz.func151,Tryz.ntmps151
  go_wp2_with (go_at_call 136;refine (cmay_any _ _).mono ?_;rintro e w' ⟨rfl,rfl⟩)
 ·go_loopw [7,28] (fun c i wr=> ∃k:Nat,k≤len∧i=.int .i64 k∧c=.int .i64 (evenN (l.take k) common)∧Below w.heap.size w wr) (fun _ i _=>len - (intOf i).toNat)
  case atStart=>exact⟨0,by omega,rfl,rfl,HB.out⟩
  case round=>
   obtain⟨k,hk,rfl,rfl,hbl⟩:=hrel
   by_cases hlt2:k<len
   ·obtain⟨b,off,is,n,r,rfl,-,hbw,hlk,hok,hlr,hlc1,h1,h2,h3,h4,h5,h6,h7,h8⟩:=HR.out.at_ k (by omega)
    have r1:=row_below hbl (p:=⟨b,off+k*56,none⟩) hbw 56
    have g1:hasRow wr ⟨b,off+k*56,none⟩ 56=true:=r1.1.trans h1
    have g2:rowOf wr ⟨b,off+k*56,none⟩ 56=.bool is :: .int .i64 n :: r:=r1.2.trans h2
    have hs:=evenN_succ l common k _ hlk
    simp only [ageL] at hs
    have H:=Lib.hid (And.intro hs (And.intro hlk hbl))
    have hle:=evenN_le (l.take k) common
    have hlt3:(l.take k).length≤k:=List.length_take_le _ _
    clear h1 h2 h3 h4 h5 h6 r1 hs hlk hbl hbw
    cases is with
    | false=>
      go_wp2
      exact⟨⟨k+1,by omega,by go_num,by rw [H.out.1];simp,H.out.2.2.alloc H.out.2.2.size _⟩,by simp [intOf];omega⟩
    | true=>
      by_cases hnc:n=common
      ·have e1:(n==common)=true:=by simp [hnc]
       have HN:=Lib.hid hnc
       clear hnc
       go_wp2
       exact⟨⟨k+1,by omega,by go_num,by rw [H.out.1,HN.out];simp,H.out.2.2.alloc H.out.2.2.size _⟩,by simp [intOf];omega⟩
      ·have e1:(n==common)=false:=by simp [hnc]
       have HN:=Lib.hid hnc
       clear hnc
       go_wp2
       exact⟨⟨k+1,by omega,by go_num,by rw [H.out.1];simp [HN.out],H.out.2.2.alloc H.out.2.2.size _⟩,by simp [intOf];omega⟩
   ·have:k=len:=by omega
    subst this
    have HBL:=Lib.hid hbl
    clear hbl
    go_wp2
    go_ret
    refine⟨?_,HBL.out⟩
    unfold evenF
    rw [HT.out]
    simp [hn0,hn1,hc0,hc1]
 ·go_loopw [7,28] (fun c i wr=> ∃k:Nat,k≤m∧i=.int .i64 k∧c=.int .i64 (evenN (l.take k) common)∧Below w.heap.size w wr) (fun _ i _=>m - (intOf i).toNat)
  case atStart=>exact⟨0,by omega,rfl,rfl,HB.out⟩
  case round=>
   obtain⟨k,hk,rfl,rfl,hbl⟩:=hrel
   by_cases hlt2:k<m
   ·obtain⟨b,off,is,n,r,rfl,-,hbw,hlk,hok,hlr,hlc1,h1,h2,h3,h4,h5,h6,h7,h8⟩:=HR.out.at_ k (by omega)
    have r1:=row_below hbl (p:=⟨b,off+k*56,none⟩) hbw 56
    have g1:hasRow wr ⟨b,off+k*56,none⟩ 56=true:=r1.1.trans h1
    have g2:rowOf wr ⟨b,off+k*56,none⟩ 56=.bool is :: .int .i64 n :: r:=r1.2.trans h2
    have hs:=evenN_succ l common k _ hlk
    simp only [ageL] at hs
    have H:=Lib.hid (And.intro hs (And.intro hlk hbl))
    have hle:=evenN_le (l.take k) common
    have hlt3:(l.take k).length≤k:=List.length_take_le _ _
    clear h1 h2 h3 h4 h5 h6 r1 hs hlk hbl hbw
    cases is with
    | false=>
      go_wp2
      exact⟨⟨k+1,by omega,by go_num,by rw [H.out.1];simp,H.out.2.2.alloc H.out.2.2.size _⟩,by simp [intOf];omega⟩
    | true=>
      by_cases hnc:n=common
      ·have e1:(n==common)=true:=by simp [hnc]
       have HN:=Lib.hid hnc
       clear hnc
       go_wp2
       exact⟨⟨k+1,by omega,by go_num,by rw [H.out.1,HN.out];simp,H.out.2.2.alloc H.out.2.2.size _⟩,by simp [intOf];omega⟩
      ·have e1:(n==common)=false:=by simp [hnc]
       have HN:=Lib.hid hnc
       clear hnc
       go_wp2
       exact⟨⟨k+1,by omega,by go_num,by rw [H.out.1];simp [HN.out],H.out.2.2.alloc H.out.2.2.size _⟩,by simp [intOf];omega⟩
   ·have:k=m:=by omega
    subst this
    have HBL:=Lib.hid hbl
    clear hbl
    go_wp2
    go_ret
    refine⟨?_,HBL.out⟩
    unfold evenF
    rw [HT.out]
    simp [hn0,hn1,hc0,hc1]
theorem even_no (n common:Int) (a:Option Addr) (len cap:Nat) (l:List Hd) (w:World) (h:n<4∨16<n∨common<0∨1099511627776<common) :
 Calls Tryz.prog 151 #[.int .i64 n,.slice a len cap,.int .i64 common] w fun e w'=>e=.returned (.bool (evenF n l common))∧w=w':=by
 have hF:evenF n l common=false:=by
  unfold evenF
  rcases h with h | h | h | h
  ·rw [show decide (4≤n)=false from by simp;omega];simp
  ·rw [show decide (n≤16)=false from by simp;omega];simp
  ·rw [show decide (0≤common)=false from by simp;omega];simp
  ·rw [show decide (common≤1099511627776)=false from by simp;omega];simp
 rw [hF]
 clear hF
 by_cases hm:4≤n∧n≤16
 ·have e1:(decide (4≤n)&&decide (n≤16))=true:=by simp [hm]
  have h':common<0∨1099511627776<common:=by omega
  clear h
  rcases h' with h' | h'
  all_goals
   go_enter Tryz.func151,Tryz.ntmps151
   go_wp2_with (go_at_call 136;refine (cmay_any _ _).mono ?_;rintro e w' ⟨rfl,rfl⟩)
   go_ret
   exact⟨rfl,rfl⟩
 ·have e1:(decide (4≤n)&&decide (n≤16))=false:=by simp;omega
  clear h hm
  go_enter Tryz.func151,Tryz.ntmps151
  go_wp2_with (go_at_call 136;refine (cmay_any _ _).mono ?_;rintro e w' ⟨rfl,rfl⟩)
  go_ret
  exact⟨rfl,rfl⟩
theorem even_all (S:Nat→Prop) (n common:Int) (a:Option Addr) (len cap:Nat) (l:List Hd) (w:World) (hrd:RdHs S w a len l) (hlc:len≤cap) (hcm:cap≤maxLen) :
 Calls Tryz.prog 151 #[.int .i64 n,.slice a len cap,.int .i64 common] w fun e w'=>e=.returned (.bool (evenF n l common))∧Below w.heap.size w w':=by
 by_cases h:4≤n∧n≤16∧0≤common∧common≤1099511627776
 ·exact even_any S n common a len cap l w h.1 h.2.1 h.2.2.1 h.2.2.2 hrd hlc hcm
 ·refine (even_no n common a len cap l w (by omega)).mono ?_
  rintro e w' ⟨rfl,rfl⟩
  exact⟨rfl,Below.refl _ _⟩
end Go.Proofs.YtdilbjikeilhbaaGreatDoor
