import Derived.Test.YtdilbjikeilhbaaGreatDoorGn17
import Derived.RegionTactic
import Derived.Deep.RegionWith
namespace Go.Proofs.YtdilbjikeilhbaaGreatDoor
open Go.RowKit
set_option linter.unusedVariables false
set_option linter.unusedSimpArgs false
def cqCells (long end_ n:Int):Array Value:=#[.int .i64 long,.int .i64 end_,.int .i64 n]
theorem on_false (g:Nat) (t:TypeId) (long end_ n:Int) (w:World) (hg:Blk w g t (cqCells long end_ n)) :
 Calls Tryz.prog 150 #[.pointer (some ⟨g,0,none⟩),.bool false] w fun e w'=>e=.returned (.bool false)∧Blk w' g t (cqCells 0 end_ n)∧Chg (· =g) w w':=by
 have hc0:w.cell? ⟨g,0,none⟩=some (.int .i64 long):=hg.cell 0
 have hf:∀i,w.frozen? ⟨g,i,none⟩=false:=hg.frozen
 have HG:=Lib.hid hg
 clear hg
 go_enter Tryz.func150,Tryz.ntmps150
 go_wp2
 go_ret
 exact⟨rfl,HG.out.set_ 0 (.int .i64 0),(Chg.refl _ _).set_at _ _⟩
theorem on_true (g:Nat) (t:TypeId) (long end_ n:Int) (w:World) (hg:Blk w g t (cqCells long end_ n)) (h0:0≤long) (h1:long≤1000000) (h2:0≤end_) (h3:end_≤1000000) :
 Calls Tryz.prog 150 #[.pointer (some ⟨g,0,none⟩),.bool true] w fun e w'=>e=.returned (.bool (min (long+1) end_==end_))∧Blk w' g t (cqCells (min (long+1) end_) end_ n)∧Chg (· =g) w w':=by
 have hc0:w.cell? ⟨g,0,none⟩=some (.int .i64 long):=hg.cell 0
 have hc1:w.cell? ⟨g,1,none⟩=some (.int .i64 end_):=hg.cell 1
 have hf:∀i,w.frozen? ⟨g,i,none⟩=false:=hg.frozen
 have HG:=Lib.hid hg
 clear hg
 obtain⟨m,hm⟩:∃m,m=min (long+1) end_:=⟨_,rfl⟩
 rw [←hm]
 have hcase:long+1=m∧m≤end_∨end_=m∧m<long+1:=by omega
 clear hm
 rcases hcase with ⟨rfl,hlt⟩ | ⟨rfl,hlt⟩
 ·go_enter Tryz.func150,Tryz.ntmps150
  go_wp2
  go_region
  go_wp2
  go_quiet (fail)
  go_wp2
  go_ret
  exact⟨rfl,HG.out.set_ 0 (.int .i64 (long+1)),((Chg.refl _ _).set_at _ _).drew.drewN _⟩
 ·go_enter Tryz.func150,Tryz.ntmps150
  go_wp2
  go_region
  go_wp2
  go_quiet (fail)
  go_wp2
  go_ret
  exact⟨by simp,HG.out.set_ 0 (.int .i64 end_),((Chg.refl _ _).set_at _ _).drew.drewN _⟩
theorem cqnew_ok (n:Int) (w:World) (h0:4≤n) (h1:n≤16) :
 Calls Tryz.prog 87 #[.int .i64 n] w fun e w'=>e=.returned (.tuple #[.pointer (some ⟨w.heap.size,0,none⟩),.int .i64 0])∧w'=w.alloc (.cells (cqCells 0 (2*n) n) 334):=by
 have e1:(decide (4≤n)&&decide (n≤16))=true:=by simp [h0,h1]
 go_enter Tryz.func87,Tryz.ntmps87
 go_wp2_with (go_at_call 136;refine (cmay_any _ _).mono ?_;rintro e w' ⟨rfl,rfl⟩)
 go_ret2
 exact⟨rfl,rfl⟩
def cqOn (long end_:Int) (b:Bool):Int:=if b then min (long+1) end_ else 0
theorem on_any_ (g:Nat) (t:TypeId) (long end_ n:Int) (b:Bool) (w:World) (hg:Blk w g t (cqCells long end_ n)) (h0:0≤long) (h1:long≤1000000) (h2:1≤end_) (h3:end_≤1000000) :
 Calls Tryz.prog 150 #[.pointer (some ⟨g,0,none⟩),.bool b] w fun e w'=>e=.returned (.bool (cqOn long end_ b==end_))∧Blk w' g t (cqCells (cqOn long end_ b) end_ n)∧Chg (· =g) w w':=by
 cases b with
 | false=>
   refine (on_false g t long end_ n w hg).mono ?_
   rintro e w' ⟨rfl,hb,hc⟩
   refine⟨?_,hb,hc⟩
   have:(cqOn long end_ false==end_)=false:=by simp [cqOn];omega
   rw [this]
 | true=>exact on_true g t long end_ n w hg h0 h1 (by omega) h3
theorem cqstep_any (S:Nat→Prop) (g:Nat) (long end_ n c:Int) (a:Option Addr) (len cap:Nat) (l:List Hd) (w:World) (hg:Blk w g 334 (cqCells long end_ n)) (hn:4≤n) (hn2:n≤16) (h0:0≤long) (h1:long≤1000000) (h2:1≤end_) (h3:end_≤1000000)
 (hrd:RdHs S w a len l) (hlc:len≤cap) (hcm:cap≤maxLen) :
 Calls Tryz.prog 104 #[.pointer (some ⟨g,0,none⟩),.slice a len cap,.int .i64 c] w fun e w'=>
  e=.returned (.bool (cqOn long end_ (evenF n l c)==end_))∧Blk w' g 334 (cqCells (cqOn long end_ (evenF n l c)) end_ n)∧Chg (· =g) w w':=by
 have hc2:w.cell? ⟨g,2,none⟩=some (.int .i64 n):=hg.cell 2
 have hev:∀k,Calls Tryz.prog 151 #[.int .i64 n,.slice a len cap,.int .i64 c] (w.drewN k) fun e w'=>e=.returned (.bool (evenF n l c))∧Below w.heap.size w w':=fun k=>by
  refine (even_all S n c a len cap l (w.drewN k) ⟨hrd.1,hrd.2.1,hrd.2.2⟩ hlc hcm).mono ?_
  rintro e w' ⟨rfl,hb⟩
  exact⟨rfl,(show Below w.heap.size w (w.drewN k) from ⟨rfl,rfl,rfl,Nat.le_refl _,fun _ _=>rfl⟩).trans hb⟩
 have hon:∀w',Below w.heap.size w w'→Calls Tryz.prog 150 #[.pointer (some ⟨g,0,none⟩),.bool (evenF n l c)] w' fun e w''=>e=.returned (.bool (cqOn long end_ (evenF n l c)==end_))∧Blk w'' g 334 (cqCells (cqOn long end_ (evenF n l c)) end_ n)∧Chg (· =g) w w'':=fun w' hb=>by
  refine (on_any_ g _ long end_ n _ w' (hg.below hb hg.lt) h0 h1 h2 h3).mono ?_
  rintro e w'' ⟨rfl,hk,hc⟩
  exact⟨rfl,hk,(Chg.of_below hb _).trans hc⟩
 have HE:=Lib.hid hev
 have HO:=Lib.hid hon
 clear hev hon hg hrd
 have hz:(n==0)=false:=by simp;omega
 go_enter Tryz.func104,Tryz.ntmps104
 go_wp2
 go_region_with (first | (go_at_call 151;refine (HE.out 1).mono ?_;rintro e w1 ⟨rfl,hb1⟩;have HB1:=Lib.hid hb1;clear hb1) | (go_at_call 150;refine (HO.out _ HB1.out).mono ?_;rintro e w2 ⟨rfl,hp2⟩;have HP:=Lib.hid hp2;clear hp2))
 all_goals go_wp2
 all_goals go_ret
 all_goals exact⟨rfl,HP.out⟩
end Go.Proofs.YtdilbjikeilhbaaGreatDoor
