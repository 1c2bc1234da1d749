import Derived.Test.YtdilbjikeilhbaaGreatDoorGn06
import Derived.ArgAppend
import Derived.BigQuiet
import Derived.Deep.Cut
import Derived.Deep.CutBlock
import Derived.Deep.CutRange
import Derived.Deep.DeepCutAuto
import Derived.Deep.DrawnRows
import Derived.Deep.QuietTactic
import Derived.Deep.RegionHeld3
import Derived.Deep.RegionHeldLaw
import Derived.Deep.RegionLaw
import Derived.Deep.RegionWith
import Derived.Laws.Cover3
import Derived.LoopN
import Derived.RegionTactic
import Derived.WalkSpells
import Derived.Test.YtdilbjikeilhbaaGreatDoorGn12
import Derived.Test.YtdilbjikeilhbaaGreatDoorGn13
import Derived.Test.YtdilbjikeilhbaaGreatDoorGn15
import Derived.Test.YtdilbjikeilhbaaGreatDoorGn16
import Derived.Test.YtdilbjikeilhbaaGreatDoorGn17
import Derived.Test.YtdilbjikeilhbaaGreatDoorGn18
import Derived.Test.YtdilbjikeilhbaaGreatDoorRows
import Derived.Test.YtdilbjikeilhbaaGreatDoorGn01
import Derived.WalkKit
import Derived.WalkLawsBesides
import Derived.Outline
import Derived.Deep.Light
namespace Go.Proofs.YtdilbjikeilhbaaGreatDoor
open Go.RowKit
set_option linter.unusedVariables false
set_option linter.unusedSimpArgs false
def RdZ (S:Nat→Prop) (w:World) (a:Option Addr) (len:Nat) (zs:List Int):Prop:=
 zs.length=len∧∀k z,zs[k]? =some z→∃b off,a=some ⟨b,off,none⟩∧S b∧b<w.heap.size∧w.cell? ⟨b,off+k,none⟩=some (.int .i64 z)
section
variable {S S':Nat→Prop} {w w':World} {a:Option Addr} {len:Nat} {zs:List Int}
theorem RdZ.keep (h:RdZ S w a len zs) (hs:w.heap.size≤w'.heap.size) (hk:∀b,S b→b<w.heap.size→w'.heap[b]? =w.heap[b]?):RdZ S w' a len zs:=
 ⟨h.1,fun k z hz=>by
   obtain⟨b,off,e,hS,hb,hc⟩:=h.2 k z hz
   exact⟨b,off,e,hS,by omega,(World.cell?_of_block (hk b hS hb)).trans hc⟩⟩
theorem RdZ.below (h:RdZ S w a len zs) (hb:Below w.heap.size w w'):RdZ S w' a len zs:=h.keep hb.size fun b _ hl=>hb.block b hl
theorem RdZ.mono (h:RdZ S w a len zs) (hs:∀b,b<w.heap.size→S b→S' b):RdZ S' w a len zs:=
 ⟨h.1,fun k z hz=>by
   obtain⟨b,off,e,hS,hb,hc⟩:=h.2 k z hz
   exact⟨b,off,e,hs b hb hS,hb,hc⟩⟩
theorem RdZ.nil (S:Nat→Prop) (w:World):RdZ S w none 0 []:=⟨rfl,by simp⟩
theorem RdZ.at_ (h:RdZ S w a len zs) {k:Nat} (hk:k<len):∃b off z,a=some ⟨b,off,none⟩∧S b∧b<w.heap.size∧zs[k]? =some z∧w.cell? ⟨b,off+k,none⟩=some (.int .i64 z):=by
 obtain⟨z,hz⟩:∃z,zs[k]? =some z:=⟨_,List.getElem?_eq_getElem (by rw [h.1];exact hk)⟩
 obtain⟨b,off,e,hS,hb,hc⟩:=h.2 k z hz
 exact⟨b,off,z,e,hS,hb,hz,hc⟩
end
def withE (x lo hi:Int):Int:=if hi<x then 3 else if x<lo then 1 else 0
theorem within_any (x lo hi:Int) (w:World):Calls Tryz.prog 58 #[.int .i64 x,.int .i64 lo,.int .i64 hi] w fun e w'=>e=.returned (.int .i64 (withE x lo hi))∧w'=w:=by
 go_enter Tryz.func58,Tryz.ntmps58
 unfold withE
 by_cases h1:hi<x
 ·rw [if_pos h1]
  go_wp2
  go_ret
  exact⟨rfl,rfl⟩
 ·rw [if_neg h1]
  by_cases h2:x<lo
  ·rw [if_pos h2]
   go_wp2
   go_ret
   exact⟨rfl,rfl⟩
  ·rw [if_neg h2]
   go_wp2
   go_ret
   exact⟨rfl,rfl⟩
theorem rwithin_any (x lo hi:Int) (w:World):Calls Tryz.prog 43 #[.int .i64 x,.int .i64 lo,.int .i64 hi] w fun e w'=>e=.returned (.int .i64 (withE x lo hi))∧w'=w:=by
 go_enter Tryz.func43,Tryz.ntmps43
 unfold withE
 by_cases h1:hi<x
 ·rw [if_pos h1]
  go_wp2
  go_ret
  exact⟨rfl,rfl⟩
 ·rw [if_neg h1]
  by_cases h2:x<lo
  ·rw [if_pos h2]
   go_wp2
   go_ret
   exact⟨rfl,rfl⟩
  ·rw [if_neg h2]
   go_wp2
   go_ret
   exact⟨rfl,rfl⟩
def mustE (b:Bool):Int:=if b then 0 else 1
theorem must_any (b:Bool) (w:World):Calls Tryz.prog 61 #[.bool b] w fun e w'=>e=.returned (.int .i64 (mustE b))∧w'=w:=by
 go_enter Tryz.func61,Tryz.ntmps61
 cases b <;> (go_wp2;go_ret;exact⟨rfl,rfl⟩)
def eachE (lo hi:Int):List Int→Int
 | [] =>0
 | x :: r=>if withE x lo hi=0 then eachE lo hi r else withE x lo hi
theorem eachE_step {lo hi:Int} {zs:List Int} {k:Nat} {z:Int} (hz:zs[k]? =some z):eachE lo hi (zs.drop k)=if withE z lo hi=0 then eachE lo hi (zs.drop (k+1)) else withE z lo hi:=by
 have hk:k<zs.length:=(List.getElem?_eq_some_iff.1 hz).1
 rw [List.drop_eq_getElem_cons hk]
 have:zs[k]=z:=(List.getElem?_eq_some_iff.1 hz).2
 rw [this]
 rfl
set_option maxRecDepth 100000 in
set_option maxHeartbeats 1000000 in
theorem eachI_any (S:Nat→Prop) (a:Option Addr) (len cap:Nat) (zs:List Int) (lo hi:Int) (w:World) (h:RdZ S w a len zs) (hm1:len≤cap) (hm2:cap≤maxLen) :
 Calls Tryz.prog 71 #[.slice a len cap,.int .i64 lo,.int .i64 hi] w fun e w'=>e=.returned (.int .i64 (eachE lo hi zs))∧Below w.heap.size w w':=by
 unfold maxLen at hm2
 have HR:=Lib.hid h
 clear h
 go_enter Tryz.func71,Tryz.ntmps71
 go_wp2_with fail
 go_loopw [12] (fun i wr=> ∃k:Nat,k≤len∧i=.int .i64 k∧wr=w∧eachE lo hi zs=eachE lo hi (zs.drop k)) (fun i _=>len - (intOf i).toNat)
 case atStart=>exact⟨0,by omega,rfl,rfl,rfl⟩
 case round=>
  obtain⟨k,hk,rfl,rfl,he⟩:=hrel
  have HE:=Lib.hid he
  clear he
  by_cases hlt:k<len
  ·obtain⟨b,off,z,rfl,-,-,hz,hc⟩:=HR.out.at_ hlt
   have hlt':(k:Int)<len:=by omega
   have hk0:(0:Int)≤k:=by omega
   obtain⟨q,hq⟩:∃q,q=withE z lo hi:=⟨_,rfl⟩
   have HQ:=Lib.hid hq
   have HW:=Lib.hid (within_any z lo hi wr)
   rw [←hq] at HW
   have HZ:=Lib.hid hz
   clear hq hz
   go_wp2_with fail
   (with_reducible refine HW.out.mono ?_)
   rintro e w' ⟨rfl,rfl⟩
   by_cases h0:q=0
   ·have HN:Hid (eachE lo hi zs=eachE lo hi (zs.drop (k+1))):=Lib.hid (by rw [HE.out,eachE_step HZ.out,if_pos (by rw [←HQ.out];exact h0)])
    go_wp2_with fail
    exact⟨⟨k+1,by omega,by go_num,by first | rfl | trivial,HN.out⟩,by simp [intOf];omega⟩
   ·have HN:Hid (eachE lo hi zs=q):=Lib.hid (by rw [HE.out,eachE_step HZ.out,if_neg (by rw [←HQ.out];exact h0),←HQ.out])
    go_wp2_with fail
    go_ret
    rw [HN.out]
    exact⟨rfl,Below.refl _ _⟩
  ·have hlt':¬(k:Int)<len:=by omega
   have HN:Hid (eachE lo hi zs=0):=Lib.hid (by rw [HE.out,List.drop_eq_nil_of_le (by rw [HR.out.1];omega)];rfl)
   go_wp2_with fail
   go_ret
   rw [HN.out]
   exact⟨rfl,Below.refl _ _⟩
def pwCells (boot s left cold:Int):Array Value:=#[.bool true,.int .i64 boot,.int .u8 s,.int .i64 left,.int .i64 cold]
def pwOn (boot s left cold:Int):Int×Int×Int:=
 if s=2 then (2,left,min (cold+1) 1099511627776)
 else if 0<(if s=0 then boot else left) then (1,(if s=0 then boot else left) - 1,cold)
 else (2,(if s=0 then boot else left),0)
def OnPost (g:Nat) (boot s left cold:Int) (w w':World):Prop:=
 Blk w' g 232 (pwCells boot (pwOn boot s left cold).1 (pwOn boot s left cold).2.1 (pwOn boot s left cold).2.2)∧Chg (· =g) w w'
set_option maxHeartbeats 400000 in
theorem on_any (g:Nat) (boot s left cold:Int) (w:World) (hs:s=0∨s=1∨s=2) (hb0:0≤boot) (hb1:boot≤4096) (hl0:0≤left) (hl1:left≤4096)
 (h0: -1≤cold) (h1:cold≤1099511627776) (hg:Blk w g 232 (pwCells boot s left cold)) :
 Calls Tryz.prog 140 #[.pointer (some ⟨g,0,none⟩)] w fun e w'=>e=.returned (.tuple #[])∧OnPost g boot s left cold w w':=by
 have hc1:w.cell? ⟨g,1,none⟩=some (.int .i64 boot):=hg.cell 1
 have hc2:w.cell? ⟨g,2,none⟩=some (.int .u8 s):=hg.cell 2
 have hc3:w.cell? ⟨g,3,none⟩=some (.int .i64 left):=hg.cell 3
 have hc4:w.cell? ⟨g,4,none⟩=some (.int .i64 cold):=hg.cell 4
 have hf:∀i,w.frozen? ⟨g,i,none⟩=false:=hg.frozen
 have HG:=Lib.hid hg
 clear hg
 have hp0:0<boot→pwOn boot 0 left cold=(1,boot - 1,cold):=fun h=>by simp [pwOn,h]
 have hp0':¬0<boot→pwOn boot 0 left cold=(2,boot,0):=fun h=>by unfold pwOn;rw [if_neg (by decide),if_neg (by simpa using h)];simp
 have hp1:0<left→pwOn boot 1 left cold=(1,left - 1,cold):=fun h=>by simp [pwOn,h]
 have hp1':¬0<left→pwOn boot 1 left cold=(2,left,0):=fun h=>by unfold pwOn;rw [if_neg (by decide),if_neg (by simpa using h)];simp
 have hp2:pwOn boot 2 left cold=(2,left,min (cold+1) 1099511627776):=rfl
 have HP:=Lib.hid (And.intro hp0 (And.intro hp0' (And.intro hp1 (And.intro hp1' hp2))))
 clear hp0 hp0' hp1 hp1' hp2
 rcases hs with rfl | rfl | rfl
 ·by_cases hb:0<boot
  all_goals go_enter Tryz.func140,Tryz.ntmps140
  all_goals go_wp2
  all_goals (try simp only [Exit.inBlock,Exit.then])
  all_goals first | refine bodyPost_end (results_none rfl _ _ _) rfl ?_ | refine bodyPost_ret (results_none rfl _ _ _) rfl ?_
  all_goals go_light
  all_goals refine⟨rfl,?_,by repeat (first | exact Chg.refl _ _ | refine Chg.set_at ?_ _ _)⟩
  ·rw [HP.out.1 hb]
   exact ((HG.out.set_ 2 (.int .u8 1)).set_ 3 (.int .i64 boot)).set_ 3 (.int .i64 (boot - 1))
  ·rw [HP.out.2.1 (by omega)]
   exact ((((HG.out.set_ 2 (.int .u8 1)).set_ 3 (.int .i64 boot)).set_ 2 (.int .u8 2)).set_ 4 (.int .i64 (-1))).set_ 4 (.int .i64 0)
 ·by_cases hb:0<left
  all_goals go_enter Tryz.func140,Tryz.ntmps140
  all_goals go_wp2
  all_goals (try simp only [Exit.inBlock,Exit.then])
  all_goals first | refine bodyPost_end (results_none rfl _ _ _) rfl ?_ | refine bodyPost_ret (results_none rfl _ _ _) rfl ?_
  all_goals go_light
  all_goals refine⟨rfl,?_,by repeat (first | exact Chg.refl _ _ | refine Chg.set_at ?_ _ _)⟩
  ·rw [HP.out.2.2.1 hb]
   exact HG.out.set_ 3 (.int .i64 (left - 1))
  ·rw [HP.out.2.2.2.1 (by omega)]
   exact ((HG.out.set_ 2 (.int .u8 2)).set_ 4 (.int .i64 (-1))).set_ 4 (.int .i64 0)
 ·by_cases hb:cold+1≤1099511627776
  all_goals go_enter Tryz.func140,Tryz.ntmps140
  all_goals go_wp2
  all_goals (try simp only [Exit.inBlock,Exit.then])
  all_goals first | refine bodyPost_end (results_none rfl _ _ _) rfl ?_ | refine bodyPost_ret (results_none rfl _ _ _) rfl ?_
  all_goals go_light
  all_goals refine⟨rfl,?_,by repeat (first | exact Chg.refl _ _ | refine Chg.set_at ?_ _ _)⟩
  ·rw [HP.out.2.2.2.2,Int.min_eq_left hb]
   exact HG.out.set_ 4 (.int .i64 (cold+1))
  ·rw [HP.out.2.2.2.2,Int.min_eq_right (by omega)]
   exact HG.out.set_ 4 (.int .i64 1099511627776)
def StepPost (g:Nat) (boot s left cold:Int) (p:Bool) (e:Ending) (w w':World):Prop:=
 ∃s' l' c',(s',l',c')=(if p then pwOn boot s left cold else (0,left,cold))∧
  e=.returned (.tuple #[.int .u8 s',.int .i64 (if s'=2 then c' else -1)])∧Blk w' g 232 (pwCells boot s' l' c')∧Chg (· =g) w w'
theorem pwOn_s (boot s left cold:Int):(pwOn boot s left cold).1=1∨(pwOn boot s left cold).1=2:=by
 unfold pwOn;repeat' split
 all_goals simp
set_option maxHeartbeats 400000 in
theorem step_on (g:Nat) (boot s left cold:Int) (w:World) (hs:s=0∨s=1∨s=2) (hb0:0≤boot) (hb1:boot≤4096) (hl0:0≤left) (hl1:left≤4096)
 (h0: -1≤cold) (h1:cold≤1099511627776) (hg:Blk w g 232 (pwCells boot s left cold)) :
 Calls Tryz.prog 99 #[.pointer (some ⟨g,0,none⟩),.bool true] w fun e w'=>StepPost g boot s left cold true e w w':=by
 have hc0:w.cell? ⟨g,0,none⟩=some (.bool true):=hg.cell 0
 have h12:=pwOn_s boot s left cold
 obtain⟨s',l',c',hp⟩:∃s' l' c',pwOn boot s left cold=(s',l',c'):=⟨_,_,_,rfl⟩
 have hon:=on_any g boot s left cold w hs hb0 hb1 hl0 hl1 h0 h1 hg
 unfold OnPost at hon
 rw [hp] at hon h12
 have H:=Lib.hid hon
 have HP:=Lib.hid hp
 clear hon hp hg hs
 dsimp only at h12
 rcases h12 with rfl | rfl
 ·go_enter Tryz.func99,Tryz.ntmps99
  go_wp2_with fail
  refine H.out.mono ?_
  rintro e w' ⟨rfl,hb,hc⟩
  have hd2:w'.cell? ⟨g,2,none⟩=some (.int .u8 1):=hb.cell 2
  have HB:=Lib.hid hb
  clear hb
  go_wp2
  go_ret2
  go_light
  exact⟨1,l',c',HP.out.symm,rfl,HB.out,hc⟩
 ·go_enter Tryz.func99,Tryz.ntmps99
  go_wp2_with fail
  refine H.out.mono ?_
  rintro e w' ⟨rfl,hb,hc⟩
  have hd2:w'.cell? ⟨g,2,none⟩=some (.int .u8 2):=hb.cell 2
  have hd4:w'.cell? ⟨g,4,none⟩=some (.int .i64 c'):=hb.cell 4
  have HB:=Lib.hid hb
  clear hb
  go_wp2
  go_quiet (fail)
  go_wp2
  go_ret2
  go_light
  exact⟨2,l',c',HP.out.symm,rfl,HB.out,hc.drewN _⟩
theorem pwnew_ok (boot:Int) (w:World) (h0:0≤boot) (h1:boot≤4096) :
 Calls Tryz.prog 41 #[.int .i64 boot] w fun e w'=>e=.returned (.tuple #[.pointer (some ⟨w.heap.size,0,none⟩),.int .i64 0])∧w'=w.alloc (.cells (pwCells boot 0 0 0) 232):=by
 go_enter Tryz.func41,Tryz.ntmps41
 go_wp2
 go_ret2
 exact⟨rfl,rfl⟩
end Go.Proofs.YtdilbjikeilhbaaGreatDoor
