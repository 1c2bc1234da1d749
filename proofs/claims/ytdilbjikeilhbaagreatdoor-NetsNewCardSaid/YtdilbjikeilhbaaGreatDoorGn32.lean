import Derived.Test.YtdilbjikeilhbaaGreatDoorGn31
namespace Go.Proofs.YtdilbjikeilhbaaGreatDoor
open Go.RowKit
set_option linter.unusedVariables false
set_option linter.unusedSimpArgs false
def ptrN (g:Nat):Value:=.pointer (some ⟨g,0,none⟩)
def CwAt (w0:World) (c:Cfg) (mi:Int) (p cg bx:Nat) (w:World):Prop:=∃ps,Blk w cg 321 (crewV (ptrN bx) p c.N c.Sl.length (-1) (firstV c) ps).toArray∧w.ownsRow w0.heap.size 324 5 ps (posts0 c.St mi c.St.length).length (postsV (posts0 c.St mi c.St.length))∧(posts0 c.St mi c.St.length=[]→ps=.slice none 0 0)
section
variable {w0 w w':World} {c:Cfg} {mi:Int} {p cg bx:Nat} (h:CwAt w0 c mi p cg bx w)
include h
theorem CwAt.lt:cg<w.heap.size:=by obtain⟨ps,h1,-⟩:=h;exact h1.lt
theorem CwAt.below (hb:Below w.heap.size w w'):CwAt w0 c mi p cg bx w':=by
 obtain⟨ps,h1,h2,h3⟩:=h
 exact⟨ps,h1.below hb h1.lt,own_block h2 fun k e=>hb.block k (h2.lt k e).2,h3⟩
theorem CwAt.far {g:Nat} {t:TypeId} {cs:Array Value} (hg:Blk w g t cs) (h1:t≠321) (h2:324≠t) (hk:∀b,b≠g→w'.heap[b]? =w.heap[b]?):CwAt w0 c mi p cg bx w':=by
 obtain⟨ps,k1,k2,k3⟩:=h
 exact⟨ps,(hk _ (k1.ne_ hg (by exact fun e=>h1 e.symm))).trans k1,own_block k2 fun k e=>hk k fun e2=>own_not k2 hg h2 (by rw [e,e2]),k3⟩
end
structure Fr1 (p:Nat) (c:Cfg) (mi:Int) (w:World) (rg cg bx:Nat) (w2:World):Prop where
 run:Blk w2 rg 314 (ckCells p 0 (0,0,0)).toArray
 crew:CwAt w c mi p cg bx w2
 box:Blk w2 bx 402 (boxV p c.fr).toArray
 lr:w.heap.size≤rg
 lc:w.heap.size≤cg
 lb:w.heap.size≤bx
 bel:Below w.heap.size w w2
theorem fresh_a {p:Nat} {w w1:World} {e:Ending} (h:CkNew p w.drew e w1):∃rg,e=.returned (.pointer (some ⟨rg,0,none⟩))∧Blk w1 rg 314 (ckCells p 0 (0,0,0)).toArray∧w.heap.size≤rg∧Below w.heap.size w w1:=by
 obtain⟨g,rfl,h1,h2,h3⟩:=h
 exact⟨g,rfl,h1,h2,(Below.refl _ _).drew.trans h3⟩
theorem fresh_b {p:Nat} {c:Cfg} {mi:Int} {w w1 w2:World} {rg:Nat} {e:Ending} (h:Blk w1 rg 314 (ckCells p 0 (0,0,0)).toArray∧w.heap.size≤rg∧Below w.heap.size w w1) (h2:CrewNew p c mi w1 e w2):∃cg bx,e=.returned (.pointer (some ⟨cg,0,none⟩))∧Fr1 p c mi w rg cg bx w2:=by
 obtain⟨g,bx,ps,rfl,h3,h4,h5,h6,h7,h8,h9⟩:=h2
 exact⟨g,bx,rfl,h.1.below h7 h.1.lt,⟨ps,h3,⟨h8.1,h8.2.imp id fun ⟨g,cap,cur,e1,e2,e3⟩=>⟨g,cap,cur,e1,Nat.le_trans h.2.2.size e2,e3⟩⟩,h9⟩,h4,h.2.1,Nat.le_trans h.2.2.size h6,Nat.le_trans h.2.2.size h5,h.2.2.trans (h7.mono h.2.2.size)⟩
@[go_sem] theorem cell1_ptr (a:Option Addr):cell1 (.pointer a)=true:=(rfl)
@[go_sem] theorem len_memZ:memZ.length=120:=(rfl)
@[go_sem] theorem len_memN (a0 a1 a2 a3 a4 a5:Value):(memV a0 a1 a2 a3 a4 a5 seenZ false (lookV lk0)).length=120:=(rfl)
@[go_sem] theorem all_memN (a0 a1 a2 a3 a4 a5:Value):(memV a0 a1 a2 a3 a4 a5 seenZ false (lookV lk0)).all cell1=(cell1 a0&&(cell1 a1&&(cell1 a2&&(cell1 a3&&(cell1 a4&&cell1 a5))))):=by
 simp only [memV,List.all_cons,List.all_append]
 rw [show seenZ.all cell1=true from rfl,show (lookV lk0).all cell1=true from rfl]
 simp [show cell1 (Value.bool false)=true from rfl]
@[go_sem] theorem cell1_nilP:cell1 nilP=true:=(rfl)
theorem putN0 {w w2:World} (h:Below w.heap.size w w2) (l:List Value):Below w.heap.size w (putRow w2 ⟨w.heap.size,0,none⟩ l):=Below.put h (Nat.le_refl _) l
theorem putN1 {w w1 w2:World} (hz:w.heap.size≤w1.heap.size) (h:Below w.heap.size w w2) (l:List Value):Below w.heap.size w (putRow w2 ⟨w1.heap.size,0,none⟩ l):=Below.put h hz l
def MemOpt (w w1:World) (b:Bool):Prop:=b=true→Blk w1 w.heap.size 150 memZ.toArray
theorem MemOpt.put {w w1 w2:World} {b:Bool} (h:MemOpt w w1 b) (hb:Below w1.heap.size w1 w2):b=true→canPut w2 ⟨w.heap.size,0,none⟩ 120=true:=fun hh=>(((h hh).below hb (h hh).lt).whole rfl).2.2
theorem MemOpt.below {w w1 w2:World} {b:Bool} (h:MemOpt w w1 b) (hb:Below w1.heap.size w1 w2):MemOpt w w2 b:=fun hh=>(h hh).below hb (h hh).lt
theorem fresh_a2 {p:Nat} {w w1:World} {e:Ending} (h:CkNew p (w.alloc (.cells memZ.toArray 150)).drew e w1):∃rg,e=.returned (.pointer (some ⟨rg,0,none⟩))∧(Blk w1 rg 314 (ckCells p 0 (0,0,0)).toArray∧w.heap.size≤rg∧Below w.heap.size w w1)∧MemOpt w w1 true:=by
 obtain⟨g,rfl,h1,h2,h3⟩:=h
 have hz:w.heap.size≤(w.alloc (.cells memZ.toArray 150)).drew.heap.size:=(balN (Below.refl _ _) _).drew.size
 exact⟨g,rfl,⟨h1,Nat.le_trans hz h2,(balN (Below.refl _ _) _).drew.trans (h3.mono hz)⟩,fun _=>((Blk.new w 150 memZ.toArray).drew).below h3 (ltND _ _)⟩
theorem fresh_b1 {p:Nat} {c:Cfg} {mi:Int} {w w1 w2:World} {rg:Nat} {b:Bool} {e:Ending} (h:Blk w1 rg 314 (ckCells p 0 (0,0,0)).toArray∧w.heap.size≤rg∧Below w.heap.size w w1) (hm:MemOpt w w1 b) (h2:CrewNew p c mi w1 e w2):∃cg bx,e=.returned (.pointer (some ⟨cg,0,none⟩))∧Fr1 p c mi w rg cg bx w2∧MemOpt w w2 b∧(b=true→canPut w2 ⟨w.heap.size,0,none⟩ 120=true):=by
 obtain⟨cg,bx,he,hf⟩:=fresh_b h h2
 obtain⟨g,bx',ps,rfl,h3,h4,h5,h6,h7,-⟩:=h2
 exact⟨cg,bx,he,hf,hm.below h7,hm.put h7⟩
theorem fresh_b2 {p:Nat} {c:Cfg} {mi:Int} {w w1 w2:World} {rg:Nat} {e:Ending} (h:Blk w1 rg 314 (ckCells p 0 (0,0,0)).toArray∧w.heap.size≤rg∧Below w.heap.size w w1) (h2:CrewNew p c mi (w1.alloc (.cells memZ.toArray 150)) e w2):∃cg bx,e=.returned (.pointer (some ⟨cg,0,none⟩))∧Fr1 p c mi w rg cg bx w2∧Blk w2 w1.heap.size 150 memZ.toArray∧canPut w2 ⟨w1.heap.size,0,none⟩ 120=true:=by
 have hB:=balN (Below.refl w1.heap.size w1) (.cells memZ.toArray 150)
 obtain⟨cg,bx,he,hf⟩:=fresh_b (w:=w) (rg:=rg) ⟨h.1.below hB h.1.lt,h.2.1,h.2.2.trans (hB.mono h.2.2.size)⟩ h2
 obtain⟨g,bx',ps,rfl,h3,h4,h5,h6,h7,-⟩:=h2
 have hm:=(Blk.new w1 150 memZ.toArray).below h7 (ltN _ _)
 exact⟨cg,bx,he,hf,hm,(hm.whole rfl).2.2⟩
theorem ndV_cells {w:World} {nb p:Nat} {me:Int} {M:List Value} {en pw:Value} (hM:M.length=120) (h:Blk w nb 153 (ndV M p me en pw).toArray) :
 w.cell? ⟨nb,120,none⟩=some (.pointer (some ⟨p,0,none⟩))∧w.cell? ⟨nb,121,none⟩=some (.int .i64 me)∧w.cell? ⟨nb,122,none⟩=some en∧w.cell? ⟨nb,123,none⟩=some pw:=by
 refine⟨?_,?_,?_,?_⟩ <;> rw [h.cell,List.getElem?_toArray,ndV,List.getElem?_append_right (by omega),hM] <;> rfl
theorem Fr1.put {p:Nat} {c:Cfg} {mi:Int} {w:World} {rg cg bx mb:Nat} {w2:World} (h:Fr1 p c mi w rg cg bx w2) {z:List Value} (hm:Blk w2 mb 150 z.toArray) (hz:w.heap.size≤mb) {l:List Value} (hl:z.length=l.length):Fr1 p c mi w rg cg bx (putRow w2 ⟨mb,0,none⟩ l)∧Blk (putRow w2 ⟨mb,0,none⟩ l) mb 150 l.toArray:=
 ⟨⟨(putRow_other _ _ _ _ (h.run.ne_ hm (by decide))).trans h.run,h.crew.far hm (by decide) (by decide) fun b hb=>putRow_other _ _ _ _ hb,(putRow_other _ _ _ _ (h.box.ne_ hm (by decide))).trans h.box,h.lr,h.lc,h.lb,Below.put h.bel hz _⟩,hm.put_all hl⟩
theorem Fr1.below {p:Nat} {c:Cfg} {mi:Int} {w:World} {rg cg bx:Nat} {w2 w3:World} (h:Fr1 p c mi w rg cg bx w2) (hb:Below w2.heap.size w2 w3):Fr1 p c mi w rg cg bx w3:=
 ⟨h.run.below hb h.run.lt,h.crew.below hb,h.box.below hb h.box.lt,h.lr,h.lc,h.lb,h.bel.trans (hb.mono h.bel.size)⟩
def FrCut (p:Nat) (c:Cfg) (mi:Int) (w:World) (s2:Value) (wx:World):Prop:=∃wc,wc=wx∧∃mb rg cg bx,s2=.pointer (some ⟨mb,0,none⟩)∧Fr1 p c mi w rg cg bx wc∧w.heap.size≤mb∧Blk wc mb 150 (memV nilP nilP nilP (ptrN rg) nilP (ptrN cg) seenZ false (lookV lk0)).toArray
theorem Fr1.cut3 {p:Nat} {c:Cfg} {mi:Int} {w:World} {rg cg bx:Nat} {w2:World} (h:Fr1 p c mi w rg cg bx w2):FrCut p c mi w (.pointer (some ⟨w2.heap.size,0,none⟩)) (w2.alloc (.cells (memV nilP nilP nilP (ptrN rg) nilP (ptrN cg) seenZ false (lookV lk0)).toArray 150)):=
 ⟨_,rfl,_,rg,cg,bx,rfl,h.below (balN (Below.refl _ _) _),h.bel.size,Blk.new _ _ _⟩
theorem Fr1.cut2 {p:Nat} {c:Cfg} {mi:Int} {w:World} {rg cg bx mb:Nat} {w2:World} (h:Fr1 p c mi w rg cg bx w2) (hm:Blk w2 mb 150 memZ.toArray) (hz:w.heap.size≤mb):FrCut p c mi w (.pointer (some ⟨mb,0,none⟩)) (putRow w2 ⟨mb,0,none⟩ (memV nilP nilP nilP (ptrN rg) nilP (ptrN cg) seenZ false (lookV lk0))):=by
 obtain⟨h1,h2⟩:=h.put hm hz (l:=memV nilP nilP nilP (ptrN rg) nilP (ptrN cg) seenZ false (lookV lk0)) rfl
 exact⟨_,rfl,mb,rg,cg,bx,rfl,h1,hz,h2⟩
structure Fr2 (p:Nat) (c:Cfg) (mi:Int) (w:World) (rg cg bx mb:Nat) (a0 a1 a2 a4:Value) (wx:World):Prop where
 f:Fr1 p c mi w rg cg bx wx
 lm:w.heap.size≤mb
 m:Blk wx mb 150 (memV a0 a1 a2 (ptrN rg) a4 (ptrN cg) seenZ false (lookV lk0)).toArray
theorem Fr2.below {p:Nat} {c:Cfg} {mi:Int} {w:World} {rg cg bx mb:Nat} {a0 a1 a2 a4:Value} {w2 w3:World} (h:Fr2 p c mi w rg cg bx mb a0 a1 a2 a4 w2) (hb:Below w2.heap.size w2 w3):Fr2 p c mi w rg cg bx mb a0 a1 a2 a4 w3:=⟨h.f.below hb,h.lm,h.m.below hb h.m.lt⟩
theorem Fr2.set {p:Nat} {c:Cfg} {mi:Int} {w:World} {rg cg bx mb:Nat} {a0 a1 a2 a4:Value} {w2:World} (h:Fr2 p c mi w rg cg bx mb a0 a1 a2 a4 w2) (i:Nat) (v:Value) {b0 b1 b2 b4:Value} (he:(memV a0 a1 a2 (ptrN rg) a4 (ptrN cg) seenZ false (lookV lk0)).set i v=memV b0 b1 b2 (ptrN rg) b4 (ptrN cg) seenZ false (lookV lk0)):Fr2 p c mi w rg cg bx mb b0 b1 b2 b4 (w2.setCell ⟨mb,i,none⟩ v):=by
 have hk:=h.m.set_ i v
 rw [List.setIfInBounds_toArray,he] at hk
 exact⟨⟨h.f.run.far (h.f.run.ne_ h.m (by decide)) _,h.f.crew.far h.m (by decide) (by decide) (fun b hb=>Below.heap_setCell _ _ _ _ hb),h.f.box.far (h.f.box.ne_ h.m (by decide)) _,h.f.lr,h.f.lc,h.f.lb,h.f.bel.setCell h.lm v⟩,h.lm,hk⟩
def FrL (n me:Nat) (w:World) (mb lp gp:Nat) (lo hi:Nat) (wx:World):Prop:=LaneAt (fun b=>lo≤b∧b<hi) wx lp gp (fun _=>0) (LaneM.new n me)∧w.heap.size≤lo∧mb<lo∧hi≤wx.heap.size
theorem fresh_l {p:Nat} {c:Cfg} {mi:Int} {w:World} {rg cg bx mb n me:Nat} {a0 a1 a2 a4:Value} {wc w3:World} {e:Ending} (h:Fr2 p c mi w rg cg bx mb a0 a1 a2 a4 wc) (hl:NewLane n me wc.drew e w3):∃lp gp,e=.returned (.tuple #[.pointer (some ⟨lp,0,none⟩),.int .i64 0])∧Fr2 p c mi w rg cg bx mb a0 a1 a2 a4 w3∧FrL n me w mb lp gp wc.heap.size w3.heap.size w3∧w3.cell? ⟨mb,0,none⟩=some a0∧w3.frozen? ⟨mb,0,none⟩=false:=by
 obtain⟨lp,gp,rfl,h1,h2⟩:=hl
 have h3:=h.below ((Below.refl _ _).drew.trans h2)
 exact⟨lp,gp,rfl,h3,⟨h1,h.f.bel.size,h.m.lt,Nat.le_refl _⟩,h3.m.cell 0,h3.m.frozen 0⟩
theorem FrL.set {n me:Nat} {w:World} {mb lp gp lo hi:Nat} {wx:World} (h:FrL n me w mb lp gp lo hi wx) (i:Nat) (v:Value):FrL n me w mb lp gp lo hi (wx.setCell ⟨mb,i,none⟩ v):=
 ⟨h.1.keep (by simp) fun b hb _=>Below.heap_setCell _ _ _ b (by have:=h.2.2.1;simp only;omega),h.2.1,h.2.2.1,by simpa using h.2.2.2⟩
theorem FrL.below {n me:Nat} {w:World} {mb lp gp lo hi:Nat} {wx w':World} (h:FrL n me w mb lp gp lo hi wx) (hb:Below wx.heap.size wx w'):FrL n me w mb lp gp lo hi w':=⟨h.1.below hb,h.2.1,h.2.2.1,Nat.le_trans h.2.2.2 hb.size⟩
theorem FrL.other {n me:Nat} {w:World} {mb lp gp lo hi:Nat} {wx w':World} (h:FrL n me w mb lp gp lo hi wx) (hs:w'.heap.size=wx.heap.size) {g:Nat} (hg:g<lo) (hk:∀b,b≠g→w'.heap[b]? =wx.heap[b]?):FrL n me w mb lp gp lo hi w':=⟨h.1.keep (by omega) fun b hb _=>hk b (by omega),h.2.1,h.2.2.1,by rw [hs];exact h.2.2.2⟩
theorem setN {w w2:World} {mb i:Nat} (hz:w.heap.size≤mb) (h:Below w.heap.size w w2) (v:Value):Below w.heap.size w (w2.setCell ⟨mb,i,none⟩ v):=h.setCell hz v
theorem fresh_f {p:Nat} {c:Cfg} {mi:Int} {w:World} {rg cg bx mb:Nat} {me:Int} {a0 a1 a2 a4:Value} {w8 w9:World} {e:Ending} (h:Fr2 p c mi w rg cg bx mb a0 a1 a2 a4 w8) (hl:FlowNew p me w8.drew e w9):∃fb fv,e=.returned (.tuple #[.pointer (some ⟨fb,0,none⟩),.int .i64 0])∧Fr2 p c mi w rg cg bx mb a0 a1 a2 a4 w9∧(Blk w9 fb 338 (flowV p me fv).toArray∧w8.heap.size≤fb)∧Below w8.heap.size w8 w9∧w9.cell? ⟨mb,4,none⟩=some a4∧w9.frozen? ⟨mb,4,none⟩=false:=by
 obtain⟨fb,fv,rfl,h1,h2,h4⟩:=hl
 have hb:=(Below.refl w8.heap.size w8).drew.trans h4
 have h3:=h.below hb
 exact⟨fb,fv,rfl,h3,⟨h1,h2⟩,hb,h3.m.cell 4,h3.m.frozen 4⟩
@[go_sem] theorem len_lookF (st a b:Value) (c:Cfg):(lookW st a b (firstV c)).length=63:=by simp [lookW,saidZ,len_firstV]
@[go_sem] theorem all_lookF (k:IntKind) (a b s:Int) (c:Cfg):(lookW (.int k s) (.int .i64 a) (.int .i64 b) (firstV c)).all cell1=true:=by
 simp only [lookW,List.all_cons,List.all_append,all_firstV]
 rfl
theorem memV_split (a0 a1 a2 a3 a4 a5:Value) (seen L:List Value) (told:Bool):memV a0 a1 a2 a3 a4 a5 seen told L=(a0 :: a1 :: a2 :: a3 :: a4 :: a5 :: (seen++ [.bool told]))++L:=by simp [memV]
theorem memV_put (a0 a1 a2 a3 a4 a5:Value) {seen L l:List Value} (told:Bool) (h1:seen.length=50) (h2:L.length=63) (h3:l.length=63):(memV a0 a1 a2 a3 a4 a5 seen told L).take 57++l++(memV a0 a1 a2 a3 a4 a5 seen told L).drop (57+l.length)=memV a0 a1 a2 a3 a4 a5 seen told l:=by
 rw [memV_split,List.take_left' (by simp [h1]),List.drop_eq_nil_of_le (by simp [h1,h2,h3]),List.append_nil,memV_split]
theorem ndV_put {M l:List Value} {p:Nat} {me:Int} {en pw:Value} (h:M.length=120) (h2:l.length=120):(ndV M p me en pw).take 0++l++(ndV M p me en pw).drop (0+l.length)=ndV l p me en pw:=by
 rw [List.take_zero,List.nil_append,Nat.zero_add,h2,ndV,List.drop_left' h]
 rfl
def FreshP (p:Nat) (c:Cfg) (n me:Nat) (nb:Nat) (en pw:Value) (w:World) (e:Ending) (w':World):Prop:=e=.returned (.tuple #[])∧∃lp gp lo hi ckb cqb rg fb fv cg bx,
 Blk w' nb 153 (ndV (memV (ptrN lp) (ptrN ckb) (ptrN cqb) (ptrN rg) (ptrN fb) (ptrN cg) seenZ false (lookV (lkN (-1) (-1) (firstV c)))) p me en pw).toArray∧
 LaneAt (fun b=>lo≤b∧b<hi) w' lp gp (fun _=>0) (LaneM.new n me)∧Blk w' ckb 330 #[.int .i64 (n:Int),.slice none 0 0]∧Blk w' cqb 334 (cqCells 0 (2*n) n)∧
 Blk w' rg 314 (ckCells p 0 (0,0,0)).toArray∧Blk w' fb 338 (flowV p me fv).toArray∧CwAt w c me p cg bx w'∧Blk w' bx 402 (boxV p c.fr).toArray∧
 w.heap.size≤lo∧(w.heap.size≤rg∧rg<lo)∧(w.heap.size≤cg∧cg<lo)∧(w.heap.size≤bx∧bx<lo)∧hi≤ckb∧hi≤cqb∧hi≤fb∧Chg (· =nb) w w'
def NewAt (t:TypeId) (cs:Array Value) (w:World) (e:Ending) (w':World):Prop:=∃g,e=.returned (.tuple #[.pointer (some ⟨g,0,none⟩),.int .i64 0])∧Blk w' g t cs∧w.heap.size≤g∧Below w.heap.size w w'
set_option maxRecDepth 100000 in
set_option maxHeartbeats 2000000 in
theorem fresh_any (S:Nat→Prop) (p:Nat) (A:CfA) (q:Nat) (c:Cfg) (me:Nat) (nb:Nat) (M:List Value) (en pw:Value) (w:World) (h:NetAt S w p A q c) (hok:RefOk c) (h1:(me:Int)<c.N) (hM:M.length=120) (hn:Blk w nb 153 (ndV M p me en pw).toArray) (hS:¬S nb) :
 Calls Tryz.prog 42 #[.pointer (some ⟨nb,0,none⟩)] w (FreshP p c c.N.toNat me nb en pw w):=by
 have HCk:Hid (∀w',Below w.heap.size w w'→Calls Tryz.prog 83 #[.pointer (some ⟨p,0,none⟩)] w' (CkNew p w')):=Lib.hid fun w' hb=>cknew_any S p A q c w' (NetTab.at_ h hb) hok
 have HCr:Hid (∀w',Below w.heap.size w w'→Calls Tryz.prog 84 #[.pointer (some ⟨p,0,none⟩),.int .i64 me] w' (CrewNew p c me w')):=Lib.hid fun w' hb=>crewnew_any S p A q c me w' (NetTab.at_ h hb) hok (by omega) h1
 obtain⟨n0,n1,n2,n3⟩:=ndV_cells hM hn
 have hnl:=hn.lt
 have FA:Hid (∀w',Below w.heap.size w w'→w'.cell? ⟨nb,120,none⟩=some (.pointer (some ⟨p,0,none⟩))∧w'.cell? ⟨nb,121,none⟩=some (.int .i64 (me:Int))):=Lib.hid fun w' hb=>⟨(hb.cell (p:=⟨nb,120,none⟩) hnl).trans n0,(hb.cell (p:=⟨nb,121,none⟩) hnl).trans n1⟩
 have HN:=Lib.hid (And.intro h hn)
 have hNN:=Lib.hid hok.n
 have hOK:=Lib.hid hok
 have HM:=Lib.hid hM
 clear h hok hM hn hS n2 n3
 go_enter Tryz.func42,Tryz.ntmps42
 go_upto_region 0 with fail
 go_cut [2] from 3 to 17 (fun s2 wx=>FrCut p c me w s2 wx)
 case first=>
  go_region_held3 (fun w'=>w'.cell? ⟨nb,120,none⟩=some (.pointer (some ⟨p,0,none⟩))∧w'.cell? ⟨nb,121,none⟩=some (.int .i64 (me:Int)))
   (((with_reducible refine FA.out _ ?_);repeat' (with_reducible first | exact HX2.out.bel | exact HX1.out.2.2 | exact Below.refl _ _ | refine Below.drew ?_ | refine balN ?_ _ | refine putN0 ?_ _ | refine putN1 HX1.out.2.2.size ?_ _)))
   ((first
     | (go_at_call 83;(with_reducible refine (HCk.out w.drew (Below.refl _ _).drew).mono ?_);intro e w1 h3;obtain⟨rg,rfl,hx1⟩:=fresh_a h3;have HX1:=Lib.hid hx1;have HM1:Hid (MemOpt w w1 false):=Lib.hid (fun h=>by cases h);clear h3 hx1)
     | (go_at_call 83;(with_reducible refine (HCk.out (w.alloc (.cells memZ.toArray 150)).drew (balN (Below.refl _ _) _).drew).mono ?_);intro e w1 h3;obtain⟨rg,rfl,hx1,hm1⟩:=fresh_a2 h3;have HX1:=Lib.hid hx1;have HM1:=Lib.hid hm1;clear h3 hx1 hm1)
     | (go_at_call 84;(with_reducible refine (HCr.out w1 HX1.out.2.2).mono ?_);intro e w2 h4;obtain⟨cg,bx,rfl,hx2,hm2,hcp2⟩:=fresh_b1 HX1.out HM1.out h4;have HX2:=Lib.hid hx2;have HM2:=Lib.hid hm2;clear h4 hx2 hm2)
     | (go_at_call 84;(with_reducible refine (HCr.out (w1.alloc (.cells memZ.toArray 150)) (balN HX1.out.2.2 _)).mono ?_);intro e w2 h4;obtain⟨cg,bx,rfl,hx2,hm2,hcp2⟩:=fresh_b2 HX1.out h4;have HX2:=Lib.hid hx2;have HM2:=Lib.hid hm2;clear h4 hx2 hm2)))
  all_goals go_wp2_with fail
  all_goals go_meet
  all_goals first | exact HX2.out.cut3 | exact HX2.out.cut2 HM2.out HX1.out.2.2.size | exact HX2.out.cut2 (HM2.out rfl) (Nat.le_refl _)
 case rest=>
  obtain⟨wc,rfl,mb,rg,cg,bx,rfl,hf,hmb,hm⟩:=hcut
  have HX:Hid (Fr2 p c me w rg cg bx mb nilP nilP nilP nilP wc):=Lib.hid ⟨hf,hmb,hm⟩
  obtain⟨n,hN⟩:∃n:Nat,Hid (c.N=n):=⟨c.N.toNat,Lib.hid (by omega)⟩
  have hpl:=HN.out.1.blk.lt
  have FB:Hid (∀w',Below w.heap.size w w'→w'.cell? ⟨nb,120,none⟩=some (.pointer (some ⟨p,0,none⟩))∧w'.cell? ⟨nb,121,none⟩=some (.int .i64 (me:Int))∧w'.cell? ⟨p,0,none⟩=some (.int .i64 (n:Int))):=Lib.hid fun w' hb=>⟨(FA.out w' hb).1,(FA.out w' hb).2,by rw [(hb.cell (p:=⟨p,0,none⟩) hpl),HN.out.1.cells.c0,hN.out]⟩
  have HLn:Hid (∀w',Calls Tryz.prog 85 #[.int .i64 (n:Int),.int .i64 (me:Int)] w' (NewLane n me w')):=Lib.hid fun w'=>new_ok n me (by have:=hN.out;have:=hNN.out;omega) (by have:=hN.out;have:=hNN.out;omega) (by have:=hN.out;omega) w'
  obtain⟨f0,f1,f2⟩:=FB.out wc hf.bel
  have HBc:Hid (Below w.heap.size w wc):=Lib.hid hf.bel
  clear hf hmb hm n0 n1 HCk HCr
  go_upto_region 1 with fail
  go_region_held3 (fun w'=>w'.cell? ⟨nb,120,none⟩=some (.pointer (some ⟨p,0,none⟩))∧w'.cell? ⟨nb,121,none⟩=some (.int .i64 (me:Int))∧w'.cell? ⟨p,0,none⟩=some (.int .i64 (n:Int)))
   (((with_reducible refine FB.out _ ?_);repeat' (with_reducible first | exact HX1.out.f.bel | exact HBc.out | refine Below.drew ?_ | refine setN HX.out.lm ?_ _)))
   ((go_at_call 85;(with_reducible refine (HLn.out wc.drew).mono ?_);intro e w3 h3;obtain⟨lp,gp,rfl,hx1,hl1,mc,mf⟩:=fresh_l HX.out h3;have HX1:=Lib.hid hx1;have HL1:=Lib.hid hl1;clear h3 hx1 hl1))
  have hw3:Hid (w.heap.size≤w3.heap.size):=Lib.hid HX1.out.f.bel.size
  have HX2:Hid (Fr2 p c me w rg cg bx mb (ptrN lp) nilP nilP nilP (w3.setCell ⟨mb,0,none⟩ (.pointer (some ⟨lp,0,none⟩)))):=Lib.hid (HX1.out.set 0 _ rfl)
  have HL2:=Lib.hid (HL1.out.set 0 (.pointer (some ⟨lp,0,none⟩)))
  generalize w3.setCell ⟨mb,0,none⟩ (.pointer (some ⟨lp,0,none⟩))=w4 at HX2 HL2 ⊢
  have HA:Hid (∀w',Calls Tryz.prog 86 #[.int .i64 (n:Int)] w' (NewAt 330 #[.int .i64 (n:Int),.slice none 0 0] w')):=Lib.hid fun w'=>by
   refine (agnew_ok n w' (by have:=hN.out;have:=hNN.out;omega) (by have:=hN.out;have:=hNN.out;omega)).mono ?_
   rintro e w2 ⟨rfl,rfl⟩
   exact⟨_,rfl,Blk.new _ _ _,Nat.le_refl _,balN (Below.refl _ _) _⟩
  have HQ:Hid (∀w',Calls Tryz.prog 87 #[.int .i64 (n:Int)] w' (NewAt 334 (cqCells 0 (2*n) n) w')):=Lib.hid fun w'=>by
   refine (cqnew_ok n w' (by have:=hN.out;have:=hNN.out;omega) (by have:=hN.out;have:=hNN.out;omega)).mono ?_
   rintro e w2 ⟨rfl,rfl⟩
   exact⟨_,rfl,Blk.new _ _ _,Nat.le_refl _,balN (Below.refl _ _) _⟩
  obtain⟨i0,i1,i2⟩:=FB.out w4 HX2.out.f.bel
  clear mc mf f0 f1 f2
  go_upto_region 2 with fail
  go_wp2_with fail
  (with_reducible refine (HA.out _).mono ?_)
  rintro e w5 ⟨ckb,rfl,hk,hg,hb⟩
  have hck:Hid (w3.heap.size≤ckb):=Lib.hid (Nat.le_trans HL2.out.2.2.2 hg)
  have HX3:=Lib.hid (HX2.out.below hb)
  have HL3:=Lib.hid (HL2.out.below hb)
  have HC3:=Lib.hid (And.intro hk (Nat.le_trans HX2.out.f.bel.size hg))
  have mc:w5.cell? ⟨mb,1,none⟩=some nilP:=HX3.out.m.cell 1
  have mf:w5.frozen? ⟨mb,1,none⟩=false:=HX3.out.m.frozen 1
  clear hk hg hb i0 i1 i2
  have HX4:Hid (Fr2 p c me w rg cg bx mb (ptrN lp) (ptrN ckb) nilP nilP (w5.setCell ⟨mb,1,none⟩ (.pointer (some ⟨ckb,0,none⟩)))):=Lib.hid (HX3.out.set 1 _ rfl)
  have HL4:=Lib.hid (HL3.out.set 1 (.pointer (some ⟨ckb,0,none⟩)))
  have HC4:Hid (Blk (w5.setCell ⟨mb,1,none⟩ (.pointer (some ⟨ckb,0,none⟩))) ckb 330 #[.int .i64 (n:Int),.slice none 0 0]):=Lib.hid (HC3.out.1.far (HC3.out.1.ne_ HX3.out.m (by decide)) _)
  go_upto_region 3 with fail
  generalize w5.setCell ⟨mb,1,none⟩ (.pointer (some ⟨ckb,0,none⟩))=w6 at HX4 HL4 HC4 ⊢
  obtain⟨i0,i1,i2⟩:=FB.out w6 HX4.out.f.bel
  clear mc mf
  go_wp2_with fail
  (with_reducible refine (HQ.out _).mono ?_)
  rintro e w7 ⟨cqb,rfl,hk,hg,hb⟩
  have hcq:Hid (w3.heap.size≤cqb):=Lib.hid (Nat.le_trans HL4.out.2.2.2 hg)
  have HX5:=Lib.hid (HX4.out.below hb)
  have HL5:=Lib.hid (HL4.out.below hb)
  have HC5:=Lib.hid (HC4.out.below hb HC4.out.lt)
  have HQ5:=Lib.hid (And.intro hk (Nat.le_trans HX4.out.f.bel.size hg))
  have mc:w7.cell? ⟨mb,2,none⟩=some nilP:=HX5.out.m.cell 2
  have mf:w7.frozen? ⟨mb,2,none⟩=false:=HX5.out.m.frozen 2
  have HX6:Hid (Fr2 p c me w rg cg bx mb (ptrN lp) (ptrN ckb) (ptrN cqb) nilP (w7.setCell ⟨mb,2,none⟩ (.pointer (some ⟨cqb,0,none⟩)))):=Lib.hid (HX5.out.set 2 _ rfl)
  have HL6:=Lib.hid (HL5.out.set 2 (.pointer (some ⟨cqb,0,none⟩)))
  have HC6:Hid (Blk (w7.setCell ⟨mb,2,none⟩ (.pointer (some ⟨cqb,0,none⟩))) ckb 330 #[.int .i64 (n:Int),.slice none 0 0]):=Lib.hid (HC5.out.far (HC5.out.ne_ HX5.out.m (by decide)) _)
  have HQ6:Hid (Blk (w7.setCell ⟨mb,2,none⟩ (.pointer (some ⟨cqb,0,none⟩))) cqb 334 (cqCells 0 (2*n) n)):=Lib.hid (HQ5.out.1.far (HQ5.out.1.ne_ HX5.out.m (by decide)) _)
  clear hk hg hb i0 i1 i2
  go_upto_region 4 with fail
  generalize w7.setCell ⟨mb,2,none⟩ (.pointer (some ⟨cqb,0,none⟩))=w8 at HX6 HL6 HC6 HQ6 ⊢
  obtain⟨i0,i1,i2⟩:=FB.out w8 HX6.out.f.bel
  have HB8:Hid (Below w.heap.size w w8):=Lib.hid HX6.out.f.bel
  have HFl:Hid (∀w',Below w.heap.size w w'→Calls Tryz.prog 88 #[.pointer (some ⟨p,0,none⟩),.int .i64 (me:Int)] w' (FlowNew p me w')):=Lib.hid fun w' hb=>flownew_any S p A q c me w' (NetTab.at_ HN.out.1 hb) hOK.out (by omega) h1
  clear mc mf
  go_region_held3 (fun w'=>w'.cell? ⟨nb,120,none⟩=some (.pointer (some ⟨p,0,none⟩))∧w'.cell? ⟨nb,121,none⟩=some (.int .i64 (me:Int))∧w'.cell? ⟨p,0,none⟩=some (.int .i64 (n:Int)))
   (((with_reducible refine FB.out _ ?_);repeat' (with_reducible first | exact HX7.out.f.bel | exact HB8.out | refine Below.drew ?_ | refine setN HX.out.lm ?_ _)))
   ((go_at_call 88;(with_reducible refine (HFl.out w8.drew HB8.out.drew).mono ?_);intro e w9 h3;obtain⟨fb,fv,rfl,hx7,hfl,hb7,mc,mf⟩:=fresh_f HX6.out h3;have HX7:=Lib.hid hx7;have HF7:=Lib.hid hfl;have HB7:=Lib.hid hb7;clear h3 hx7 hfl hb7))
  have hfb:Hid (w3.heap.size≤fb):=Lib.hid (Nat.le_trans HL6.out.2.2.2 HF7.out.2)
  have HX8:Hid (Fr2 p c me w rg cg bx mb (ptrN lp) (ptrN ckb) (ptrN cqb) (ptrN fb) (w9.setCell ⟨mb,4,none⟩ (.pointer (some ⟨fb,0,none⟩)))):=Lib.hid (HX7.out.set 4 _ rfl)
  have HL8:=Lib.hid ((HL6.out.below HB7.out).set 4 (.pointer (some ⟨fb,0,none⟩)))
  have hc7:=HC6.out.below HB7.out HC6.out.lt
  have hq7:=HQ6.out.below HB7.out HQ6.out.lt
  have HC8:Hid (Blk (w9.setCell ⟨mb,4,none⟩ (.pointer (some ⟨fb,0,none⟩))) ckb 330 #[.int .i64 (n:Int),.slice none 0 0]∧Blk (w9.setCell ⟨mb,4,none⟩ (.pointer (some ⟨fb,0,none⟩))) cqb 334 (cqCells 0 (2*n) n)∧Blk (w9.setCell ⟨mb,4,none⟩ (.pointer (some ⟨fb,0,none⟩))) fb 338 (flowV p me fv).toArray):=Lib.hid ⟨hc7.far (hc7.ne_ HX7.out.m (by decide)) _,hq7.far (hq7.ne_ HX7.out.m (by decide)) _,HF7.out.1.far (HF7.out.1.ne_ HX7.out.m (by decide)) _⟩
  clear hc7 hq7
  generalize w9.setCell ⟨mb,4,none⟩ (.pointer (some ⟨fb,0,none⟩))=w10 at HX8 HL8 HC8 ⊢
  clear mc mf i0 i1 i2
  have m5:w10.cell? ⟨mb,5,none⟩=some (.pointer (some ⟨cg,0,none⟩)):=HX8.out.m.cell 5
  obtain⟨pz,hpz,-⟩:=HX8.out.f.crew
  have HV:=Lib.hid (crewview_any cg p (ptrN bx) pz c.N c.Sl.length (-1) (firstV c) (len_firstV c) (all_firstV c) w10 hpz)
  clear hpz
  go_upto_region 5 with fail
  go_wp2_with fail
  (with_reducible refine HV.out.mono ?_)
  rintro e w11 ⟨rfl,hb⟩
  have HX9:=Lib.hid (HX8.out.below hb)
  have HL9:=Lib.hid (HL8.out.below hb)
  have HC9:Hid (Blk w11 ckb 330 #[.int .i64 (n:Int),.slice none 0 0]∧Blk w11 cqb 334 (cqCells 0 (2*n) n)∧Blk w11 fb 338 (flowV p me fv).toArray):=Lib.hid ⟨HC8.out.1.below hb HC8.out.1.lt,HC8.out.2.1.below hb HC8.out.2.1.lt,HC8.out.2.2.below hb HC8.out.2.2.lt⟩
  have cp1:canPut w11 ⟨mb,57,none⟩ 63=true:=by
   rw [HX9.out.m.rules.2.2.2.2];rfl
  have hoth:∀b,b≠mb→(putRow w11 ⟨mb,57,none⟩ (lookW (.int .u8 0) (.int .i64 (-1)) (.int .i64 (-1)) (firstV c))).heap[b]? =w11.heap[b]?:=fun b hb=>putRow_other _ _ _ _ hb
  have hm12:Blk (putRow w11 ⟨mb,57,none⟩ (lookW (.int .u8 0) (.int .i64 (-1)) (.int .i64 (-1)) (firstV c))) mb 150 (memV (ptrN lp) (ptrN ckb) (ptrN cqb) (ptrN rg) (ptrN fb) (ptrN cg) seenZ false (lookV (lkN (-1) (-1) (firstV c)))).toArray:=by
   have:=HX9.out.m.put 57 (lookW (.int .u8 0) (.int .i64 (-1)) (.int .i64 (-1)) (firstV c))
   rwa [memV_put _ _ _ _ _ _ false seenZ_len (lookV_len (k:=lk0) ⟨rfl,rfl,rfl⟩) (len_lookF _ _ _ c),lookW_eq] at this
  have hf12:Fr1 p c me w rg cg bx (putRow w11 ⟨mb,57,none⟩ (lookW (.int .u8 0) (.int .i64 (-1)) (.int .i64 (-1)) (firstV c))):=⟨(hoth _ (HX9.out.f.run.ne_ HX9.out.m (by decide))).trans HX9.out.f.run,HX9.out.f.crew.far HX9.out.m (by decide) (by decide) hoth,(hoth _ (HX9.out.f.box.ne_ HX9.out.m (by decide))).trans HX9.out.f.box,HX9.out.f.lr,HX9.out.f.lc,HX9.out.f.lb,Below.put HX9.out.f.bel HX9.out.lm _⟩
  have HX12:=Lib.hid (And.intro hm12 hf12)
  have HL12:=Lib.hid (HL9.out.other (w':=putRow w11 ⟨mb,57,none⟩ (lookW (.int .u8 0) (.int .i64 (-1)) (.int .i64 (-1)) (firstV c))) (by simp) HL9.out.2.2.1 hoth)
  have HC12:Hid (Blk (putRow w11 ⟨mb,57,none⟩ (lookW (.int .u8 0) (.int .i64 (-1)) (.int .i64 (-1)) (firstV c))) ckb 330 #[.int .i64 (n:Int),.slice none 0 0]∧Blk (putRow w11 ⟨mb,57,none⟩ (lookW (.int .u8 0) (.int .i64 (-1)) (.int .i64 (-1)) (firstV c))) cqb 334 (cqCells 0 (2*n) n)∧Blk (putRow w11 ⟨mb,57,none⟩ (lookW (.int .u8 0) (.int .i64 (-1)) (.int .i64 (-1)) (firstV c))) fb 338 (flowV p me fv).toArray):=Lib.hid ⟨(hoth _ (HC9.out.1.ne_ HX9.out.m (by decide))).trans HC9.out.1,(hoth _ (HC9.out.2.1.ne_ HX9.out.m (by decide))).trans HC9.out.2.1,(hoth _ (HC9.out.2.2.ne_ HX9.out.m (by decide))).trans HC9.out.2.2⟩
  clear hb m5 hoth hm12 hf12
  go_upto_region 6 with fail
  generalize putRow w11 ⟨mb,57,none⟩ (lookW (.int .u8 0) (.int .i64 (-1)) (.int .i64 (-1)) (firstV c))=w12 at HX12 HL12 HC12 ⊢
  obtain⟨mv,hmv⟩:∃mv,Hid (mv=(memV (ptrN lp) (ptrN ckb) (ptrN cqb) (ptrN rg) (ptrN fb) (ptrN cg) seenZ false (lookV (lkN (-1) (-1) (firstV c))))):=⟨_,Lib.hid rfl⟩
  have hml:mv.length=120:=by rw [hmv.out];exact memV_len seenZ_len (lookV_len ⟨rfl,len_firstV c,rfl⟩)
  have hma:mv.all cell1=true:=by
   rw [hmv.out,←lookW_eq]
   simp only [memV,List.all_cons,List.all_append,all_lookF]
   rfl
  have hk12:Blk w12 mb 150 mv.toArray:=by rw [hmv.out];exact HX12.out.1
  obtain⟨r1,r2,-⟩:=hk12.whole hml
  have hnb:Blk w12 nb 153 (ndV M p me en pw).toArray:=HN.out.2.below HX12.out.2.bel hnl
  have cp2:canPut w12 ⟨nb,0,none⟩ 120=true:=by
   rw [hnb.rules.2.2.2.2]
   simp [ndV,HM.out]
  have HE:Hid (FreshP p c c.N.toNat me nb en pw w (.returned (.tuple #[])) (putRow w12 ⟨nb,0,none⟩ mv)):=Lib.hid (by
   have hoth:∀b,b≠nb→(putRow w12 ⟨nb,0,none⟩ mv).heap[b]? =w12.heap[b]?:=fun b hb=>putRow_other _ _ _ _ hb
   have hn2:c.N.toNat=n:=by have:=hN.out;omega
   have hnd:=hnb.put 0 mv
   rw [ndV_put HM.out hml,hmv.out] at hnd
   have hlt:∀b,w.heap.size≤b→b≠nb:=fun b hb=>by omega
   have hlo:=HL12.out.2.1
   rw [hn2,hmv.out]
   exact⟨rfl,lp,gp,wc.heap.size,w3.heap.size,ckb,cqb,rg,fb,fv,cg,bx,hnd,HL12.out.1.keep (by simp) (fun b hb _=>putRow_other _ _ _ _ (hlt b (by omega))),
    (hmv.out ▸ hoth _ (hlt _ (by have:=hck.out;have:=hw3.out;omega))).trans HC12.out.1,(hmv.out ▸ hoth _ (hlt _ (by have:=hcq.out;have:=hw3.out;omega))).trans HC12.out.2.1,
    (hmv.out ▸ hoth _ (hlt _ HX12.out.2.lr)).trans HX12.out.2.run,(hmv.out ▸ hoth _ (hlt _ (by have:=hfb.out;have:=hw3.out;omega))).trans HC12.out.2.2,(by rw [←hmv.out];exact HX12.out.2.crew.far hnb (by decide) (by decide) hoth),(hmv.out ▸ hoth _ (hlt _ HX12.out.2.lb)).trans HX12.out.2.box,
    hlo,⟨HX.out.f.lr,HX.out.f.run.lt⟩,⟨HX.out.f.lc,HX.out.f.crew.lt⟩,⟨HX.out.f.lb,HX.out.f.box.lt⟩,hck.out,hcq.out,hfb.out,Chg.put (S:=(· =nb)) (p:=⟨nb,0,none⟩) (Chg.of_below HX12.out.2.bel _) (.inl rfl) _⟩)
  clear hk12 hnb
  go_wp2_with fail
  go_end0
  exact HE.out
end Go.Proofs.YtdilbjikeilhbaaGreatDoor
