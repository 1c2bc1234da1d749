/-
  Nodes (chapter 30): where a node lies, and what stays, in the middle of a tick. Nodes (chapter 30): a node, a net that is not there, or that no call made.
-/
import Derived.Test.YtnckfjmaochnkaaGreatDoorGd42
import Derived.Test.YtnckfjmaochnkaaGreatDoorGd19
import Derived.Test.YtnckfjmaochnkaaGreatDoorGd01
import Derived.BigQuiet
import Derived.WalkMore
import Derived.ScopeJumps
namespace Go.Proofs.YtnckfjmaochnkaaGreatDoor
open Go.RowKit
set_option linter.unusedVariables false
set_option linter.unusedSimpArgs false

/-- where a node lies -/
structure NP where
  nb : Nat
  p : Nat
  pb : Nat
  lp : Nat
  ckb : Nat
  cqb : Nat
  rg : Nat
  fb : Nat
  cg : Nat
  bx : Value
  me : Int
  en : Value
/-- where its clock's window, and its lane's lists lie -/
structure NPd where
  v : Value
  gp : Nat
  G : Nat → Nat
  SL : Nat → Prop
/-- what turns from tick to tick -/
structure NdS where
  q : Int × Int × Int
  L : LaneM
  wn : List Int
  long : Int
  t : Int × Int × Int
  k : LkM
/-- what stays, while no slot runs -/
structure NdK where
  n : Nat
  c : Cfg
  boot : Int
  V : List Value
  last : Int
  ps : Value
  seen : List Value
  told : Bool
def NP.cells (P : NP) (K : NdK) (k : LkM) : List Value := ndV (memV (ptrN P.lp) (ptrN P.ckb) (ptrN P.cqb) (ptrN P.rg) (ptrN P.fb) (ptrN P.cg) K.seen K.told (lookV k)) P.p P.me P.en (ptrN P.pb)
structure NdOwn (S I : Nat → Prop) (w0 : World) (P : NP) (D : NPd) : Prop where
  inb : I P.nb
  ipb : I P.pb
  ickb : I P.ckb
  icqb : I P.cqb
  irg : I P.rg
  icg : I P.cg
  ol : ∀ b, D.SL b → I b ∨ w0.heap.size ≤ b
  ov : ∀ b, D.v.ownBlock = some b → I b ∨ w0.heap.size ≤ b
  sp : ∀ b, S b → b < w0.heap.size ∧ ¬ I b
  il : ∀ b, I b → b < w0.heap.size
  al : ∀ b, D.SL b → b ≠ P.nb ∧ b ≠ P.pb ∧ b ≠ P.ckb ∧ b ≠ P.cqb ∧ b ≠ P.rg ∧ b ≠ P.cg ∧ D.v.ownBlock ≠ some b
structure NdX (S I : Nat → Prop) (A : CfA) (qt : Nat) (K : NdK) (w0 : World) (P : NP) (D : NPd) (x : NdS) (w : World) : Prop where
  net : NetAt S w P.p A qt K.c
  nd : Blk w P.nb 63 (P.cells K x.k).toArray
  pw : Blk w P.pb 129 (pwCells K.boot x.q.1 x.q.2.1 x.q.2.2)
  lane : LaneAt D.SL w P.lp D.gp D.G x.L
  ck : CkR 0 P.ckb K.n D.v x.wn w
  cq : Blk w P.cqb 167 (cqCells x.long (2 * K.n) K.n)
  rg : Blk w P.rg 172 (ckCells P.p 0 x.t).toArray
  cg : Blk w P.cg 191 (crewV P.bx P.p K.c.N K.c.Sl.length K.last K.V K.ps).toArray
  own : NdOwn S I w0 P D
  c : Chg I w0 w
section
variable {S I : Nat → Prop} {A : CfA} {qt : Nat} {K : NdK} {w0 w w' : World} {P : NP} {D : NPd} {x : NdS}
theorem ckrKeep {B c n : Nat} {v : Value} {L : List Int} {w w' : World} (h : CkR B c n v L w) (hk : ∀ b, b < w.heap.size → (b = c ∨ v.ownBlock = some b) → w'.heap[b]? = w.heap[b]?) : CkR B c n v L w' :=
  ⟨(hk c h.1.lt (.inl rfl)).trans h.1, h.2.block fun k e => hk k (h.2.lt k e).2 (.inr e)⟩
theorem chgNd {S S' : Nat → Prop} {a b c : World} (h : Chg S a b) (k : Chg S' b c) (hs : ∀ i, i < a.heap.size → S' i → S i) : Chg S a c :=
  ⟨k.os.trans h.os, k.tape.trans h.tape, k.output.trans h.output, Nat.le_trans h.size k.size, fun i hi hn => (k.block i (Nat.lt_of_lt_of_le hi h.size) fun e => hn (hs i hi e)).trans (h.block i hi hn)⟩
theorem NdX.below (h : NdX S I A qt K w0 P D x w) (hb : Below w.heap.size w w') : NdX S I A qt K w0 P D x w' :=
  ⟨NetTab.at_ h.net hb, h.nd.below hb h.nd.lt, h.pw.below hb h.pw.lt, h.lane.below hb, ckrKeep h.ck fun b hl _ => hb.block b hl, h.cq.below hb h.cq.lt, h.rg.below hb h.rg.lt, h.cg.below hb h.cg.lt, h.own, h.c.trans (Chg.of_below hb _)⟩
theorem NdX.netT (h : NdX S I A qt K w0 P D x w) {T : Nat → Prop} (hc : Chg T w w') (hT : ∀ b, T b → I b ∨ w0.heap.size ≤ b) : NetAt S w' P.p A qt K.c ∧ Chg I w0 w' :=
  ⟨NetTab.keep h.net hc.size fun b hS hl => hc.block b hl fun e => by
    have h1 := h.own.sp b hS
    rcases hT b e with h2 | h2
    · exact h1.2 h2
    · omega, chgNd h.c hc fun i hi e => by
    rcases hT i e with h2 | h2
    · exact h2
    · omega⟩
theorem NdX.vne (h : NdX S I A qt K w0 P D x w) : D.v.ownBlock ≠ some P.nb ∧ D.v.ownBlock ≠ some P.pb ∧ D.v.ownBlock ≠ some P.ckb ∧ D.v.ownBlock ≠ some P.cqb ∧ D.v.ownBlock ≠ some P.rg ∧ D.v.ownBlock ≠ some P.cg :=
  ⟨h.ck.2.not_ h.nd (by decide), h.ck.2.not_ h.pw (by decide), h.ck.2.not_ h.ck.1 (by decide), h.ck.2.not_ h.cq (by decide), h.ck.2.not_ h.rg (by decide), h.ck.2.not_ h.cg (by decide)⟩
theorem laneKeepC {SL T : Nat → Prop} {lp gp : Nat} {G : Nat → Nat} {L : LaneM} (h : LaneAt SL w lp gp G L) (hc : Chg T w w') (hT : ∀ b, SL b → ¬ T b) : LaneAt SL w' lp gp G L := h.keep hc.size fun b hb hl => hc.block b hl (hT b hb)
theorem NdX.power (h : NdX S I A qt K w0 P D x w) {q' : Int × Int × Int} (hb : Blk w' P.pb 129 (pwCells K.boot q'.1 q'.2.1 q'.2.2)) (hc : Chg (· = P.pb) w w') : NdX S I A qt K w0 P D { x with q := q' } w' := by
  obtain ⟨h1, h2⟩ := h.netT hc (by rintro b rfl; exact .inl h.own.ipb)
  have hv := h.vne
  exact ⟨h1, h.nd.chg hc (h.nd.ne_ h.pw (by decide)), hb, laneKeepC h.lane hc fun b hb => (h.own.al b hb).2.1, ckrKeep h.ck fun b hl e => hc.block b hl (by
      rintro rfl
      rcases e with e | e
      · exact h.pw.ne_ h.ck.1 (by decide) e
      · exact hv.2.1 e), h.cq.chg hc (h.cq.ne_ h.pw (by decide)), h.rg.chg hc (h.rg.ne_ h.pw (by decide)), h.cg.chg hc (h.cg.ne_ h.pw (by decide)), h.own, h2⟩
theorem NdX.look (h : NdX S I A qt K w0 P D x w) {k' : LkM} (hb : Blk w' P.nb 63 (P.cells K k').toArray) (hc : Chg (· = P.nb) w w') : NdX S I A qt K w0 P D { x with k := k' } w' := by
  obtain ⟨h1, h2⟩ := h.netT hc (by rintro b rfl; exact .inl h.own.inb)
  have hv := h.vne
  exact ⟨h1, hb, h.pw.chg hc (h.pw.ne_ h.nd (by decide)), laneKeepC h.lane hc fun b hb => (h.own.al b hb).1, ckrKeep h.ck fun b hl e => hc.block b hl (by
      rintro rfl
      rcases e with e | e
      · exact h.nd.ne_ h.ck.1 (by decide) e
      · exact hv.1 e), h.cq.chg hc (h.cq.ne_ h.nd (by decide)), h.rg.chg hc (h.rg.ne_ h.nd (by decide)), h.cg.chg hc (h.cg.ne_ h.nd (by decide)), h.own, h2⟩
theorem NdX.clique (h : NdX S I A qt K w0 P D x w) {long' : Int} (hb : Blk w' P.cqb 167 (cqCells long' (2 * K.n) K.n)) (hc : Chg (· = P.cqb) w w') : NdX S I A qt K w0 P D { x with long := long' } w' := by
  obtain ⟨h1, h2⟩ := h.netT hc (by rintro b rfl; exact .inl h.own.icqb)
  have hv := h.vne
  exact ⟨h1, h.nd.chg hc (h.nd.ne_ h.cq (by decide)), h.pw.chg hc (h.pw.ne_ h.cq (by decide)), laneKeepC h.lane hc fun b hb => (h.own.al b hb).2.2.2.1, ckrKeep h.ck fun b hl e => hc.block b hl (by
      rintro rfl
      rcases e with e | e
      · exact h.cq.ne_ h.ck.1 (by decide) e
      · exact hv.2.2.2.1 e), hb, h.rg.chg hc (h.rg.ne_ h.cq (by decide)), h.cg.chg hc (h.cg.ne_ h.cq (by decide)), h.own, h2⟩
theorem NdX.run (h : NdX S I A qt K w0 P D x w) {t' : Int × Int × Int} (hb : Blk w' P.rg 172 (ckCells P.p 0 t').toArray) (hc : Chg (· = P.rg) w w') : NdX S I A qt K w0 P D { x with t := t' } w' := by
  obtain ⟨h1, h2⟩ := h.netT hc (by rintro b rfl; exact .inl h.own.irg)
  have hv := h.vne
  exact ⟨h1, h.nd.chg hc (h.nd.ne_ h.rg (by decide)), h.pw.chg hc (h.pw.ne_ h.rg (by decide)), laneKeepC h.lane hc fun b hb => (h.own.al b hb).2.2.2.2.1, ckrKeep h.ck fun b hl e => hc.block b hl (by
      rintro rfl
      rcases e with e | e
      · exact h.rg.ne_ h.ck.1 (by decide) e
      · exact hv.2.2.2.2.1 e), h.cq.chg hc (h.cq.ne_ h.rg (by decide)), hb, h.cg.chg hc (h.cg.ne_ h.rg (by decide)), h.own, h2⟩
theorem NdX.clock (h : NdX S I A qt K w0 P D x w) {v' : Value} {wn' : List Int} (hb : CkR 0 P.ckb K.n v' wn' w') (hv' : v'.ownBlock = D.v.ownBlock ∨ ∀ k, v'.ownBlock = some k → w.heap.size ≤ k) (hc : Chg (fun b => b = P.ckb ∨ some b = D.v.ownBlock) w w') : NdX S I A qt K w0 P { D with v := v' } { x with wn := wn' } w' := by
  obtain ⟨h1, h2⟩ := h.netT hc (by
    rintro b (rfl | e)
    · exact .inl h.own.ickb
    · exact h.own.ov b e.symm)
  have hv := h.vne
  have hne : ∀ {g : Nat} {t : TypeId} {cs : Array Value}, Blk w g t cs → t ≠ 161 → D.v.ownBlock ≠ some g → Blk w' g t cs := fun hg ht ho => hg.chg hc (by
    rintro (e | e)
    · exact hg.ne_ h.ck.1 ht e
    · exact ho e.symm)
  refine ⟨h1, hne h.nd (by decide) hv.1, hne h.pw (by decide) hv.2.1, laneKeepC h.lane hc fun b hb => ?_, hb, hne h.cq (by decide) hv.2.2.2.1, hne h.rg (by decide) hv.2.2.2.2.1, hne h.cg (by decide) hv.2.2.2.2.2, ?_, h2⟩
  · rintro (e | e)
    · exact (h.own.al b hb).2.2.1 e
    · exact (h.own.al b hb).2.2.2.2.2.2 e.symm
  · refine { h.own with ov := fun b e => ?_, al := fun b hb => ?_ }
    · rcases hv' with e' | e'
      · exact h.own.ov b (e'.symm.trans e)
      · exact .inr (Nat.le_trans h.c.size (e' b e))
    · have h3 := h.own.al b hb
      refine ⟨h3.1, h3.2.1, h3.2.2.1, h3.2.2.2.1, h3.2.2.2.2.1, h3.2.2.2.2.2.1, ?_⟩
      rcases hv' with e' | e'
      · show v'.ownBlock ≠ some b
        rw [e']; exact h3.2.2.2.2.2.2
      · intro e
        have := e' b e
        have := h.lane.lt b hb
        omega
theorem NdX.turn (h : NdX S I A qt K w0 P D x w) {m gp' : Nat} {G' : Nat → Nat} {L' : LaneM} (hb : LaneAt (GrowS D.SL w.heap.size m) w' P.lp gp' G' L') (hc : Chg D.SL w w') : NdX S I A qt K w0 P { D with gp := gp', G := G', SL := GrowS D.SL w.heap.size m } { x with L := L' } w' := by
  obtain ⟨h1, h2⟩ := h.netT hc h.own.ol
  have hv := h.vne
  refine ⟨h1, h.nd.chg hc fun e => (h.own.al _ e).1 rfl, h.pw.chg hc fun e => (h.own.al _ e).2.1 rfl, hb, ckrKeep h.ck fun b hl e => hc.block b hl fun hs => ?_, h.cq.chg hc fun e => (h.own.al _ e).2.2.2.1 rfl, h.rg.chg hc fun e => (h.own.al _ e).2.2.2.2.1 rfl, h.cg.chg hc fun e => (h.own.al _ e).2.2.2.2.2.1 rfl, ?_, h2⟩
  · rcases e with e | e
    · exact (h.own.al _ hs).2.2.1 e
    · exact (h.own.al _ hs).2.2.2.2.2.2 e
  · refine { h.own with ol := fun b e => ?_, al := fun b hb => ?_ }
    · rcases e with e | e
      · exact h.own.ol b e
      · exact .inr (Nat.le_trans h.c.size e.1)
    · rcases hb with e | e
      · exact h.own.al b e
      · have := h.nd.lt; have := h.pw.lt; have := h.ck.1.lt; have := h.cq.lt; have := h.rg.lt; have := h.cg.lt
        refine ⟨?_, ?_, ?_, ?_, ?_, ?_, fun e' => ?_⟩
        · show b ≠ P.nb; omega
        · show b ≠ P.pb; omega
        · show b ≠ P.ckb; omega
        · show b ≠ P.cqb; omega
        · show b ≠ P.rg; omega
        · show b ≠ P.cg; omega
        · have := (h.ck.2.lt b e').2; omega
/-! ### the cells of the look -/
theorem cells_set {K : NdK} (hs : K.seen.length = 50) (k : LkM) (hk : k.okL) (j : Nat) (hj : j < 63) (u : Value) {k' : LkM} (he : (lookV k).set j u = lookV k') : (P.cells K k).set (57 + j) u = P.cells K k' := by
  have e : ∀ k, P.cells K k = ((ptrN P.lp :: ptrN P.ckb :: ptrN P.cqb :: ptrN P.rg :: ptrN P.fb :: ptrN P.cg :: (K.seen ++ [.bool K.told])) ++ lookV k) ++ [.pointer (some ⟨P.p, 0, none⟩), .int .i64 P.me, P.en, ptrN P.pb] := fun k => by simp [NP.cells, ndV, memV]
  have hl := lookV_len hk
  rw [e, e, List.set_append_left _ _ (by simp [hs, hl]; omega), List.set_append_right _ _ (by simp [hs]), ← he]
  congr 2
  simp [hs]
theorem cells_put {K : NdK} (hs : K.seen.length = 50) (k : LkM) (hk : k.okL) (j : Nat) (l : List Value) (hj : j + l.length ≤ 63) {k' : LkM} (he : (lookV k).take j ++ l ++ (lookV k).drop (j + l.length) = lookV k') : (P.cells K k).take (57 + j) ++ l ++ (P.cells K k).drop (57 + j + l.length) = P.cells K k' := by
  obtain ⟨H, hH⟩ : ∃ H, H = (ptrN P.lp :: ptrN P.ckb :: ptrN P.cqb :: ptrN P.rg :: ptrN P.fb :: ptrN P.cg :: (K.seen ++ [.bool K.told])) := ⟨_, rfl⟩
  have e : ∀ k, P.cells K k = H ++ (lookV k ++ [.pointer (some ⟨P.p, 0, none⟩), .int .i64 P.me, P.en, ptrN P.pb]) := fun k => by simp [NP.cells, ndV, memV, hH]
  have hHl : H.length = 57 := by simp [hH, hs]
  have hl := lookV_len hk
  rw [e, e, ← he, List.take_append, List.take_of_length_le (by omega), List.drop_append, List.drop_eq_nil_of_le (by omega), hHl, show 57 + j - 57 = j by omega, show 57 + j + l.length - 57 = j + l.length by omega, List.take_append_of_le_length (by omega), List.drop_append_of_le_length (by omega), List.nil_append]
  simp only [List.append_assoc]
theorem NdX.set (h : NdX S I A qt K w0 P D x w) (hs : K.seen.length = 50) (hk : x.k.okL) (j : Nat) (hj : j < 63) (u : Value) {k' : LkM} (he : (lookV x.k).set j u = lookV k') : NdX S I A qt K w0 P D { x with k := k' } (w.setCell ⟨P.nb, 57 + j, none⟩ u) := by
  refine h.look ?_ ((Chg.refl _ _).set_at _ _)
  have := h.nd.set_ (57 + j) u
  rwa [List.setIfInBounds_toArray, cells_set hs _ hk j hj u he] at this
theorem NdX.put (h : NdX S I A qt K w0 P D x w) (hs : K.seen.length = 50) (hk : x.k.okL) (j : Nat) (l : List Value) (hj : j + l.length ≤ 63) {k' : LkM} (he : (lookV x.k).take j ++ l ++ (lookV x.k).drop (j + l.length) = lookV k') : NdX S I A qt K w0 P D { x with k := k' } (putRow w ⟨P.nb, 57 + j, none⟩ l) := by
  refine h.look ?_ (Chg.put (S := (· = P.nb)) (p := ⟨P.nb, 57 + j, none⟩) (Chg.refl _ _) (.inl rfl) _)
  have := h.nd.put (57 + j) l
  rwa [cells_put hs _ hk j l hj he] at this
/-! ### blocks that are not the node's -/
def Free (I : Nat → Prop) (D : NPd) (w : World) (b : Nat) : Prop := b < w.heap.size ∧ ¬ I b ∧ ¬ D.SL b ∧ D.v.ownBlock ≠ some b
def KeepF (I : Nat → Prop) (D D' : NPd) (w w' : World) : Prop := w.heap.size ≤ w'.heap.size ∧ ∀ b, Free I D w b → Free I D' w' b ∧ w'.heap[b]? = w.heap[b]?
theorem NdX.free (h : NdX S I A qt K w0 P D x w) (hb : Below w.heap.size w w') {g : Nat} (hg : w.heap.size ≤ g) (hl : g < w'.heap.size) : Free I D w' g :=
  ⟨hl, fun e => by have := h.own.il g e; have := h.c.size; omega, fun e => by have := h.lane.lt g e; omega, fun e => by have := (h.ck.2.lt g e).2; omega⟩
theorem KeepF.below (hb : Below w.heap.size w w') : KeepF I D D w w' := ⟨hb.size, fun b h => ⟨⟨Nat.lt_of_lt_of_le h.1 hb.size, h.2⟩, hb.block b h.1⟩⟩
theorem KeepF.chg {T : Nat → Prop} (hc : Chg T w w') (hT : ∀ b, T b → I b) : KeepF I D D w w' := ⟨hc.size, fun b h => ⟨⟨Nat.lt_of_lt_of_le h.1 hc.size, h.2⟩, hc.block b h.1 fun e => h.2.1 (hT b e)⟩⟩
theorem KeepF.trans {D D' D'' : NPd} {a b c : World} (h : KeepF I D D' a b) (k : KeepF I D' D'' b c) : KeepF I D D'' a c := ⟨Nat.le_trans h.1 k.1, fun g hg => by
  obtain ⟨h1, h2⟩ := h.2 g hg
  obtain ⟨h3, h4⟩ := k.2 g h1
  exact ⟨h3, h4.trans h2⟩⟩
theorem KeepF.clock {v' : Value} {c : Nat} (hv' : v'.ownBlock = D.v.ownBlock ∨ ∀ k, v'.ownBlock = some k → w.heap.size ≤ k) (hi : I c) (hc : Chg (fun b => b = c ∨ some b = D.v.ownBlock) w w') : KeepF I D { D with v := v' } w w' :=
  ⟨hc.size, fun b h => ⟨⟨Nat.lt_of_lt_of_le h.1 hc.size, h.2.1, h.2.2.1, fun e => by
    rcases hv' with e' | e'
    · exact h.2.2.2 (e'.symm.trans e)
    · have := e' b e; have := h.1; omega⟩, hc.block b h.1 (by
    rintro (e | e)
    · exact h.2.1 (e ▸ hi)
    · exact h.2.2.2 e.symm)⟩⟩
theorem KeepF.turn {m gp' : Nat} {G' : Nat → Nat} (hc : Chg D.SL w w') : KeepF I D { D with gp := gp', G := G', SL := GrowS D.SL w.heap.size m } w w' :=
  ⟨hc.size, fun b h => ⟨⟨Nat.lt_of_lt_of_le h.1 hc.size, h.2.1, fun e => by
    rcases e with e | e
    · exact h.2.2.1 e
    · have := h.1; omega, h.2.2.2⟩, hc.block b h.1 h.2.2.1⟩⟩
theorem Blk.kf {D' : NPd} {g : Nat} {t : TypeId} {cs : Array Value} (hk : KeepF I D D' w w') (hf : Free I D w g) (h : Blk w g t cs) : Blk w' g t cs := (hk.2 g hf).2.trans h
theorem RdRs.mono_ {S S' : Nat → Prop} {w : World} {a : Option Addr} {len : Nat} {l : List Rw} (h : RdRs S w a len l) (hs : ∀ b, S b → S' b) : RdRs S' w a len l := h.mono fun b _ hb => hs b hb
/-- a list of rows that a tick holds -/
def HdA (I : Nat → Prop) (D : NPd) (n : Nat) (H : List Rw) (v : Value) (w : World) : Prop := ∃ g, v = .slice (some ⟨g, 0, none⟩) n n ∧ RdRs (Free I D w) w (some ⟨g, 0, none⟩) n H
theorem HdA.kf {D' : NPd} {n : Nat} {H : List Rw} {v : Value} (hk : KeepF I D D' w w') (h : HdA I D n H v w) : HdA I D' n H v w' := by
  obtain ⟨g, e, h⟩ := h
  exact ⟨g, e, (h.keep hk.1 fun b hb _ => (hk.2 b hb).2).mono_ fun b hb => (hk.2 b hb).1⟩
/-- a vector that a tick agreed -/
def AgA (I : Nat → Prop) (D : NPd) (n : Nat) (L : List Hd) (v : Value) (w : World) : Prop := ∃ g, v = .slice (some ⟨g, 0, none⟩) n n ∧ Free I D w g ∧ (∃ cs, Blk w g 152 cs) ∧ RdHs (· = g) w (some ⟨g, 0, none⟩) n L
theorem AgA.kf {D' : NPd} {n : Nat} {L : List Hd} {v : Value} (hk : KeepF I D D' w w') (h : AgA I D n L v w) : AgA I D' n L v w' := by
  obtain ⟨g, e, hf, ⟨cs, hb⟩, h⟩ := h
  exact ⟨g, e, (hk.2 g hf).1, ⟨cs, (hk.2 g hf).2.trans hb⟩, h.keep hk.1 fun b hb _ => by rw [hb]; exact (hk.2 g hf).2⟩
end
end Go.Proofs.YtnckfjmaochnkaaGreatDoor
namespace Go.Proofs.YtnckfjmaochnkaaGreatDoor
open Go.RowKit
set_option linter.unusedVariables false
set_option linter.unusedSimpArgs false

def payZ : List Value := [.int .u8 0, .int .u8 0, .int .u32 0, .int .u32 0]
def stateZ : List Value := [.bool false, .int .u32 0, .int .u32 0, .int .i64 0]
def postsZ : List Value := [.int .u8 0, .slice none 0 0, .int .u8 0, .slice none 0 0]
theorem ag_pay : aggOf Tryz.prog 40 4 = true := by kernel_rfl
theorem ag_actu : aggOf Tryz.prog 85 4 = true := by kernel_rfl
theorem ag_posts : aggOf Tryz.prog 72 4 = true := by kernel_rfl
theorem ag_ins : aggOf Tryz.prog 74 8 = true := by kernel_rfl
section
variable (ρ : Operand → Value) (d : Option Tmp) (x y z : Operand) (ty : TypeId) (s : String) (af : Array Edge) (g : Option (Nat × Bool)) (w : World)
@[go_sem ↓] theorem ld_pay (h : hasRowV w 4 (ρ x) = true) : (execOp ρ { dst := d, op := .load 40 x, type := ty, pos := s, after := af, guard := g }).run Tryz.prog w = .ok (.value (.agg (rowV w 4 (ρ x)).toArray)) w := exec_load ag_pay ρ d x ty s af g w h
@[go_sem ↓] theorem st_pay (h1 : okAgg 4 (ρ y) = true) (h2 : canPutV w 4 (ρ x) = true) : (execOp ρ { dst := d, op := .store 40 x y, type := ty, pos := s, after := af, guard := g }).run Tryz.prog w = .ok .skip (putV w (ρ x) (ρ y)) := exec_store ag_pay ρ d x y ty s af g w h1 h2
@[go_sem ↓] theorem al_pay : (execOp ρ { dst := d, op := .alloc 40, type := ty, pos := s, after := af, guard := g }).run Tryz.prog w = .ok (.value (.pointer (some ⟨w.heap.size, 0, none⟩))) (w.alloc (.cells payZ.toArray 40)) := exec_alloc (by unfold zeroIs; kernel_rfl) ρ d ty s af g w
@[go_sem ↓] theorem ld_actu (h : hasRowV w 4 (ρ x) = true) : (execOp ρ { dst := d, op := .load 85 x, type := ty, pos := s, after := af, guard := g }).run Tryz.prog w = .ok (.value (.agg (rowV w 4 (ρ x)).toArray)) w := exec_load ag_actu ρ d x ty s af g w h
@[go_sem ↓] theorem st_actu (h1 : okAgg 4 (ρ y) = true) (h2 : canPutV w 4 (ρ x) = true) : (execOp ρ { dst := d, op := .store 85 x y, type := ty, pos := s, after := af, guard := g }).run Tryz.prog w = .ok .skip (putV w (ρ x) (ρ y)) := exec_store ag_actu ρ d x y ty s af g w h1 h2
@[go_sem ↓] theorem al_actu : (execOp ρ { dst := d, op := .alloc 85, type := ty, pos := s, after := af, guard := g }).run Tryz.prog w = .ok (.value (.pointer (some ⟨w.heap.size, 0, none⟩))) (w.alloc (.cells stateZ.toArray 85)) := exec_alloc (by unfold zeroIs; kernel_rfl) ρ d ty s af g w
@[go_sem ↓] theorem ld_posts (h : hasRowV w 4 (ρ x) = true) : (execOp ρ { dst := d, op := .load 72 x, type := ty, pos := s, after := af, guard := g }).run Tryz.prog w = .ok (.value (.agg (rowV w 4 (ρ x)).toArray)) w := exec_load ag_posts ρ d x ty s af g w h
@[go_sem ↓] theorem st_posts (h1 : okAgg 4 (ρ y) = true) (h2 : canPutV w 4 (ρ x) = true) : (execOp ρ { dst := d, op := .store 72 x y, type := ty, pos := s, after := af, guard := g }).run Tryz.prog w = .ok .skip (putV w (ρ x) (ρ y)) := exec_store ag_posts ρ d x y ty s af g w h1 h2
@[go_sem ↓] theorem al_posts : (execOp ρ { dst := d, op := .alloc 72, type := ty, pos := s, after := af, guard := g }).run Tryz.prog w = .ok (.value (.pointer (some ⟨w.heap.size, 0, none⟩))) (w.alloc (.cells postsZ.toArray 72)) := exec_alloc (by unfold zeroIs; kernel_rfl) ρ d ty s af g w
theorem bt_actu : buildT Tryz.prog 85 stateZ [(0, 1), (1, 1), (2, 1), (3, 1)] := by unfold buildT; exact ⟨by kernel_rfl, by kernel_rfl⟩
theorem bt_payN : buildT Tryz.prog 40 payZ [(0, 1), (1, 1), (2, 1), (3, 1)] := by unfold buildT; exact ⟨by kernel_rfl, by kernel_rfl⟩
@[go_sem ↓] theorem bd_actu0 : (execOp ρ { dst := d, op := .build 85 #[], type := ty, pos := s, after := af, guard := g }).run Tryz.prog w = .ok (.value (.agg stateZ.toArray)) w := exec_build0 bt_actu ρ d ty s af g w
@[go_sem ↓] theorem bd_pay0 : (execOp ρ { dst := d, op := .build 40 #[], type := ty, pos := s, after := af, guard := g }).run Tryz.prog w = .ok (.value (.agg payZ.toArray)) w := exec_build0 bt_payN ρ d ty s af g w
end
@[go_sem] theorem len_payZ : payZ.length = 4 := (rfl)
@[go_sem] theorem len_stateZ : stateZ.length = 4 := (rfl)
@[go_sem] theorem len_postsZ : postsZ.length = 4 := (rfl)
@[go_sem] theorem all_payZ : payZ.all cell1 = true := by kernel_rfl
@[go_sem] theorem all_stateZ : stateZ.all cell1 = true := by kernel_rfl
@[go_sem] theorem all_postsZ : postsZ.all cell1 = true := by kernel_rfl
@[go_sem] theorem len_look0 : (lookV lk0).length = 63 := (rfl)
@[go_sem] theorem all_look0 : (lookV lk0).all cell1 = true := by kernel_rfl

/-- a net that is not there -/
def DeadN (w : World) (v : Value) : Prop := v = .pointer none ∨ ∃ p a cp, v = .pointer (some ⟨p, 0, none⟩) ∧ w.cell? ⟨p, 9, none⟩ = some (.slice a 0 cp)
theorem there_dead {w : World} {v : Value} (h : DeadN w v) : Calls Tryz.prog 31 #[v] w (thereP false w) := by
  rcases h with rfl | ⟨p, a, cp, rfl, h⟩
  · exact there_nil w
  · exact there_bare p a cp w h
set_option maxRecDepth 100000 in
theorem round4_dead {w : World} {v : Value} (h : DeadN w v) : Calls Tryz.prog 11 #[v] w fun e w' => e = .returned (.int .i64 0) ∧ w = w' := by
  have HT := Lib.hid (there_dead h)
  clear h
  go_enter Tryz.func11, Tryz.ntmps11
  go_wp2_with fail
  (with_reducible refine HT.out.mono ?_)
  rintro e w' ⟨rfl, rfl⟩
  go_wp2_with fail
  go_ret
  exact ⟨rfl, rfl⟩
set_option maxRecDepth 100000 in
theorem nnew_dead {w : World} {v : Value} (h : DeadN w v) (k : Int) : Calls Tryz.prog 4 #[v, .int .i64 k, .slice none 0 0] w fun e w' => e = .returned (.tuple #[.pointer none, .int .i64 2]) ∧ w = w' := by
  have HT := Lib.hid (round4_dead h)
  clear h
  go_enter Tryz.func4, Tryz.ntmps4
  go_wp2_with fail
  (with_reducible refine HT.out.mono ?_)
  rintro e w' ⟨rfl, rfl⟩
  go_wp2_with fail
  go_ret2
  exact ⟨rfl, rfl⟩
/-- a node that is not there -/
def DeadK (w : World) (v : Value) : Prop := v = .pointer none ∨ ∃ b, v = .pointer (some ⟨b, 0, none⟩) ∧ w.cell? ⟨b, 123, none⟩ = some (.pointer none)
theorem DeadK.below {w w' : World} {v : Value} (h : DeadK w v) (hb : Below w.heap.size w w') : DeadK w' v := by
  rcases h with rfl | ⟨b, rfl, h⟩
  · exact .inl rfl
  · exact .inr ⟨b, rfl, (hb.cell (p := ⟨b, 123, none⟩) (World.block_lt_of_cell? w _ h)).trans h⟩
def AggP (l : List Value) (w : World) (e : Ending) (w' : World) : Prop := e = .returned (.agg l.toArray) ∧ Below w.heap.size w w'
theorem dead_fin (w : World) (t : TypeId) (z : List Value) {n : Nat} (hz : z.length = n) : hasRow (w.alloc (.cells z.toArray t)) ⟨w.heap.size, 0, none⟩ n = true ∧ rowOf (w.alloc (.cells z.toArray t)) ⟨w.heap.size, 0, none⟩ n = z ∧ canPut (w.alloc (.cells z.toArray t)) ⟨w.heap.size, 0, none⟩ n = true ∧
    hasRow (putRow (w.alloc (.cells z.toArray t)) ⟨w.heap.size, 0, none⟩ z) ⟨w.heap.size, 0, none⟩ n = true ∧ rowOf (putRow (w.alloc (.cells z.toArray t)) ⟨w.heap.size, 0, none⟩ z) ⟨w.heap.size, 0, none⟩ n = z ∧ Below w.heap.size w (putRow (w.alloc (.cells z.toArray t)) ⟨w.heap.size, 0, none⟩ z) := by
  have hk := Blk.new w t z.toArray
  obtain ⟨h1, h2, h3⟩ := hk.whole hz
  obtain ⟨h4, h5, -⟩ := (hk.put_all (l := z) rfl).whole hz
  exact ⟨h1, h2, h3, h4, h5, Below.put ((Below.refl _ _).alloc (Nat.le_refl _) _) (Nat.le_refl _) _⟩
set_option maxRecDepth 100000 in
theorem look_dead {w : World} {v : Value} (h : DeadK w v) : Calls Tryz.prog 8 #[v] w (AggP (lookV lk0) w) := by
  obtain ⟨-, -, h3, h4, h5, h6⟩ := dead_fin w 57 (lookV lk0) (n := 63) rfl
  have HE := Lib.hid (And.intro h4 (And.intro h5 h6))
  have hD := h.below ((Below.refl w.heap.size w).alloc (Nat.le_refl _) (.cells (lookV lk0).toArray 57))
  clear h4 h5 h6 h
  rcases hD with rfl | ⟨b, rfl, hc⟩
  all_goals go_enter Tryz.func8, Tryz.ntmps8
  all_goals go_upto_region 1 with fail
  all_goals generalize w.alloc (.cells (lookV lk0).toArray 57) = w0 at *
  all_goals go_wp2_with fail
  all_goals (try simp only [Exit.inBlock, Exit.then])
  all_goals first | refine bodyPost_ret (ret_rowB (n := 63) rfl ag_look _ _ _ rfl ?_) rfl ?_ | refine bodyPost_end (ret_rowB (n := 63) rfl ag_look _ _ _ rfl ?_) rfl ?_
  all_goals first | exact HE.out.1 | (rw [HE.out.2.1]; exact ⟨rfl, HE.out.2.2⟩)
set_option maxRecDepth 100000 in
theorem state_dead {w : World} {v : Value} (h : DeadK w v) (k : Int) : Calls Tryz.prog 9 #[v, .int .i64 k] w (AggP stateZ w) := by
  obtain ⟨-, -, h3, h4, h5, h6⟩ := dead_fin w 85 stateZ (n := 4) rfl
  have HE := Lib.hid (And.intro h4 (And.intro h5 h6))
  have hD := h.below ((Below.refl w.heap.size w).alloc (Nat.le_refl _) (.cells stateZ.toArray 85))
  clear h4 h5 h6 h
  rcases hD with rfl | ⟨b, rfl, hc⟩
  all_goals go_enter Tryz.func9, Tryz.ntmps9
  all_goals go_upto_region 1 with fail
  all_goals generalize w.alloc (.cells stateZ.toArray 85) = w0 at *
  all_goals go_wp2_with fail
  all_goals (try simp only [Exit.inBlock, Exit.then])
  all_goals first | refine bodyPost_ret (ret_rowB (n := 4) rfl ag_actu _ _ _ rfl ?_) rfl ?_ | refine bodyPost_end (ret_rowB (n := 4) rfl ag_actu _ _ _ rfl ?_) rfl ?_
  all_goals first | exact HE.out.1 | (rw [HE.out.2.1]; exact ⟨rfl, HE.out.2.2⟩)
theorem ret_row3 {P : Program} {fn : Func} {p q r : Tmp} {ty : TypeId} {n : Nat} (h : fn.results = #[.cell p ty, .tmp q, .tmp r]) (hT : aggOf P ty n = true) (tmps : Array Value) (w : World) (a : Addr)
    (hp : tmps.getD p undef = .pointer (some a)) (hr : hasRow w a n = true) : (results fn tmps).run P w = .ok (.tuple #[.agg (rowOf w a n).toArray, tmps.getD q undef, tmps.getD r undef]) w := by
  have hp' : tmps[p]?.getD undef = .pointer (some a) := by simpa using hp
  simp [results, h, hp', asAddr, run_load_row hT hr]
def BoxD (w : World) (e : Ending) (w' : World) : Prop := e = .returned (.tuple #[.agg payZ.toArray, .int .i64 (-1), .bool false]) ∧ Below w.heap.size w w'
set_option maxRecDepth 100000 in
theorem box_dead {w : World} {v : Value} (h : DeadK w v) (k : Int) : Calls Tryz.prog 7 #[v, .int .i64 k] w (BoxD w) := by
  obtain ⟨h1, h2, h3, h4, h5, h6⟩ := dead_fin w 40 payZ (n := 4) rfl
  have HE := Lib.hid (And.intro h4 (And.intro h5 h6))
  have hD := h.below ((Below.refl w.heap.size w).alloc (Nat.le_refl _) (.cells payZ.toArray 40))
  clear h4 h5 h6 h
  rcases hD with rfl | ⟨b, rfl, hc⟩
  all_goals go_enter Tryz.func7, Tryz.ntmps7
  all_goals go_upto_region 1 with fail
  all_goals generalize w.alloc (.cells payZ.toArray 40) = w0 at *
  all_goals go_wp2_with fail
  all_goals (try simp only [Exit.inBlock, Exit.then])
  all_goals first | refine bodyPost_ret (ret_row3 (n := 4) rfl ag_pay _ _ _ rfl ?_) rfl ?_ | refine bodyPost_end (ret_row3 (n := 4) rfl ag_pay _ _ _ rfl ?_) rfl ?_
  all_goals first | exact HE.out.1 | (rw [HE.out.2.1]; exact ⟨rfl, HE.out.2.2⟩)
set_option maxRecDepth 100000 in
theorem out_dead {w : World} {v : Value} (h : DeadK w v) (k : Int) : Calls Tryz.prog 6 #[v, .int .i64 k] w fun e w' => e = .returned (.tuple #[.int .u32 0, .bool false]) ∧ Below w.heap.size w w' := by
  rcases h with rfl | ⟨b, rfl, hc⟩
  all_goals go_enter Tryz.func6, Tryz.ntmps6
  all_goals go_upto_region 1 with fail
  all_goals go_quiet (fail)
  all_goals go_wp2_with fail
  all_goals go_ret2
  all_goals exact ⟨rfl, belowD w _⟩
set_option maxRecDepth 100000 in
theorem tick_dead {w : World} {v : Value} (h : DeadK w v) (b : Bool) (l : List Value) (hl : l.length = 8) (hl1 : l.all cell1 = true) : Calls Tryz.prog 5 #[v, .bool b, .agg l.toArray] w (AggP postsZ w) := by
  have hB := (Below.refl w.heap.size w).alloc (Nat.le_refl _) (.cells l.toArray 74)
  have hD := h.below hB
  obtain ⟨h1, h2, h3, h4, h5, h6⟩ := dead_fin (w.alloc (.cells l.toArray 74)) 72 postsZ (n := 4) rfl
  have e1 : (w.alloc (.cells l.toArray 74)).heap.size = w.heap.size + 1 := by simp
  have h7 := hB.trans (h6.mono hB.size)
  rw [e1] at h1 h2 h3 h4 h5 h7
  have HE := Lib.hid (And.intro h4 (And.intro h5 h7))
  have hD := hD.below ((Below.refl _ (w.alloc (.cells l.toArray 74))).alloc (Nat.le_refl _) (.cells postsZ.toArray 72))
  clear h4 h5 h6 h7 h hB e1
  rcases hD with rfl | ⟨b, rfl, hc⟩
  all_goals go_enter Tryz.func5, Tryz.ntmps5
  all_goals go_upto_region 1 with fail
  all_goals generalize (w.alloc (.cells l.toArray 74)).alloc (.cells postsZ.toArray 72) = w0 at *
  all_goals go_step3
  all_goals go_wp2_with fail
  all_goals (try simp only [Exit.inBlock, Exit.then, Exit.noGoto_ret])
  all_goals first | refine bodyPost_ret (ret_rowB (n := 4) rfl ag_posts _ _ _ rfl ?_) rfl ?_ | refine bodyPost_end (ret_rowB (n := 4) rfl ag_posts _ _ _ rfl ?_) rfl ?_
  all_goals first | exact HE.out.1 | (rw [HE.out.2.1]; exact ⟨rfl, HE.out.2.2⟩)
end Go.Proofs.YtnckfjmaochnkaaGreatDoor
