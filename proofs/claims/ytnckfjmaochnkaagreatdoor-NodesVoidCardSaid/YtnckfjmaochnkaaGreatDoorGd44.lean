/-
  Nodes (chapter 30): a node's offer while no slot runs; a new node.
-/
import Derived.Test.YtnckfjmaochnkaaGreatDoorGd43
import Derived.Lib.LazyBuf
namespace Go.Proofs.YtnckfjmaochnkaaGreatDoor
open Go.RowKit
set_option linter.unusedVariables false
set_option linter.unusedSimpArgs false

/-- a scope in which the run jumps forward, once -/
theorem wp_scope_fwd {Pr : Program} {a : Act} {w : World} {Q : Exit → Act → World → Prop} {c rest : Code} (l : Nat) (hf : findLabel c l = some rest) (h : c.wp Pr (Exit.jump l (fun a w => rest.wp Pr (Exit.noGoto Q) a w) Q) a w) : (Code.scope c).wp Pr Q a w :=
  wp_scope_jumps l (fun a w => rest.wp Pr (Exit.noGoto Q) a w) (fun _ _ => 0) hf h fun a w h => wp_mono h fun e a w hq => by cases e <;> first | exact hq | exact hq.elim
theorem jump_ret {l : Nat} {J : Act → World → Prop} {Q : Exit → Act → World → Prop} {a : Act} {w : World} : Exit.jump l J Q .ret a w = Q .ret a w := rfl
theorem jump_goto {l : Nat} {J : Act → World → Prop} {Q : Exit → Act → World → Prop} {a : Act} {w : World} (h : J a w) : Exit.jump l J Q (.goto l) a w := ⟨rfl, h⟩
set_option maxRecDepth 100000 in
set_option maxHeartbeats 1000000 in
theorem offer_idle (S : Nat → Prop) (p : Nat) (A : CfA) (q : Nat) (c : Cfg) (nb : Nat) (me : Int) (w : World) (h : NetAt S w p A q c) (hok : RefOk c)
    (h0 : w.cell? ⟨nb, 120, none⟩ = some (.pointer (some ⟨p, 0, none⟩))) (h1 : w.cell? ⟨nb, 121, none⟩ = some (.int .i64 me)) (h2 : w.cell? ⟨nb, 61, none⟩ = some (.bool false)) :
    Calls Tryz.prog 25 #[.pointer (some ⟨nb, 0, none⟩)] w (AggP saidZ w) := by
  obtain ⟨-, -, h3, h4, h5, h6⟩ := dead_fin w 42 saidZ (n := 6) rfl
  have hB0 : Below w.heap.size w (w.alloc (.cells saidZ.toArray 42)) := (Below.refl _ _).alloc (Nat.le_refl _) _
  have hl := World.block_lt_of_cell? w _ h0
  have c0 := (hB0.cell (p := ⟨nb, 120, none⟩) hl).trans h0
  have c1 := (hB0.cell (p := ⟨nb, 121, none⟩) hl).trans h1
  have c2 := (hB0.cell (p := ⟨nb, 61, none⟩) hl).trans h2
  obtain ⟨z, hz⟩ : ∃ z, Hid (z = atE (pairsL c) me) := ⟨_, Lib.hid rfl⟩
  have HP : Hid (∀ w', Below w.heap.size w w' → Calls Tryz.prog 65 #[.pointer (some ⟨p, 0, none⟩), .int .i64 me] w' (fun e w'' => e = .returned (.int .i64 z) ∧ w'' = w')) := Lib.hid fun w' hb => by rw [hz.out]; exact pairN_any S p A q c w' (NetTab.at_ h hb) hok me
  have HE := Lib.hid (And.intro h4 (And.intro h5 h6))
  have HB := Lib.hid hB0
  clear h4 h5 h6 h hB0 h0 h1 h2 hok
  go_enter Tryz.func25, Tryz.ntmps25
  go_upto_region 1 with fail
  generalize w.alloc (.cells saidZ.toArray 42) = w0 at *
  go_region_held3 (fun w' => w'.cell? ⟨nb, 120, none⟩ = some (.pointer (some ⟨p, 0, none⟩)) ∧ w'.cell? ⟨nb, 121, none⟩ = some (.int .i64 me) ∧ w'.cell? ⟨nb, 61, none⟩ = some (.bool false))
    (exact ⟨c0, c1, c2⟩)
    ((go_at_call 65; (with_reducible refine (HP.out w0.drew HB.out.drew).mono ?_); rintro e w2 ⟨rfl, rfl⟩))
  all_goals go_wp2_with fail
  all_goals (try simp only [Exit.inBlock, Exit.then])
  all_goals first | refine bodyPost_ret (ret_rowB (n := 6) rfl (by kernel_rfl) _ _ _ rfl ?_) rfl ?_ | refine bodyPost_end (ret_rowB (n := 6) rfl (by kernel_rfl) _ _ _ rfl ?_) rfl ?_
  · exact HE.out.1
  · rw [show rowOf (putRow w0 ⟨w.heap.size, 0, none⟩ saidZ).drew ⟨w.heap.size, 0, none⟩ 6 = saidZ from HE.out.2.1]
    exact ⟨rfl, HE.out.2.2.drew⟩
/-- a nil list's copy -/
theorem eql_nilE (w : World) : (binOp .eql 60 (.slice none 0 0) (.slice none 0 0)).run Tryz.prog w = .ok (.bool true) w := Go.run_eql_slice_nil w _ _ none 0 0 Tryz.underlying60
set_option maxRecDepth 100000 in
theorem cloneE_nil (w : World) : Calls Tryz.prog 12 #[.slice none 0 0] w fun e w' => e = .returned (.slice none 0 0) ∧ w = w' := by
  have e1 := eql_nilE w
  go_enter Tryz.func12, Tryz.ntmps12
  go_wp2_with fail
  go_ret
  exact ⟨rfl, rfl⟩
def NdK.new (c : Cfg) (me : Nat) : NdK := ⟨c.N.toNat, c, c.B.getD me 0, firstV c, -1, .slice none 0 0, seenZ, false⟩
def NdS.new (c : Cfg) (me : Nat) : NdS := ⟨(0, 0, 0), LaneM.new c.N.toNat me, [], 0, (0, 0, 0), lkN (-1) (-1) (firstV c)⟩
def NodeNew (S : Nat → Prop) (A : CfA) (q : Nat) (c : Cfg) (p me : Nat) (w : World) (e : Ending) (w' : World) : Prop :=
  ∃ (P : NP) (D : NPd), e = .returned (.tuple #[ptrN P.nb, .int .i64 0]) ∧ P.p = p ∧ P.me = me ∧ NdX (fun b => S b ∧ b < w.heap.size) (fun b => w.heap.size ≤ b ∧ b < w'.heap.size) A q (NdK.new c me) w' P D (NdS.new c me) w' ∧ Below w.heap.size w w'
set_option maxRecDepth 100000 in
set_option maxHeartbeats 2000000 in
theorem nnew_any (S : Nat → Prop) (p : Nat) (A : CfA) (q : Nat) (c : Cfg) (me : Nat) (w : World) (h : NetAt S w p A q c) (hok : RefOk c) (h1 : (me : Int) < c.N) (hst : c.St = []) :
    Calls Tryz.prog 4 #[.pointer (some ⟨p, 0, none⟩), .int .i64 me, .slice none 0 0] w (NodeNew S A q c p me w) := by
  have HR := Lib.hid (round4_any S p A q c w h hok)
  obtain ⟨z, hz, hz1, hz2⟩ : ∃ z, z = roundV c ∧ 120 ≤ z ∧ z ≤ 65536 := ⟨_, rfl, hok.roundV⟩
  rw [← hz] at HR
  have hH := Lib.hid h
  have hO := Lib.hid hok
  have hS0 := Lib.hid hst
  have hmb : me < c.B.length := by have := hok.bl; omega
  obtain ⟨n, hn⟩ : ∃ n : Nat, c.N = n := ⟨c.N.toNat, by have := hok.n; omega⟩
  clear h hok hst hz
  go_enter Tryz.func4, Tryz.ntmps4
  go_wp2_with fail
  (with_reducible refine HR.out.mono ?_)
  rintro e w1 ⟨rfl, hb⟩
  have hN1 : NetAt (fun b => S b ∧ b < w.heap.size) w1 p A q c := NetTab.at_ (hH.out.mono (S' := fun b => S b ∧ b < w.heap.size) fun b hl hs => ⟨hs, hl⟩) hb
  have HN1 := Lib.hid hN1
  have HB1 := Lib.hid hb
  clear hb
  obtain ⟨c0, c1, c2, c3, c4, c5, c6, c7, c8, c9, hpl⟩ := hN1.cells
  clear c1 c2 c3 c5 c6 c7 c8 c9 hN1
  rw [hn] at c0 h1
  have g1 : decide ((me : Int) < 0) = false := by simp
  have g2 : decide ((n : Int) ≤ (me : Int)) = false := by simp; omega
  have HC := Lib.hid (cloneE_nil w1)
  go_wp2_with fail
  (with_reducible refine HC.out.mono ?_)
  rintro e w2 ⟨rfl, rfl⟩
  go_upto_region 6 with fail
  clear HC g1 g2
  have hk : Blk (w1.alloc (.cells (memZ ++ [Value.pointer (some ⟨p, 0, none⟩), .int .i64 me, .slice none 0 0, nilP]).toArray 63)) w1.heap.size 63 (ndV memZ p me (.slice none 0 0) (.pointer none)).toArray := Blk.new _ _ _
  have hB2 := balN (Below.refl w1.heap.size w1) (.cells (memZ ++ [Value.pointer (some ⟨p, 0, none⟩), .int .i64 me, .slice none 0 0, nilP]).toArray 63)
  generalize w1.alloc (.cells (memZ ++ [Value.pointer (some ⟨p, 0, none⟩), .int .i64 me, .slice none 0 0, nilP]).toArray 63) = w2 at hk hB2 ⊢
  have HN2 := Lib.hid (NetTab.at_ HN1.out hB2)
  replace c4 := (hB2.cell (p := ⟨p, 4, none⟩) hpl).trans c4
  obtain ⟨boot, hbt⟩ : ∃ z, c.B[me]? = some z := ⟨_, List.getElem?_eq_getElem hmb⟩
  have hbd : boot = c.B.getD me 0 := by simp [List.getD, hbt]
  have hbr := hO.out.b boot (List.mem_of_getElem? hbt)
  obtain ⟨b, off, hba, -, -, hcb⟩ := HN2.out.cf.b.2 me boot hbt
  have hbn := HN2.out.cf.b.1
  rw [hba] at c4
  have hlt : me < A.bn := by omega
  obtain ⟨bn, hbn2⟩ : ∃ bn, bn = A.bn := ⟨_, rfl⟩
  obtain ⟨bc, hbc2⟩ : ∃ bc, bc = A.bc := ⟨_, rfl⟩
  rw [← hbn2] at hlt
  rw [← hbn2, ← hbc2] at c4
  clear hbn2 hbc2 hbn hba
  have HP := Lib.hid (pwnew_ok boot w2 hbr.1 hbr.2)
  have HK := Lib.hid hk
  have HB2 := Lib.hid hB2
  have HBD := Lib.hid (And.intro hbd hbr)
  clear hk hB2 hbd hbr hbt
  go_wp2_with fail
  (with_reducible refine HP.out.mono ?_)
  rintro e w3 ⟨rfl, rfl⟩
  have hk3 := HK.out.alloc (.cells (pwCells boot 0 0 0) 129)
  have hp3 := Blk.new w2 129 (pwCells boot 0 0 0)
  have hB3 := balN (Below.refl w2.heap.size w2) (.cells (pwCells boot 0 0 0) 129)
  generalize w2.alloc (.cells (pwCells boot 0 0 0) 129) = w3 at hk3 hp3 hB3 ⊢
  have m0 : w3.cell? ⟨w1.heap.size, 123, none⟩ = some (.pointer none) := hk3.cell 123
  have mf : w3.frozen? ⟨w1.heap.size, 123, none⟩ = false := hk3.frozen 123
  have hpb : w1.heap.size < w2.heap.size := HK.out.lt
  have hk4 := hk3.set_ 123 (.pointer (some ⟨w2.heap.size, 0, none⟩))
  have hp4 := hp3.far (p := ⟨w1.heap.size, 123, none⟩) (by show w2.heap.size ≠ w1.heap.size; omega) (.pointer (some ⟨w2.heap.size, 0, none⟩))
  have hB4 : Below w1.heap.size w1 (w3.setCell ⟨w1.heap.size, 123, none⟩ (.pointer (some ⟨w2.heap.size, 0, none⟩))) := (HB2.out.trans (hB3.mono (Nat.le_of_lt hpb))).setCell (Nat.le_refl _) _
  clear hk3 hp3 hB3 c4 hcb hlt
  go_upto_region 7 with fail
  generalize w3.setCell ⟨w1.heap.size, 123, none⟩ (.pointer (some ⟨w2.heap.size, 0, none⟩)) = w4 at hk4 hp4 hB4 ⊢
  clear m0 mf
  have hk4' : Blk w4 w1.heap.size 63 (ndV memZ p me (.slice none 0 0) (ptrN w2.heap.size)).toArray := hk4
  have hN4 := NetTab.at_ HN1.out hB4
  have hw4 : w1.heap.size < w4.heap.size := hk4'.lt
  have hw5 : w2.heap.size < w4.heap.size := hp4.lt
  have HF := Lib.hid (fresh_any _ p A q c me w1.heap.size memZ (.slice none 0 0) (ptrN w2.heap.size) w4 hN4 hO.out (by rw [hn]; exact h1) hS0.out rfl hk4' (by have := HB1.out.size; omega))
  have HX := Lib.hid (And.intro hk4' (And.intro hp4 (And.intro hB4 hN4)))
  clear hk4 hk4' hp4 hB4 hN4
  go_wp2_with fail
  (with_reducible refine HF.out.mono ?_)
  rintro e w5 ⟨rfl, lp, gp, lo, hi, ckb, cqb, rg, fb, fv, cg, bx, k1, k2, k3, k4, k5, k6, k7, k8, g1, g2, g3, g4, g5, g6, g7, kc⟩
  have HE : Hid (NodeNew S A q c p me w (.returned (.tuple #[.pointer (some ⟨w1.heap.size, 0, none⟩), .int .i64 0])) w5) := Lib.hid (by
    obtain ⟨x1, x2, x3, x4⟩ := HX.out
    have hsz := HB1.out.size
    have h5 := kc.size
    have e5 : Below w.heap.size w w5 := HB1.out.trans ((x3.mono hsz).trans (kc.below (B := w.heap.size) (by omega) (by rintro k rfl; exact hsz)))
    have q1 := k3.lt; have q2 := k4.lt; have q3 := k5.lt; have q4 := k7.lt; have q5 := k1.lt
    refine ⟨⟨w1.heap.size, p, w2.heap.size, lp, ckb, cqb, rg, fb, cg, ptrN bx, me, .slice none 0 0⟩, ⟨.slice none 0 0, gp, fun _ => 0, fun b => lo ≤ b ∧ b < hi⟩, rfl, rfl, rfl, ⟨NetTab.keep x4 h5 fun b hb _ => kc.block b (by assumption) (by intro e; have := hb.2; omega), k1, ?_, k2, ⟨k3, .inl ⟨rfl, rfl⟩⟩, k4, k5, k7, ?_, Chg.refl _ _⟩, e5⟩
    · have := x2.chg kc (by intro e; omega)
      have hb0 := HBD.out.1
      show Blk w5 w2.heap.size _ (pwCells (c.B.getD me 0) 0 0 0)
      rw [← hb0]; exact this
    · have hlh := k2.lt
      obtain ⟨y1, y2⟩ := k2.sp
      refine ⟨⟨by show w.heap.size ≤ w1.heap.size; omega, q5⟩, ⟨by show w.heap.size ≤ w2.heap.size; omega, by show w2.heap.size < w5.heap.size; omega⟩, ⟨by show w.heap.size ≤ ckb; omega, q1⟩, ⟨by show w.heap.size ≤ cqb; omega, q2⟩, ⟨by show w.heap.size ≤ rg; omega, q3⟩, ⟨by show w.heap.size ≤ cg; omega, q4⟩, fun b hb => .inl ⟨by have := hb.1; omega, hlh b hb⟩, fun b e => (by cases e), fun b hb => ⟨by have := hb.2; omega, fun e => by have := hb.2; have := e.1; omega⟩, fun b hb => hb.2, fun b hb => ?_⟩
      obtain ⟨b1, b2⟩ := hb
      refine ⟨?_, ?_, ?_, ?_, ?_, ?_, fun e => by cases e⟩
      · show b ≠ w1.heap.size; omega
      · show b ≠ w2.heap.size; omega
      · show b ≠ ckb; omega
      · show b ≠ cqb; omega
      · show b ≠ rg; omega
      · show b ≠ cg; omega)
  clear k1 k2 k3 k4 k5 k6 k7 k8 kc
  go_wp2_with fail
  go_ret2
  exact HE.out
end Go.Proofs.YtnckfjmaochnkaaGreatDoor
