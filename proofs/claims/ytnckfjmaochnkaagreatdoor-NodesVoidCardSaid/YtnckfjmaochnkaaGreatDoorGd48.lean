/-
  Nodes (chapter 30): the chapter's example: a node's first tick.
-/
import Derived.Test.YtnckfjmaochnkaaGreatDoorGd47
namespace Go.Proofs.YtnckfjmaochnkaaGreatDoor
open Go.RowKit
set_option linter.unusedVariables false
set_option linter.unusedSimpArgs false

theorem rdz_litN {w w' : World} {g : Nat} {t : TypeId} {l : List Int} (h : Blk w' g t (ints l).toArray) (hg : w.heap.size ≤ g) : RdZ (w.heap.size ≤ ·) w' (some ⟨g, 0, none⟩) l.length l :=
  ⟨rfl, fun k z hz => ⟨g, 0, rfl, hg, h.lt, by rw [h.cell, List.getElem?_toArray, ints, List.getElem?_map, Nat.zero_add, hz]; rfl⟩⟩
def liveAN (g : Nat) : CfA := ⟨some ⟨g, 0, none⟩, 2, 2, some ⟨g + 1, 0, none⟩, 2, 2, some ⟨g + 2, 0, none⟩, 4, 4, none, 0, 0⟩
def insZ : List Value := insA 0 0 0 0 (fun _ => none) (fun _ => 0) (fun _ => 0)
theorem built_ins0 (parts : List (Nat × Value)) : Tryz.prog.built 74 parts = Instr.fill (fun i => some (i * 4, 4)) insZ.toArray parts := by kernel_rfl
theorem built_posts0 (parts : List (Nat × Value)) : Tryz.prog.built 72 parts = Instr.fill (fun i => some (i * 2, 2)) postsZ.toArray parts := by kernel_rfl
theorem bt_post : buildT Tryz.prog 71 [.int .u8 0, .slice none 0 0] [(0, 1), (1, 1)] := ⟨by kernel_rfl, by kernel_rfl⟩
section
variable (ρ : Operand → Value) (d : Option Tmp) (x : Operand) (ty : TypeId) (s : String) (af : Array Edge) (g : Option (Nat × Bool)) (w : World)
@[go_sem ↓] theorem bd_insP : (execOp ρ { dst := d, op := .build 74 #[], type := ty, pos := s, after := af, guard := g }).run Tryz.prog w = .ok (.value (.agg insZ.toArray)) w :=
  exec_build ρ d #[] ty s af g w (by rw [built_ins0]; simp [fill_nil])
@[go_sem ↓] theorem bd_post1 (h : lenC (ρ x) 1 = true) : (execOp ρ { dst := d, op := .build 71 #[(0, x)], type := ty, pos := s, after := af, guard := g }).run Tryz.prog w = .ok (.value (.agg (cellsL (ρ x) ++ [Value.slice none 0 0]).toArray)) w := by
  obtain ⟨u, hu⟩ := one_cellN h
  rw [exec_build1 bt_post (i := 0) rfl (by simp) ρ d x ty s af g w h, hu]
  rfl
@[go_sem ↓] theorem bd_posts1 (h : lenC (ρ x) 2 = true) : (execOp ρ { dst := d, op := .build 72 #[(0, x)], type := ty, pos := s, after := af, guard := g }).run Tryz.prog w = .ok (.value (.agg (cellsL (ρ x) ++ [Value.int .u8 0, Value.slice none 0 0]).toArray)) w := by
  have h2 : (cellsL (ρ x)).length = 2 := by simpa [lenC] using h
  refine exec_build ρ d _ ty s af g w ?_
  simp only [List.map_toArray, List.map_cons, List.map_nil]
  rw [built_posts0, fill_one _ _ 0 0 2 _ _ rfl h2 (by simp [postsZ]), fill_nil]
  simp [spl, h2, postsZ]
@[go_sem ↓] theorem bd_ins1 (h : lenC (ρ x) 4 = true) : (execOp ρ { dst := d, op := .build 74 #[(0, x)], type := ty, pos := s, after := af, guard := g }).run Tryz.prog w = .ok (.value (.agg (cellsL (ρ x) ++ postsZ).toArray)) w := by
  have h2 : (cellsL (ρ x)).length = 4 := by simpa [lenC] using h
  refine exec_build ρ d _ ty s af g w ?_
  simp only [List.map_toArray, List.map_cons, List.map_nil]
  rw [built_ins0, fill_one _ _ 0 0 4 _ _ rfl h2 (by simp [insZ, insA]), fill_nil]
  simp [spl, h2, insZ, insA, postsZ, insV]
end
/-- the example's tick -/
def LiveT (w : World) (P : NP) (b5 : Nat) (k0 : List Value) (e : Ending) (w' : World) : Prop :=
  ∃ g0 g1, e = .returned (.agg #[.int .u8 0, .slice (some ⟨g0, 0, none⟩) 4 4, .int .u8 0, .slice (some ⟨g1, 0, none⟩) 4 4]) ∧
    (w'.cell? ⟨g0, 0, none⟩ = some (.bool false) ∧ w'.cell? ⟨g0, 57, none⟩ = some (.bool true) ∧ w'.cell? ⟨g0, 114, none⟩ = some (.bool false) ∧ w'.cell? ⟨g0, 171, none⟩ = some (.bool false) ∧ w'.cell? ⟨g0, 58, none⟩ = some (.int .i64 0)) ∧
    (w'.cell? ⟨g1, 0, none⟩ = some (.bool false) ∧ w'.cell? ⟨g1, 57, none⟩ = some (.bool true) ∧ w'.cell? ⟨g1, 114, none⟩ = some (.bool false) ∧ w'.cell? ⟨g1, 171, none⟩ = some (.bool false)) ∧
    Blk w' b5 57 k0.toArray ∧ Below w.heap.size w w' ∧
    ∀ w'', Below w'.heap.size w' w'' → Calls Tryz.prog 8 #[.pointer (some ⟨P.nb, 0, none⟩)] w'' (AggP (lookV (tkK (NdK.new liveN 1) (NdS.new liveN 1) noIns)) w'')
theorem live_tick (w w1 w2 w4 : World) (A : CfA) (q : Nat) (P : NP) (D : NPd) (b5 : Nat) (k0 : List Value) (hw1 : Below w.heap.size w w4) (hsz : w.heap.size ≤ w1.heap.size) (hsz2 : w1.heap.size ≤ w2.heap.size) (hx : NdX (fun b => w.heap.size ≤ b ∧ b < w1.heap.size) (fun b => w1.heap.size ≤ b ∧ b < w2.heap.size) A q (NdK.new liveN 1) w2 P D (NdS.new liveN 1) w4) (hf : Free (fun b => w1.heap.size ≤ b ∧ b < w2.heap.size) D w4 b5) (hk : Blk w4 b5 57 k0.toArray) :
    Calls Tryz.prog 5 #[.pointer (some ⟨P.nb, 0, none⟩), .bool true, .agg insZ.toArray] w4 (LiveT w P b5 k0) := by
  refine (tick_any _ _ A q (NdK.new liveN 1) P D (NdS.new liveN 1) w4 hx.rebase live_ok (by rw [live_q]) (fun _ => False) (fun _ => none) (fun _ => 0) (fun _ => 0) noIns ⟨fun i _ => ⟨rfl, by simp [noIns], by simp [noIns]⟩, fun i _ => ⟨Nat.le_refl _, Nat.zero_le _⟩⟩ (fun _ h => h.elim) (by simp [noIns]) (.inl live_sure) 0 0 0 0).mono ?_
  rintro e w' ⟨D', g0, g1, m, rfl, hX, hne, hm, h0, h1, hr0, hr1, hkf⟩
  refine ⟨g0, g1, rfl, live_cells rfl hr0, ?_, (hkf.2 b5 hf.rebase).2.trans hk, ?_, fun w'' hb => ?_⟩
  · obtain ⟨a, b, c, d, -⟩ := live_cells rfl hr1
    exact ⟨a, b, c, d⟩
  · refine hw1.trans (hX.c.below hw1.size ?_)
    rintro k (e | e | e)
    · omega
    · rcases hx.own.ol k e with e | e <;> omega
    · rcases hx.own.ov k e with e | e <;> omega
  · exact nlook_any (hX.below hb) live_ok.hs ⟨rfl, len_firstV _, rfl⟩ (by
      show (lookV (tkK (NdK.new liveN 1) (NdS.new liveN 1) noIns)).all cell1 = true
      simp only [lookV, tkK, List.all_cons, List.all_append, live_ok.hVa]
      rfl)
set_option maxRecDepth 100000 in
set_option maxHeartbeats 4000000 in
theorem lives30_any (w : World) (hsg : SgW w) : Calls Tryz.prog 10 #[] w fun e w' => e = .returned (.bool true) ∧ Below w.heap.size w w' := by
  have hB : Below w.heap.size w (((w.alloc (.cells #[Value.int .i64 0, .int .i64 2] 3)).alloc (.cells #[Value.int .i64 0, .int .i64 1] 3)).alloc (.cells #[Value.int .i64 0, .int .i64 0, .int .i64 0, .int .i64 0] 3)) := (((Below.refl _ _).alloc (Nat.le_refl _) _).alloc (by simp) _).alloc (by simp; omega) _
  have k1 := ((Blk.new w 3 #[Value.int .i64 0, .int .i64 2]).alloc (.cells #[Value.int .i64 0, .int .i64 1] 3)).alloc (.cells #[Value.int .i64 0, .int .i64 0, .int .i64 0, .int .i64 0] 3)
  have k2 := (Blk.new (w.alloc (.cells #[Value.int .i64 0, .int .i64 2] 3)) 3 #[Value.int .i64 0, .int .i64 1]).alloc (.cells #[Value.int .i64 0, .int .i64 0, .int .i64 0, .int .i64 0] 3)
  have k3 := Blk.new ((w.alloc (.cells #[Value.int .i64 0, .int .i64 2] 3)).alloc (.cells #[Value.int .i64 0, .int .i64 1] 3)) 3 #[Value.int .i64 0, .int .i64 0, .int .i64 0, .int .i64 0]
  have e1 : (w.alloc (.cells #[Value.int .i64 0, .int .i64 2] 3)).heap.size = w.heap.size + 1 := by simp
  have e2 : ((w.alloc (.cells #[Value.int .i64 0, .int .i64 2] 3)).alloc (.cells #[Value.int .i64 0, .int .i64 1] 3)).heap.size = w.heap.size + 1 + 1 := by simp
  rw [e1] at k2
  rw [e2] at k3
  have hC : CfR (w.heap.size ≤ ·) (((w.alloc (.cells #[Value.int .i64 0, .int .i64 2] 3)).alloc (.cells #[Value.int .i64 0, .int .i64 1] 3)).alloc (.cells #[Value.int .i64 0, .int .i64 0, .int .i64 0, .int .i64 0] 3)) (liveAN w.heap.size) liveN := ⟨rdz_litN (l := [0, 2]) k1 (Nat.le_refl _), rdz_litN (l := [0, 1]) k2 (Nat.le_succ _), rdz_litN (l := [0, 0, 0, 0]) k3 (by omega), ⟨rfl, by simp [liveN]⟩, by unfold maxLen; simp [liveAN]⟩
  have HN : Hid (Calls Tryz.prog 30 #[.agg #[.int .i64 4, .slice (some ⟨w.heap.size, 0, none⟩) 2 2, .slice (some ⟨w.heap.size + 1, 0, none⟩) 2 2, .int .i64 120, .slice (some ⟨w.heap.size + 1 + 1, 0, none⟩) 4 4, .slice none 0 0, .int .i64 3, .int .i64 3, .int .i64 3]] (((w.alloc (.cells #[Value.int .i64 0, .int .i64 2] 3)).alloc (.cells #[Value.int .i64 0, .int .i64 1] 3)).alloc (.cells #[Value.int .i64 0, .int .i64 0, .int .i64 0, .int .i64 0] 3)) (NewYes liveN (((w.alloc (.cells #[Value.int .i64 0, .int .i64 2] 3)).alloc (.cells #[Value.int .i64 0, .int .i64 1] 3)).alloc (.cells #[Value.int .i64 0, .int .i64 0, .int .i64 0, .int .i64 0] 3)))) := Lib.hid (newYes_any _ (liveAN w.heap.size) liveN _ hC (hsg.below hB) live_ref)
  have HB := Lib.hid hB
  clear hB k1 k2 k3 e1 e2 hC hsg
  go_enter Tryz.func10, Tryz.ntmps10
  go_wp2_with fail
  (with_reducible refine HN.out.mono ?_)
  rintro e w1 ⟨p, A, q, rfl, hn, hb⟩
  have HB1 := Lib.hid (HB.out.trans (hb.mono HB.out.size))
  have hn1 : NetAt (w.heap.size ≤ ·) w1 p A q liveN := NetTab.mono hn fun b _ h => Nat.le_trans HB.out.size h
  have HNw : Hid (Calls Tryz.prog 4 #[.pointer (some ⟨p, 0, none⟩), .int .i64 1, .slice none 0 0] w1 fun e w' => ∃ (P : NP) (D : NPd), e = .returned (.tuple #[.pointer (some ⟨P.nb, 0, none⟩), .int .i64 0]) ∧ NdX (fun b => w.heap.size ≤ b ∧ b < w1.heap.size) (fun b => w1.heap.size ≤ b ∧ b < w'.heap.size) A q (NdK.new liveN 1) w' P D (NdS.new liveN 1) w' ∧ Below w1.heap.size w1 w') := Lib.hid (by
    refine (nnew_any _ p A q liveN 1 w1 hn1 live_ref (by decide) rfl).mono ?_
    rintro e w' ⟨P, D, he, _, _, hx, hb⟩
    exact ⟨P, D, he, hx, hb⟩)
  clear hn hn1 hb HN HB
  go_wp2_with fail
  (with_reducible refine HNw.out.mono ?_)
  rintro e w2 ⟨P, D, rfl, hx, hb⟩
  have HX2 := Lib.hid hx
  have HB2 := Lib.hid hb
  clear hx hb HNw
  have HL2 := Lib.hid (nlook_any HX2.out live_ok.hs live_ok.hk (by decide))
  go_wp2_with fail
  (with_reducible refine HL2.out.mono ?_)
  rintro e w3 ⟨rfl, hb3⟩
  have HB3 := Lib.hid hb3
  clear hb3 HL2
  obtain ⟨k0, hk0⟩ : ∃ l, Hid (l = lookV (NdS.new liveN 1).k) := ⟨_, Lib.hid rfl⟩
  rw [← hk0.out]
  have hkl : k0.length = 63 := by rw [hk0.out]; rfl
  have hka : k0.all cell1 = true := by rw [hk0.out]; decide
  go_upto_region 4 with fail
  have hb4 := balN (Below.refl w3.heap.size w3) (.cells k0.toArray 57)
  have hx3 := HX2.out.below HB3.out
  have hT : Hid (Calls Tryz.prog 5 #[.pointer (some ⟨P.nb, 0, none⟩), .bool true, .agg insZ.toArray] (w3.alloc (.cells k0.toArray 57)) (LiveT w P w3.heap.size k0)) := Lib.hid (by
    have q1 := HB1.out.size
    have q2 := HB2.out.size
    have q3 := HB3.out.size
    exact live_tick w w1 w2 _ A q P D _ _ (((HB1.out.trans (HB2.out.mono q1)).trans (HB3.out.mono (by omega))).trans (hb4.mono (by omega))) q1 q2 (hx3.below hb4) (hx3.free hb4 (Nat.le_refl _) (ltN _ _)) (Blk.new _ _ _))
  clear hb4 hx3 HX2 HB1 HB2 HB3
  generalize w3.alloc (.cells k0.toArray 57) = w4 at hT ⊢
  obtain ⟨b5, hb5⟩ : ∃ b, b = w3.heap.size := ⟨_, rfl⟩
  rw [← hb5] at hT ⊢
  clear hb5
  go_wp2_with fail
  (with_reducible refine hT.out.mono ?_)
  rintro e w5 ⟨g0, g1, rfl, h0, h1, hk5, hb5, hL⟩
  have HLk := Lib.hid hL
  have H5 := Lib.hid (And.intro h0 (And.intro h1 (And.intro hk5 hb5)))
  clear hT hL h0 h1 hk5 hb5
  go_upto_region 5 with fail
  have hb6 := balN (Below.refl w5.heap.size w5) (.cells #[Value.int .u8 0, .slice (some ⟨g0, 0, none⟩) 4 4, .int .u8 0, .slice (some ⟨g1, 0, none⟩) 4 4] 72)
  have hk6 := Blk.new w5 72 #[Value.int .u8 0, .slice (some ⟨g0, 0, none⟩) 4 4, .int .u8 0, .slice (some ⟨g1, 0, none⟩) 4 4]
  generalize w5.alloc (.cells #[Value.int .u8 0, .slice (some ⟨g0, 0, none⟩) 4 4, .int .u8 0, .slice (some ⟨g1, 0, none⟩) 4 4] 72) = w6 at hb6 hk6 ⊢
  obtain ⟨b6, hb6e⟩ : ∃ b, Hid (b = w5.heap.size) := ⟨_, Lib.hid rfl⟩
  rw [← hb6e.out] at hk6 ⊢
  have HL6 := Lib.hid (HLk.out w6 hb6)
  have HB6 := Lib.hid hb6
  have HK6 := Lib.hid hk6
  clear hb6 hk6 HLk
  go_wp2_with fail
  (with_reducible refine HL6.out.mono ?_)
  rintro e w7 ⟨rfl, hb7⟩
  obtain ⟨k1, hk1⟩ : ∃ l, Hid (l = lookV (tkK (NdK.new liveN 1) (NdS.new liveN 1) noIns)) := ⟨_, Lib.hid rfl⟩
  rw [← hk1.out]
  have hkl1 : k1.length = 63 := by rw [hk1.out]; exact lookV_len ⟨rfl, len_firstV _, rfl⟩
  have hka1 : k1.all cell1 = true := by
    rw [hk1.out]
    simp only [lookV, tkK, List.all_cons, List.all_append, live_ok.hVa]
    rfl
  have HB7 := Lib.hid hb7
  clear hb7 HL6
  go_upto_region 6 with fail
  have hb8 := balN (Below.refl w7.heap.size w7) (.cells k1.toArray 57)
  have hk8 := Blk.new w7 57 k1.toArray
  generalize w7.alloc (.cells k1.toArray 57) = w8 at hb8 hk8 ⊢
  obtain ⟨b7, hb7e⟩ : ∃ b, Hid (b = w7.heap.size) := ⟨_, Lib.hid rfl⟩
  rw [← hb7e.out] at hk8 ⊢
  obtain ⟨h0, h1, hk5, hB5⟩ := H5.out
  have hB58 : Below w5.heap.size w5 w8 := (HB6.out.trans (HB7.out.mono HB6.out.size)).trans (hb8.mono (Nat.le_trans HB6.out.size HB7.out.size))
  have hB68 : Below w6.heap.size w6 w8 := HB7.out.trans (hb8.mono HB7.out.size)
  have HFIN : Hid (Below w.heap.size w w8) := Lib.hid (hB5.trans (hB58.mono hB5.size))
  have hkk5 := hk5.below hB58 hk5.lt
  have hkk6 := HK6.out.below hB68 HK6.out.lt
  have lg0 := World.block_lt_of_cell? w5 _ h0.1
  have lg1 := World.block_lt_of_cell? w5 _ h1.1
  have x0 : w8.cell? ⟨b5, 0, none⟩ = some (.int .u8 0) := by rw [hkk5.cell, hk0.out]; rfl
  have x1 : w8.cell? ⟨b5, 1, none⟩ = some (.int .i64 (-1)) := by rw [hkk5.cell, hk0.out]; rfl
  have x2 : w8.cell? ⟨b7, 0, none⟩ = some (.int .u8 2) := by rw [hk8.cell, hk1.out]; rfl
  have x3 : w8.cell? ⟨b7, 1, none⟩ = some (.int .i64 0) := by
    rw [hk8.cell, hk1.out]
    show some (Value.int .i64 (tkAge (NdK.new liveN 1) (NdS.new liveN 1) noIns)) = _
    rw [live_age]
  have x4 : w8.cell? ⟨b7, 3, none⟩ = some (.bool false) := by
    rw [hk8.cell, hk1.out]
    show some (Value.bool (tkSure (NdK.new liveN 1) (NdS.new liveN 1) noIns)) = _
    rw [live_sure]
  have x5 : w8.cell? ⟨b6, 0, none⟩ = some (.int .u8 0) := hkk6.cell 0
  have x6 : w8.cell? ⟨b6, 1, none⟩ = some (.slice (some ⟨g0, 0, none⟩) 4 4) := hkk6.cell 1
  have x7 : w8.cell? ⟨b6, 3, none⟩ = some (.slice (some ⟨g1, 0, none⟩) 4 4) := hkk6.cell 3
  have r0 := (hB58.cell (p := ⟨g0, 0, none⟩) lg0).trans h0.1
  have r1 := (hB58.cell (p := ⟨g0, 57, none⟩) lg0).trans h0.2.1
  have r2 := (hB58.cell (p := ⟨g0, 114, none⟩) lg0).trans h0.2.2.1
  have r3 := (hB58.cell (p := ⟨g0, 171, none⟩) lg0).trans h0.2.2.2.1
  have r4 := (hB58.cell (p := ⟨g0, 58, none⟩) lg0).trans h0.2.2.2.2
  have q0 := (hB58.cell (p := ⟨g1, 0, none⟩) lg1).trans h1.1
  have q1 := (hB58.cell (p := ⟨g1, 57, none⟩) lg1).trans h1.2.1
  have q2 := (hB58.cell (p := ⟨g1, 114, none⟩) lg1).trans h1.2.2.1
  have q3 := (hB58.cell (p := ⟨g1, 171, none⟩) lg1).trans h1.2.2.2
  clear h0 h1 hk5 hB5 hB58 hB68 hkk5 hkk6 lg0 lg1 H5 HB6 HB7 HK6 hb8 hk8 hkl hka hkl1 hka1
  go_upto_region 9 with fail
  go_loopw [8] (fun i wr => ∃ k : Nat, k ≤ 4 ∧ i = .int .i64 k ∧ wr = w8) (fun i _ => 4 - (intOf i).toNat)
  case atStart => exact ⟨0, by omega, rfl, rfl⟩
  case round =>
    obtain ⟨k, hk, rfl, rfl⟩ := hrel
    rcases (show k = 0 ∨ k = 1 ∨ k = 2 ∨ k = 3 ∨ k = 4 by omega) with rfl | rfl | rfl | rfl | rfl
    · go_wp2_with fail
      exact ⟨⟨1, by omega, rfl, trivial⟩, by simp [intOf]⟩
    · go_wp2_with fail
      exact ⟨⟨2, by omega, rfl, trivial⟩, by simp [intOf]⟩
    · go_wp2_with fail
      exact ⟨⟨3, by omega, rfl, trivial⟩, by simp [intOf]⟩
    · go_wp2_with fail
      exact ⟨⟨4, by omega, rfl, trivial⟩, by simp [intOf]⟩
    · go_wp2_with fail
      go_ret
      exact ⟨rfl, HFIN.out⟩
end Go.Proofs.YtnckfjmaochnkaaGreatDoor
