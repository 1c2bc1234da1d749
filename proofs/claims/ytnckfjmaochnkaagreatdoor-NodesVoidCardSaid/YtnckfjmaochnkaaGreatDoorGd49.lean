/-
  Nodes (chapter 30): NodesVoid, walked.
-/
import Derived.Test.YtnckfjmaochnkaaGreatDoorGd48
namespace Go.Proofs.YtnckfjmaochnkaaGreatDoor
open Go.RowKit
set_option linter.unusedVariables false
set_option linter.unusedSimpArgs false

def netZ : List Value := cfZ ++ [.slice none 0 0]
def nodeZ : List Value := memZ ++ [nilP, .int .i64 0, .slice none 0 0, nilP]
@[go_sem ↓] theorem al_netN (ρ : Operand → Value) (d : Option Tmp) (ty : TypeId) (s : String) (af : Array Edge) (g : Option (Nat × Bool)) (w : World) : (execOp ρ { dst := d, op := .alloc 28, type := ty, pos := s, after := af, guard := g }).run Tryz.prog w = .ok (.value (.pointer (some ⟨w.heap.size, 0, none⟩))) (w.alloc (.cells netZ.toArray 28)) := exec_alloc (by unfold zeroIs; kernel_rfl) ρ d ty s af g w
@[go_sem ↓] theorem al_nodeN (ρ : Operand → Value) (d : Option Tmp) (ty : TypeId) (s : String) (af : Array Edge) (g : Option (Nat × Bool)) (w : World) : (execOp ρ { dst := d, op := .alloc 63, type := ty, pos := s, after := af, guard := g }).run Tryz.prog w = .ok (.value (.pointer (some ⟨w.heap.size, 0, none⟩))) (w.alloc (.cells nodeZ.toArray 63)) := exec_alloc (by unfold zeroIs; kernel_rfl) ρ d ty s af g w
@[go_sem ↓] theorem al_insP (ρ : Operand → Value) (d : Option Tmp) (ty : TypeId) (s : String) (af : Array Edge) (g : Option (Nat × Bool)) (w : World) : (execOp ρ { dst := d, op := .alloc 74, type := ty, pos := s, after := af, guard := g }).run Tryz.prog w = .ok (.value (.pointer (some ⟨w.heap.size, 0, none⟩))) (w.alloc (.cells insZ.toArray 74)) := exec_alloc (by unfold zeroIs; kernel_rfl) ρ d ty s af g w
@[go_sem ↓] theorem st_insP (ρ : Operand → Value) (d : Option Tmp) (x y : Operand) (ty : TypeId) (s : String) (af : Array Edge) (g : Option (Nat × Bool)) (w : World) (h1 : okAgg 8 (ρ y) = true) (h2 : canPutV w 8 (ρ x) = true) : (execOp ρ { dst := d, op := .store 74 x y, type := ty, pos := s, after := af, guard := g }).run Tryz.prog w = .ok .skip (putV w (ρ x) (ρ y)) := exec_store ag_ins ρ d x y ty s af g w h1 h2
@[go_sem ↓] theorem ld_insP (ρ : Operand → Value) (d : Option Tmp) (x : Operand) (ty : TypeId) (s : String) (af : Array Edge) (g : Option (Nat × Bool)) (w : World) (h : hasRowV w 8 (ρ x) = true) : (execOp ρ { dst := d, op := .load 74 x, type := ty, pos := s, after := af, guard := g }).run Tryz.prog w = .ok (.value (.agg (rowV w 8 (ρ x)).toArray)) w := exec_load ag_ins ρ d x ty s af g w h
@[go_sem] theorem len_insZ : insZ.length = 8 := (rfl)
@[go_sem] theorem all_insZ : insZ.all cell1 = true := by kernel_rfl
def payK : List Kd := [.i .u8, .i .u8, .i .u32, .i .u32]
def stateK : List Kd := [.b, .i .u32, .i .u32, .i .i64]
def lookK : List Kd := .i .u8 :: .i .i64 :: .i .i64 :: .b :: .b :: .i .i64 :: .i .i64 :: .i .i64 :: .i .i64 :: (saidK ++ (viewK ++ saidK))
@[go_sem] theorem payZ_ok : okL payK payZ = true := by decide
@[go_sem] theorem stateZ_ok : okL stateK stateZ = true := by decide
@[go_sem] theorem look0_ok : okL lookK (lookV lk0) = true := by decide
section
variable (ρ : Operand → Value) (ds : Option Tmp) (x y : Operand) (t' ty : TypeId) (s : String) (af : Array Edge) (g : Option (Nat × Bool)) (w : World)
@[go_sem ↓] theorem ne_pay (h1 : okV payK (ρ x) = true) (h2 : okV payK (ρ y) = true) : (execOp ρ { dst := ds, op := .binOp .neq 40 x y t', type := ty, pos := s, after := af, guard := g }).run Tryz.prog w = .ok (.value (.bool (!eqV (ρ x) (ρ y)))) w := exec_neq (d := 6) (by kernel_rfl) (by omega) (by kernel_rfl) (by kernel_rfl) ρ ds x y t' ty s af g w h1 h2
@[go_sem ↓] theorem ne_state (h1 : okV stateK (ρ x) = true) (h2 : okV stateK (ρ y) = true) : (execOp ρ { dst := ds, op := .binOp .neq 85 x y t', type := ty, pos := s, after := af, guard := g }).run Tryz.prog w = .ok (.value (.bool (!eqV (ρ x) (ρ y)))) w := exec_neq (d := 6) (by kernel_rfl) (by omega) (by kernel_rfl) (by kernel_rfl) ρ ds x y t' ty s af g w h1 h2
@[go_sem ↓] theorem ne_look (h1 : okV lookK (ρ x) = true) (h2 : okV lookK (ρ y) = true) : (execOp ρ { dst := ds, op := .binOp .neq 57 x y t', type := ty, pos := s, after := af, guard := g }).run Tryz.prog w = .ok (.value (.bool (!eqV (ρ x) (ρ y)))) w := exec_neq (d := 8) (by kernel_rfl) (by omega) (by kernel_rfl) (by kernel_rfl) ρ ds x y t' ty s af g w h1 h2
end
def insY (sy : Int) : List Value := [.int .u8 sy, .slice none 0 0, .int .u8 0, .slice none 0 0, .int .u8 0, .slice none 0 0, .int .u8 0, .slice none 0 0]
theorem insY_eq (sy : Int) : (Value.int .u8 sy :: Value.slice none 0 0 :: Value.int .u8 0 :: Value.slice none 0 0 :: postsZ) = insY sy := rfl
/-- what the law lays ahead of its rounds -/
structure VbF (w : World) (x0 x1 sy : Int) (b1 b2 b3 b4 b5 b6 : Nat) (wx : World) : Prop where
  hb : Below w.heap.size w wx
  a : Blk wx b1 22 #[.int .i64 x0, .int .i64 x1]
  net : Blk wx b2 28 netZ.toArray
  ns : Blk wx b3 29 #[.pointer none, .pointer (some ⟨b2, 0, none⟩)]
  nd : Blk wx b4 63 nodeZ.toArray
  ks : Blk wx b5 64 #[.pointer none, .pointer (some ⟨b4, 0, none⟩)]
  ins : Blk wx b6 74 (insY sy).toArray
theorem VbF.below {w : World} {x0 x1 sy : Int} {b1 b2 b3 b4 b5 b6 : Nat} {wx w' : World} (h : VbF w x0 x1 sy b1 b2 b3 b4 b5 b6 wx) (hb : Below wx.heap.size wx w') : VbF w x0 x1 sy b1 b2 b3 b4 b5 b6 w' :=
  ⟨h.hb.trans (hb.mono h.hb.size), h.a.below hb h.a.lt, h.net.below hb h.net.lt, h.ns.below hb h.ns.lt, h.nd.below hb h.nd.lt, h.ks.below hb h.ks.lt, h.ins.below hb h.ins.lt⟩
theorem vb_start (w : World) (x0 x1 sy : Int) : VbF w x0 x1 sy w.heap.size (w.heap.size + 1) (w.heap.size + 1 + 1) (w.heap.size + 1 + 1 + 1) (w.heap.size + 1 + 1 + 1 + 1) (w.heap.size + 1 + 1 + 1 + 1 + 1)
    ((((((w.alloc (.cells #[Value.int .i64 x0, .int .i64 x1] 22)).alloc (.cells netZ.toArray 28)).alloc (.cells #[Value.pointer none, .pointer (some ⟨w.heap.size + 1, 0, none⟩)] 29)).alloc (.cells nodeZ.toArray 63)).alloc (.cells #[Value.pointer none, .pointer (some ⟨w.heap.size + 1 + 1 + 1, 0, none⟩)] 64)).alloc (.cells (insY sy).toArray 74)) := by
  obtain ⟨w1, e1⟩ : ∃ w1, w1 = w.alloc (.cells #[Value.int .i64 x0, .int .i64 x1] 22) := ⟨_, rfl⟩
  have k1 : Blk w1 w.heap.size 22 #[.int .i64 x0, .int .i64 x1] := by rw [e1]; exact Blk.new _ _ _
  have s1 : w1.heap.size = w.heap.size + 1 := by rw [e1]; simp
  have f1 : Below w.heap.size w w1 := by rw [e1]; exact balN (Below.refl _ _) _
  rw [← e1]
  obtain ⟨w2, e2⟩ : ∃ w2, w2 = w1.alloc (.cells netZ.toArray 28) := ⟨_, rfl⟩
  have k2 : Blk w2 w1.heap.size 28 netZ.toArray := by rw [e2]; exact Blk.new _ _ _
  have s2 : w2.heap.size = w.heap.size + 1 + 1 := by rw [e2]; simp [s1]
  have f2 : Below w1.heap.size w1 w2 := by rw [e2]; exact balN (Below.refl _ _) _
  rw [← e2]
  obtain ⟨w3, e3⟩ : ∃ w3, w3 = w2.alloc (.cells #[Value.pointer none, .pointer (some ⟨w.heap.size + 1, 0, none⟩)] 29) := ⟨_, rfl⟩
  have k3 : Blk w3 w2.heap.size 29 #[.pointer none, .pointer (some ⟨w.heap.size + 1, 0, none⟩)] := by rw [e3]; exact Blk.new _ _ _
  have s3 : w3.heap.size = w.heap.size + 1 + 1 + 1 := by rw [e3]; simp [s2]
  have f3 : Below w2.heap.size w2 w3 := by rw [e3]; exact balN (Below.refl _ _) _
  rw [← e3]
  obtain ⟨w4, e4⟩ : ∃ w4, w4 = w3.alloc (.cells nodeZ.toArray 63) := ⟨_, rfl⟩
  have k4 : Blk w4 w3.heap.size 63 nodeZ.toArray := by rw [e4]; exact Blk.new _ _ _
  have s4 : w4.heap.size = w.heap.size + 1 + 1 + 1 + 1 := by rw [e4]; simp [s3]
  have f4 : Below w3.heap.size w3 w4 := by rw [e4]; exact balN (Below.refl _ _) _
  rw [← e4]
  obtain ⟨w5, e5⟩ : ∃ w5, w5 = w4.alloc (.cells #[Value.pointer none, .pointer (some ⟨w.heap.size + 1 + 1 + 1, 0, none⟩)] 64) := ⟨_, rfl⟩
  have k5 : Blk w5 w4.heap.size 64 #[.pointer none, .pointer (some ⟨w.heap.size + 1 + 1 + 1, 0, none⟩)] := by rw [e5]; exact Blk.new _ _ _
  have s5 : w5.heap.size = w.heap.size + 1 + 1 + 1 + 1 + 1 := by rw [e5]; simp [s4]
  have f5 : Below w4.heap.size w4 w5 := by rw [e5]; exact balN (Below.refl _ _) _
  rw [← e5]
  have k6 := Blk.new w5 74 (insY sy).toArray
  have f6 := balN (Below.refl w5.heap.size w5) (.cells (insY sy).toArray 74)
  rw [s5] at k6
  rw [s4] at k5
  rw [s3] at k4
  rw [s2] at k3
  rw [s1] at k2
  have g5 := f5.trans (f6.mono f5.size)
  have g4 := f4.trans (g5.mono f4.size)
  have g3 := f3.trans (g4.mono f3.size)
  have g2 := f2.trans (g3.mono f2.size)
  exact ⟨f1.trans (g2.mono f1.size), k1.below g2 k1.lt, k2.below g3 k2.lt, k3.below g4 k3.lt, k4.below g5 k4.lt, k5.below f6 k5.lt, k6⟩
set_option maxRecDepth 100000 in
theorem VbF.dn {w : World} {x0 x1 sy : Int} {b1 b2 b3 b4 b5 b6 : Nat} {wx : World} (h : VbF w x0 x1 sy b1 b2 b3 b4 b5 b6 wx) (k : Nat) (hk : k < 2) : ∃ lv kv, wx.cell? ⟨b3, k, none⟩ = some lv ∧ DeadN wx lv ∧ wx.cell? ⟨b5, k, none⟩ = some kv ∧ DeadK wx kv := by
  rcases (show k = 0 ∨ k = 1 by omega) with rfl | rfl
  · exact ⟨_, _, h.ns.cell 0, .inl rfl, h.ks.cell 0, .inl rfl⟩
  · exact ⟨_, _, h.ns.cell 1, .inr ⟨b2, none, 0, rfl, h.net.cell 9⟩, h.ks.cell 1, .inr ⟨b4, rfl, h.nd.cell 123⟩⟩
theorem DeadN.below {w w' : World} {v : Value} (h : DeadN w v) (hb : Below w.heap.size w w') : DeadN w' v := by
  rcases h with rfl | ⟨p, a, cp, rfl, h⟩
  · exact .inl rfl
  · exact .inr ⟨p, a, cp, rfl, (hb.cell (p := ⟨p, 9, none⟩) (World.block_lt_of_cell? w _ h)).trans h⟩
set_option maxRecDepth 100000 in
set_option maxHeartbeats 4000000 in
theorem nodesVoid_any (x0 x1 sy : Int) (w : World) (hsg : SgW w) : Calls Tryz.prog 3 #[.agg #[.int .i64 x0, .int .i64 x1], .int .u8 sy] w fun e w' => e = .returned (.bool true) ∧ Below w.heap.size w w' := by
  have HL : Hid (∀ w', Below w.heap.size w w' → Calls Tryz.prog 10 #[] w' fun e w'' => e = .returned (.bool true) ∧ Below w'.heap.size w' w'') := Lib.hid fun w' hb => lives30_any w' (hsg.below hb)
  clear hsg
  go_enter Tryz.func3, Tryz.ntmps3
  go_upto_region 7 with fail
  rw [insY_eq]
  have HV := Lib.hid (vb_start w x0 x1 sy)
  generalize (((((w.alloc (.cells #[Value.int .i64 x0, .int .i64 x1] 22)).alloc (.cells netZ.toArray 28)).alloc (.cells #[Value.pointer none, .pointer (some ⟨w.heap.size + 1, 0, none⟩)] 29)).alloc (.cells nodeZ.toArray 63)).alloc (.cells #[Value.pointer none, .pointer (some ⟨w.heap.size + 1 + 1 + 1, 0, none⟩)] 64)).alloc (.cells (insY sy).toArray 74) = w6 at HV ⊢
  generalize hb1 : w.heap.size + 1 + 1 + 1 + 1 + 1 = b6 at HV ⊢
  generalize hb2 : w.heap.size + 1 + 1 + 1 + 1 = b5 at HV ⊢
  generalize hb3 : w.heap.size + 1 + 1 + 1 = b4 at HV ⊢
  generalize hb4 : w.heap.size + 1 + 1 = b3 at HV ⊢
  generalize hb5 : w.heap.size + 1 = b2 at HV ⊢
  obtain ⟨b1, hb6⟩ : ∃ b1, b1 = w.heap.size := ⟨_, rfl⟩
  have HV1 : Hid (VbF w x0 x1 sy b1 b2 b3 b4 b5 b6 w6) := by rw [hb6]; exact HV
  rw [show (Value.pointer (some ⟨w.heap.size, 0, none⟩)) = .pointer (some ⟨b1, 0, none⟩) by rw [hb6]]
  clear HV hb1 hb2 hb3 hb4 hb5 hb6
  go_loopw [10] (fun i wr => ∃ k : Nat, k ≤ 2 ∧ i = .int .i64 k ∧ VbF w x0 x1 sy b1 b2 b3 b4 b5 b6 wr) (fun i _ => 2 - (intOf i).toNat)
  case atStart => exact ⟨0, by omega, rfl, HV1.out⟩
  case round =>
    obtain ⟨k, hk, rfl, hF⟩ := hrel
    have HF := Lib.hid hF
    clear hF
    by_cases hlt : k < 2
    · obtain ⟨lv, kv, l0, dn, l1, dk⟩ := HF.out.dn k hlt
      have HD := Lib.hid (And.intro dn dk)
      have a0 : wr.cell? ⟨b1, 0, none⟩ = some (.int .i64 x0) := HF.out.a.cell 0
      clear dn dk
      have hlt' : (k : Int) < 2 := by omega
      have hk0 : (0 : Int) ≤ k := by omega
      have L1 := Lib.hid l1
      have HNw : Hid (∀ w', Below wr.heap.size wr w' → Calls Tryz.prog 4 #[lv, .int .i64 x0, .slice none 0 0] w' fun e w'' => e = .returned (.tuple #[.pointer none, .int .i64 2]) ∧ w' = w'') := Lib.hid fun w' hb => nnew_dead (HD.out.1.below hb) x0
      clear l1 hk
      go_upto_region 9 with fail
      go_region_held3 (fun w' => w'.cell? ⟨b3, k, none⟩ = some lv ∧ w'.cell? ⟨b1, 0, none⟩ = some (.int .i64 x0)) (exact ⟨l0, a0⟩)
        ((go_at_call 4; (with_reducible refine (HNw.out wr.drew (Below.refl _ _).drew).mono ?_); rintro e w2 ⟨rfl, rfl⟩))
      go_upto_region 10 with fail
      have HF9 := Lib.hid (HF.out.below (Below.refl _ _).drew)
      have HD9 := Lib.hid (HD.out.2.below (Below.refl _ _).drew)
      have L9 : Hid (wr.drew.cell? ⟨b5, k, none⟩ = some kv) := L1
      generalize wr.drew = w9 at HF9 HD9 L9 ⊢
      clear HF HD L1 HNw l0 a0
      go_cut [13] from 39 to 44 (fun s13 wx => ∃ (w10 : World) (b13 : Nat), w10 = wx ∧ s13 = .pointer (some ⟨b13, 0, none⟩) ∧ Blk w10 b13 72 postsZ.toArray ∧ Below w9.heap.size w9 w10)
      case first =>
        have lk := World.block_lt_of_cell? w9 _ L9.out
        have FB : Hid (∀ w', Below w9.heap.size w9 w' → w'.cell? ⟨b5, k, none⟩ = some kv ∧ hasRow w' ⟨b6, 0, none⟩ 8 = true ∧ rowOf w' ⟨b6, 0, none⟩ 8 = insY sy) := Lib.hid fun w' hb => by
          obtain ⟨r1, r2, -⟩ := (HF9.out.ins.below hb HF9.out.ins.lt).whole (n := 8) rfl
          exact ⟨(hb.cell (p := ⟨b5, k, none⟩) lk).trans L9.out, r1, r2⟩
        have HT : Hid (∀ w', Below w9.heap.size w9 w' → Calls Tryz.prog 5 #[kv, .bool true, .agg (insY sy).toArray] w' (AggP postsZ w')) := Lib.hid fun w' hb => tick_dead (HD9.out.below hb) true (insY sy) rfl rfl
        obtain ⟨s1, s2, s3⟩ := FB.out w9 (Below.refl _ _)
        have hiy : (insY sy).length = 8 := rfl
        go_region_held3 (fun w' => w'.cell? ⟨b5, k, none⟩ = some kv ∧ hasRow w' ⟨b6, 0, none⟩ 8 = true ∧ rowOf w' ⟨b6, 0, none⟩ 8 = insY sy)
          (((with_reducible refine FB.out _ ?_); repeat' (with_reducible first | exact HB10.out | exact Below.refl _ _ | refine Below.drew ?_ | refine balN ?_ _ | refine putN0 ?_ _)))
          ((first
            | (go_at_call 5; (with_reducible refine (HT.out w9.drew (Below.refl _ _).drew).mono ?_); rintro e w10 ⟨rfl, hb⟩; have HB10 : Hid (Below w9.heap.size w9 w10) := Lib.hid ((Below.refl w9.heap.size w9).drew.trans hb); clear hb)
            | (go_at_call 5; (with_reducible refine (HT.out (w9.alloc (.cells postsZ.toArray 72)).drew (balN (Below.refl _ _) _).drew).mono ?_); rintro e w10 ⟨rfl, hb⟩; have HB10 : Hid (Below w9.heap.size w9 w10) := Lib.hid ((balN (Below.refl w9.heap.size w9) _).drew.trans (hb.mono (balN (Below.refl w9.heap.size w9) _).drew.size)); have HK10 := Lib.hid ((Blk.new w9 72 postsZ.toArray).drew.below hb (ltND _ _)); obtain ⟨-, -, cp⟩ := HK10.out.whole (n := 4) rfl; clear hb)))
        all_goals go_wp2_with fail
        all_goals go_meet
        · exact ⟨_, _, rfl, rfl, Blk.new _ _ _, balN HB10.out _⟩
        · exact ⟨_, _, rfl, rfl, HK10.out.put_all rfl, putN0 HB10.out _⟩
      case rest =>
        obtain ⟨w10, b13, rfl, rfl, hk10, hb10⟩ := hcut
        have HF10 := Lib.hid (HF9.out.below hb10)
        have HD10 := Lib.hid (HD9.out.below hb10)
        have lk := World.block_lt_of_cell? w9 _ L9.out
        have l10 := (hb10.cell (p := ⟨b5, k, none⟩) lk).trans L9.out
        have a1 : w10.cell? ⟨b1, 1, none⟩ = some (.int .i64 x1) := HF10.out.a.cell 1
        have L10 := Lib.hid l10
        have HK10 := Lib.hid hk10
        clear hk10 hb10 HF9 HD9 L9 lk
        have HOu : Hid (∀ w', Below w10.heap.size w10 w' → Calls Tryz.prog 6 #[kv, .int .i64 x1] w' fun e w'' => e = .returned (.tuple #[.int .u32 0, .bool false]) ∧ Below w'.heap.size w' w'') := Lib.hid fun w' hb => out_dead (HD10.out.below hb) x1
        have FB : Hid (∀ w', Below w10.heap.size w10 w' → w'.cell? ⟨b5, k, none⟩ = some kv ∧ w'.cell? ⟨b1, 1, none⟩ = some (.int .i64 x1)) := Lib.hid fun w' hb => ⟨(hb.cell (p := ⟨b5, k, none⟩) (World.block_lt_of_cell? w10 _ L10.out)).trans L10.out, (HF10.out.a.below hb HF10.out.a.lt).cell 1⟩
        go_upto_region 11 with fail
        go_region_held3 (fun w' => w'.cell? ⟨b5, k, none⟩ = some kv ∧ w'.cell? ⟨b1, 1, none⟩ = some (.int .i64 x1))
          (first | exact ⟨l10, a1⟩ | exact FB.out _ HB11.out)
          ((go_at_call 6; (with_reducible refine (HOu.out w10.drew (Below.refl _ _).drew).mono ?_); rintro e w11 ⟨rfl, hb⟩; have HB11 : Hid (Below w10.heap.size w10 w11) := Lib.hid ((Below.refl w10.heap.size w10).drew.trans hb); clear hb))
        go_upto_region 12 with fail
        have hw11 := HB11.out
        have HF11 := Lib.hid (HF10.out.below hw11)
        have HD11 := Lib.hid (HD10.out.below hw11)
        have L11 := Lib.hid (FB.out w11 hw11).1
        have HK11 := Lib.hid (HK10.out.below hw11 HK10.out.lt)
        clear hw11 HF10 HD10 L10 HK10 HB11 FB HOu l10 a1
        have HBx : Hid (∀ w', Below w11.heap.size w11 w' → Calls Tryz.prog 7 #[kv, .int .i64 x1] w' (BoxD w')) := Lib.hid fun w' hb => box_dead (HD11.out.below hb) x1
        have HLk : Hid (∀ w', Below w11.heap.size w11 w' → Calls Tryz.prog 8 #[kv] w' (AggP (lookV lk0) w')) := Lib.hid fun w' hb => look_dead (HD11.out.below hb)
        have HSt : Hid (∀ w', Below w11.heap.size w11 w' → Calls Tryz.prog 9 #[kv, .int .i64 x1] w' (AggP stateZ w')) := Lib.hid fun w' hb => state_dead (HD11.out.below hb) x1
        have FC : Hid (∀ w', Below w11.heap.size w11 w' → w'.cell? ⟨b5, k, none⟩ = some kv ∧ w'.cell? ⟨b1, 1, none⟩ = some (.int .i64 x1) ∧ w'.cell? ⟨b13, 0, none⟩ = some (.int .u8 0) ∧ w'.cell? ⟨b13, 1, none⟩ = some (.slice none 0 0) ∧ w'.cell? ⟨b13, 2, none⟩ = some (.int .u8 0) ∧ w'.cell? ⟨b13, 3, none⟩ = some (.slice none 0 0)) := Lib.hid fun w' hb =>
          ⟨(hb.cell (p := ⟨b5, k, none⟩) (World.block_lt_of_cell? w11 _ L11.out)).trans L11.out, (HF11.out.a.below hb HF11.out.a.lt).cell 1, (HK11.out.below hb HK11.out.lt).cell 0, (HK11.out.below hb HK11.out.lt).cell 1, (HK11.out.below hb HK11.out.lt).cell 2, (HK11.out.below hb HK11.out.lt).cell 3⟩
        go_cut [16, 17, 18] from 55 to 65 (fun s16 s17 s18 wx => ∃ (w12 : World) (b16 : Nat), w12 = wx ∧ s16 = .pointer (some ⟨b16, 0, none⟩) ∧ s17 = .int .i64 (-1) ∧ s18 = .bool false ∧ Blk w12 b16 40 payZ.toArray ∧ Below w11.heap.size w11 w12)
        case first =>
          obtain ⟨f1, f2, f3, f4, f5, f6⟩ := FC.out w11 (Below.refl _ _)
          go_region_held3 (fun w' => w'.cell? ⟨b5, k, none⟩ = some kv ∧ w'.cell? ⟨b1, 1, none⟩ = some (.int .i64 x1) ∧ w'.cell? ⟨b13, 0, none⟩ = some (.int .u8 0) ∧ w'.cell? ⟨b13, 1, none⟩ = some (.slice none 0 0) ∧ w'.cell? ⟨b13, 2, none⟩ = some (.int .u8 0) ∧ w'.cell? ⟨b13, 3, none⟩ = some (.slice none 0 0))
            (((with_reducible refine FC.out _ ?_); repeat' (with_reducible first | exact HBB.out | exact Below.refl _ _ | refine Below.drew ?_ | refine balN ?_ _ | refine putN0 ?_ _)))
            ((first
              | (go_at_call 7; (with_reducible refine (HBx.out w11.drew (Below.refl _ _).drew).mono ?_); rintro e wB ⟨rfl, hb⟩; have HBB : Hid (Below w11.heap.size w11 wB) := Lib.hid ((Below.refl w11.heap.size w11).drew.trans hb); clear hb)
              | (go_at_call 7; (with_reducible refine (HBx.out (w11.alloc (.cells payZ.toArray 40)).drew (balN (Below.refl _ _) _).drew).mono ?_); rintro e wB ⟨rfl, hb⟩; have HBB : Hid (Below w11.heap.size w11 wB) := Lib.hid ((balN (Below.refl w11.heap.size w11) _).drew.trans (hb.mono (balN (Below.refl w11.heap.size w11) _).drew.size)); have HKB := Lib.hid ((Blk.new w11 40 payZ.toArray).drew.below hb (ltND _ _)); obtain ⟨-, -, cpb⟩ := HKB.out.whole (n := 4) rfl; clear hb)))
          all_goals go_wp2_with fail
          all_goals go_meet
          · exact ⟨_, _, rfl, rfl, rfl, rfl, Blk.new _ _ _, balN HBB.out _⟩
          · exact ⟨_, _, rfl, rfl, rfl, rfl, HKB.out.put_all rfl, putN0 HBB.out _⟩
        case rest =>
          obtain ⟨w12, b16, rfl, rfl, rfl, rfl, hk12, hb12⟩ := hcut
          have FD : Hid (∀ w', Below w12.heap.size w12 w' → w'.cell? ⟨b5, k, none⟩ = some kv ∧ w'.cell? ⟨b1, 1, none⟩ = some (.int .i64 x1) ∧ w'.cell? ⟨b13, 0, none⟩ = some (.int .u8 0) ∧ w'.cell? ⟨b13, 1, none⟩ = some (.slice none 0 0) ∧ w'.cell? ⟨b13, 2, none⟩ = some (.int .u8 0) ∧ w'.cell? ⟨b13, 3, none⟩ = some (.slice none 0 0) ∧ hasRow w' ⟨b16, 0, none⟩ 4 = true ∧ rowOf w' ⟨b16, 0, none⟩ 4 = payZ) := Lib.hid fun w' hb => by
            obtain ⟨g1, g2, g3, g4, g5, g6⟩ := FC.out w' (hb12.trans (hb.mono hb12.size))
            obtain ⟨g7, g8, -⟩ := (hk12.below hb hk12.lt).whole (n := 4) rfl
            exact ⟨g1, g2, g3, g4, g5, g6, g7, g8⟩
          have HB12 := Lib.hid hb12
          clear hk12 hb12 FC HBx
          have HF12 := Lib.hid (HF11.out.below HB12.out)
          have HLk2 : Hid (∀ w', Below w12.heap.size w12 w' → Calls Tryz.prog 8 #[kv] w' (AggP (lookV lk0) w')) := Lib.hid fun w' hb => HLk.out w' (HB12.out.trans (hb.mono HB12.out.size))
          have HSt2 : Hid (∀ w', Below w12.heap.size w12 w' → Calls Tryz.prog 9 #[kv, .int .i64 x1] w' (AggP stateZ w')) := Lib.hid fun w' hb => HSt.out w' (HB12.out.trans (hb.mono HB12.out.size))
          clear HF11 HD11 L11 HK11 HLk HSt HB12
          obtain ⟨f1, f2, f3, f4, f5, f6, f7, f8⟩ := FD.out w12 (Below.refl _ _)
          go_upto_region 13 with fail
          simp only [List.append_eq, List.cons_append, List.nil_append]
          go_region_held3 (fun w' => w'.cell? ⟨b5, k, none⟩ = some kv ∧ w'.cell? ⟨b1, 1, none⟩ = some (.int .i64 x1) ∧ w'.cell? ⟨b13, 0, none⟩ = some (.int .u8 0) ∧ w'.cell? ⟨b13, 1, none⟩ = some (.slice none 0 0) ∧ w'.cell? ⟨b13, 2, none⟩ = some (.int .u8 0) ∧ w'.cell? ⟨b13, 3, none⟩ = some (.slice none 0 0) ∧ hasRow w' ⟨b16, 0, none⟩ 4 = true ∧ rowOf w' ⟨b16, 0, none⟩ 4 = payZ)
            (((with_reducible refine FD.out _ ?_); repeat' (with_reducible first | exact HBS.out | exact HBL.out | exact Below.refl _ _ | refine Below.drew ?_)))
            ((first
              | (go_at_call 9; (with_reducible refine (HSt2.out wL HBL.out).mono ?_); rintro e wS ⟨rfl, hb⟩; have HBS : Hid (Below w12.heap.size w12 wS) := Lib.hid (HBL.out.trans (hb.mono HBL.out.size)); clear hb)
              | (go_at_call 8; (with_reducible refine (HLk2.out w12.drew (Below.refl _ _).drew).mono ?_); rintro e wL ⟨rfl, hb⟩; have HBL : Hid (Below w12.heap.size w12 wL) := Lib.hid ((Below.refl w12.heap.size w12).drew.trans hb); clear hb)))
          go_wp2_with fail
          exact ⟨⟨k + 1, by omega, by go_num, HF12.out.below HBS.out⟩, by simp [intOf]; omega⟩
    · obtain rfl : k = 2 := by omega
      go_wp2_with fail
      (with_reducible refine (HL.out wr HF.out.hb).mono ?_)
      rintro e w' ⟨rfl, hb⟩
      have HFIN : Hid (Below w.heap.size w w') := Lib.hid (HF.out.hb.trans (hb.mono HF.out.hb.size))
      clear hb
      go_wp2_with fail
      go_ret
      exact ⟨rfl, HFIN.out⟩
end Go.Proofs.YtnckfjmaochnkaaGreatDoor
