/-
  tracks.New; a lane that is not there.
-/
import Derived.Test.YtopakilglnpinaaGc36
namespace Go.Proofs.Ytopakilglnpinaa
open Go.RowKit
set_option linter.unusedVariables false
set_option linter.unusedSimpArgs false

theorem mk_mom : MakeOk Try.prog 83 95 [Value.slice none 0 0, .slice none 0 0, .slice none 0 0, .slice none 0 0] := ⟨Try.underlying83, by kernel_rfl, by decide⟩
@[go_sem ↓] theorem ms_mom (ρ : Operand → Value) (d : Option Tmp) (x y : Operand) (ty : TypeId) (s : String) (af : Array Edge) (g : Option (Nat × Bool)) (w : World) (h : madeOk (ρ x) (ρ y) = true) :
    (execOp ρ { dst := d, op := .makeSlice 83 x y, type := ty, pos := s, after := af, guard := g }).run Try.prog w =
      .ok (.value (.slice (some ⟨w.heap.size, 0, none⟩) (lenV (ρ x)) (lenV (ρ x)))) (w.alloc (.cells (zrep [Value.slice none 0 0, .slice none 0 0, .slice none 0 0, .slice none 0 0] (lenV (ρ x))).toArray 95)) := exec_make mk_mom ρ d x y ty s af g w h
theorem zrep_mom (n : Nat) (G : Nat → Nat) : zrep [Value.slice none 0 0, .slice none 0 0, .slice none 0 0, .slice none 0 0] (n + 1) = momCells n 0 G := by
  apply List.ext_getElem?
  intro k
  have hl : (zrep [Value.slice none 0 0, .slice none 0 0, .slice none 0 0, .slice none 0 0] (n + 1)).length = (n + 1) * 4 := len_zrep _ _
  by_cases hk : k < 4 * (n + 1)
  · rw [momCells_at hk, if_neg (by omega), zrep_at (by simp) (n + 1) k (by simp <;> omega)]
    have hc : k % 4 = 0 ∨ k % 4 = 1 ∨ k % 4 = 2 ∨ k % 4 = 3 := by omega
    rcases hc with hc | hc | hc | hc <;> simp [hc]
  · rw [List.getElem?_eq_none (by omega), List.getElem?_eq_none (by rw [momCells_len]; omega)]

def NewLane (n me : Nat) (w : World) (e : Ending) (w' : World) : Prop :=
  ∃ p gp, e = .returned (.tuple #[.pointer (some ⟨p, 0, none⟩), .int .i64 0]) ∧ LaneAt (fun b => w.heap.size ≤ b ∧ b < w'.heap.size) w' p gp (fun _ => 0) (LaneM.new n me) ∧ Below w.heap.size w w'
set_option maxRecDepth 100000 in
set_option maxHeartbeats 1000000 in
theorem new_ok (n me : Nat) (h4 : 4 ≤ n) (h16 : n ≤ 16) (hm : me < n) (w : World) : Calls Try.prog 6 #[.int .i64 n, .int .i64 me] w (NewLane n me w) := by
  have b1 : decide ((n : Int) < 4) = false := by simp; omega
  have b2 : decide (16 < (n : Int)) = false := by simp; omega
  have b3 : decide ((me : Int) < 0) = false := by simp
  have b4 : decide (n ≤ me) = false := by simp; omega
  have hmade : madeOk (.int .i64 ((n : Int) + 1)) (.int .i64 ((n : Int) + 1)) = true := by simp [madeOk]; omega
  have hlen : lenV (.int .i64 ((n : Int) + 1)) = n + 1 := by simp [lenV]
  go_enter Try.func6, Try.ntmps6
  go_wp2_with fail
  go_ret2
  rw [zrep_mom n (fun _ => 0)]
  have hB : Below w.heap.size w ((w.alloc (.cells (momCells n 0 (fun _ => 0)).toArray 95)).alloc (.cells (laneV (LaneM.new n me) w.heap.size).toArray 85)) := ((Below.refl _ _).alloc (Nat.le_refl _) _).alloc (by simp) _
  have s1 : (w.alloc (.cells (momCells n 0 (fun _ => 0)).toArray 95)).heap.size = w.heap.size + 1 := by simp
  have k0 := (Blk.new w 95 (momCells n 0 (fun _ => 0)).toArray).alloc (.cells (laneV (LaneM.new n me) w.heap.size).toArray 85)
  have k1 := Blk.new (w.alloc (.cells (momCells n 0 (fun _ => 0)).toArray 95)) 85 (laneV (LaneM.new n me) w.heap.size).toArray
  rw [s1] at k1
  refine ⟨w.heap.size + 1, w.heap.size, rfl, ⟨k1, k0, fun k hk => absurd hk.2 (by simp [LaneM.new]), ?_, ?_, fun k hk => absurd hk.2 (by simp [LaneM.new]), fun k k' hk _ _ => absurd hk.2 (by simp [LaneM.new]), fun b hb => hb.2, ⟨h4, h16, hm⟩, LaneM.new_ok n me, LaneM.new_okT n me⟩, hB⟩
  · exact ⟨by omega, k1.lt⟩
  · exact ⟨Nat.le_refl _, k0.lt⟩
theorem new_bad (n me : Int) (h : n < 4 ∨ 16 < n ∨ me < 0 ∨ n ≤ me) (w : World) : Calls Try.prog 6 #[.int .i64 n, .int .i64 me] w fun e w' => e = .returned (.tuple #[.pointer none, .int .i64 1]) ∧ w = w' := by
  have key : ∀ (c1 c2 c3 c4 : Bool), decide (n < 4) = c1 → decide (16 < n) = c2 → decide (me < 0) = c3 → decide (n ≤ me) = c4 → (c1 || c2 || c3 || c4) = true → Calls Try.prog 6 #[.int .i64 n, .int .i64 me] w fun e w' => e = .returned (.tuple #[.pointer none, .int .i64 1]) ∧ w = w' := by
    intro c1 c2 c3 c4 e1 e2 e3 e4 hc
    go_enter Try.func6, Try.ntmps6
    cases c1 <;> cases c2 <;> cases c3 <;> cases c4 <;> first | (exact absurd hc (by decide)) | (go_wp2; go_ret2; exact ⟨rfl, rfl⟩)
  exact key _ _ _ _ rfl rfl rfl rfl (by simp; omega)

set_option maxRecDepth 100000 in
set_option maxHeartbeats 1000000 in
theorem hear_nil (i0 i1 i2 i3 : Value) (w : World) : Calls Try.prog 10 #[.pointer none, .agg #[i0, i1, i2, i3]] w fun e w' => e = .returned (.slice none 0 0) ∧ Below w.heap.size w w' := by
  go_enter Try.func10, Try.ntmps10
  go_wp2
  go_ret
  exact ⟨rfl, ((Below.refl _ _).alloc (Nat.le_refl _) _).alloc (by simp) _⟩
set_option maxRecDepth 100000 in
set_option maxHeartbeats 1000000 in
theorem hear_zero (p : Nat) (i0 i1 i2 i3 : Value) (w : World) (h : w.cell? ⟨p, 0, none⟩ = some (.int .i64 0)) (hp : p < w.heap.size) : Calls Try.prog 10 #[.pointer (some ⟨p, 0, none⟩), .agg #[i0, i1, i2, i3]] w fun e w' => e = .returned (.slice none 0 0) ∧ Below w.heap.size w w' := by
  have hB : Below w.heap.size w ((w.alloc (.cells #[Value.pointer (some ⟨p, 0, none⟩)] 25)).alloc (.cells #[i0, i1, i2, i3] 36)) := ((Below.refl _ _).alloc (Nat.le_refl _) _).alloc (by simp) _
  have h2 := (hB.cell (p := ⟨p, 0, none⟩) hp).trans h
  go_enter Try.func10, Try.ntmps10
  go_wp2
  go_ret
  exact ⟨rfl, hB⟩
def SayNone (w : World) (e : Ending) (w' : World) : Prop := e = .returned (.tuple #[.agg #[.slice none 0 0], .agg #[.slice none 0 0]]) ∧ Below w.heap.size w w'
set_option maxRecDepth 100000 in
set_option maxHeartbeats 1000000 in
theorem say_nil (ov : List Value) (w : World) : Calls Try.prog 14 #[.pointer none, .agg ov.toArray] w (SayNone w) := by
  have H0 := Lib.hid (say0_of w ov)
  go_enter Try.func14, Try.ntmps14
  go_upto_region 2 with fail
  generalize (((w.alloc (.cells ov.toArray 54)).alloc (.cells #[.slice none 0 0] 34)).alloc (.cells #[.slice none 0 0] 34)) = w3 at H0 ⊢
  have k1 := H0.out.1.b1.cell 0
  have k2 := H0.out.1.b2.cell 0
  have z1 := H0.out.1.b1.frozen 0
  have z2 := H0.out.1.b2.frozen 0
  simp at k1 k2
  have HFIN : Hid (Blk ((w3.setCell ⟨w.heap.size + 1, 0, none⟩ (.slice none 0 0)).setCell ⟨w.heap.size + 1 + 1, 0, none⟩ (.slice none 0 0)) (w.heap.size + 1) 34 #[.slice none 0 0] ∧ Blk ((w3.setCell ⟨w.heap.size + 1, 0, none⟩ (.slice none 0 0)).setCell ⟨w.heap.size + 1 + 1, 0, none⟩ (.slice none 0 0)) (w.heap.size + 1 + 1) 34 #[.slice none 0 0] ∧ Below w.heap.size w ((w3.setCell ⟨w.heap.size + 1, 0, none⟩ (.slice none 0 0)).setCell ⟨w.heap.size + 1 + 1, 0, none⟩ (.slice none 0 0))) :=
    Lib.hid ⟨(H0.out.1.b1.set_ 0 _).far (by simp) _, (H0.out.1.b2.far (by simp) _).set_ 0 _, (H0.out.2.setCell (by simp <;> omega) _).setCell (by simp <;> omega) _⟩
  go_region_law (first | fail)
  all_goals go_wp2_with fail
  all_goals (try simp only [Exit.inBlock, Exit.then])
  all_goals (
    have r1 := HFIN.out.1.drew.cell 0
    have r2 := HFIN.out.2.1.drew.cell 0
    simp only [List.getElem?_toArray, List.getElem?_cons_zero] at r1 r2
    first | refine bodyPost_ret (ret_row2 (n := 1) (n' := 1) rfl (by kernel_rfl) (by kernel_rfl) _ _ _ _ rfl rfl ?_ ?_) rfl ?_ | refine bodyPost_end (ret_row2 (n := 1) (n' := 1) rfl (by kernel_rfl) (by kernel_rfl) _ _ _ _ rfl rfl ?_ ?_) rfl ?_
    · exact (row1 r1).1
    · exact (row1 r2).1
    · rw [(row1 r1).2, (row1 r2).2]; exact ⟨rfl, HFIN.out.2.2.drew⟩)
set_option maxRecDepth 100000 in
set_option maxHeartbeats 1000000 in
theorem say_ended (p : Nat) (ov : List Value) (w : World) (h : w.cell? ⟨p, 3, none⟩ = some (.bool false)) (hp : p < w.heap.size) : Calls Try.prog 14 #[.pointer (some ⟨p, 0, none⟩), .agg ov.toArray] w (SayNone w) := by
  have H0 := Lib.hid (say0_of w ov)
  have h2 := (H0.out.2.cell (p := ⟨p, 3, none⟩) hp).trans h
  clear h
  go_enter Try.func14, Try.ntmps14
  go_upto_region 1 with fail
  generalize (((w.alloc (.cells ov.toArray 54)).alloc (.cells #[.slice none 0 0] 34)).alloc (.cells #[.slice none 0 0] 34)) = w3 at H0 h2 ⊢
  go_upto_region 2 with fail
  have k1 := H0.out.1.b1.cell 0
  have k2 := H0.out.1.b2.cell 0
  have z1 := H0.out.1.b1.frozen 0
  have z2 := H0.out.1.b2.frozen 0
  simp at k1 k2
  have HFIN : Hid (Blk ((w3.setCell ⟨w.heap.size + 1, 0, none⟩ (.slice none 0 0)).setCell ⟨w.heap.size + 1 + 1, 0, none⟩ (.slice none 0 0)) (w.heap.size + 1) 34 #[.slice none 0 0] ∧ Blk ((w3.setCell ⟨w.heap.size + 1, 0, none⟩ (.slice none 0 0)).setCell ⟨w.heap.size + 1 + 1, 0, none⟩ (.slice none 0 0)) (w.heap.size + 1 + 1) 34 #[.slice none 0 0] ∧ Below w.heap.size w ((w3.setCell ⟨w.heap.size + 1, 0, none⟩ (.slice none 0 0)).setCell ⟨w.heap.size + 1 + 1, 0, none⟩ (.slice none 0 0))) :=
    Lib.hid ⟨(H0.out.1.b1.set_ 0 _).far (by simp) _, (H0.out.1.b2.far (by simp) _).set_ 0 _, (H0.out.2.setCell (by simp <;> omega) _).setCell (by simp <;> omega) _⟩
  go_region_law (first | fail)
  all_goals go_wp2_with fail
  all_goals (try simp only [Exit.inBlock, Exit.then])
  all_goals (
    have r1 := HFIN.out.1.drew.cell 0
    have r2 := HFIN.out.2.1.drew.cell 0
    simp only [List.getElem?_toArray, List.getElem?_cons_zero] at r1 r2
    first | refine bodyPost_ret (ret_row2 (n := 1) (n' := 1) rfl (by kernel_rfl) (by kernel_rfl) _ _ _ _ rfl rfl ?_ ?_) rfl ?_ | refine bodyPost_end (ret_row2 (n := 1) (n' := 1) rfl (by kernel_rfl) (by kernel_rfl) _ _ _ _ rfl rfl ?_ ?_) rfl ?_
    · exact (row1 r1).1
    · exact (row1 r2).1
    · rw [(row1 r1).2, (row1 r2).2]; exact ⟨rfl, HFIN.out.2.2.drew⟩)
end Go.Proofs.Ytopakilglnpinaa
