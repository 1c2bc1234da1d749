/-
  Configs (chapter 4): rule 9; the list of rules.
-/
import Derived.Test.YtnckfjmaochnkaaGreatDoorGd32
import Derived.Test.YtnckfjmaochnkaaGreatDoorGd33
namespace Go.Proofs.YtnckfjmaochnkaaGreatDoor
open Go.RowKit
set_option linter.unusedVariables false
set_option linter.unusedSimpArgs false

/-- stations that may be -/
def stOk (c : Cfg) : Prop := ∀ s ∈ c.St, 0 ≤ s.1 ∧ s.1 < c.N ∧ 1 ≤ s.2.2 ∧ s.2.2 ≤ 100
theorem RdSt.row {S : Nat → Prop} {w : World} {x : Option Addr} {m : Nat} {l : List (Int × Int × Int)} (h : RdSt S w x m l) {k : Nat} (hk : k < m) :
    ∃ b off s, x = some ⟨b, off, none⟩ ∧ S b ∧ b < w.heap.size ∧ l[k]? = some s ∧ hasRow w ⟨b, off + k * 3, none⟩ 3 = true ∧ rowOf w ⟨b, off + k * 3, none⟩ 3 = stv s := by
  obtain ⟨h1, h3⟩ := h
  have hkk : l[k]? = some (l[k]'(by omega)) := List.getElem?_eq_getElem (by omega)
  obtain ⟨b, off, hx, hS, hb, hr1, hr2, hr3⟩ := h3 k _ hkk
  refine ⟨b, off, _, hx, hS, hb, hkk, ?_⟩
  exact row_of_cells (w := w) (p := ⟨b, off + k * 3, none⟩) (l := stv (l[k]'(by omega))) (fun j v hv => by
    have hj : j < 3 := by have := (List.getElem?_eq_some_iff.1 hv).1; simpa [stv] using this
    rw [add_at]
    have hm3 : j = 0 ∨ j = 1 ∨ j = 2 := by omega
    rcases hm3 with rfl | rfl | rfl
    · rw [Nat.add_zero, hr1]; exact hv
    · rw [hr2]; exact hv
    · rw [hr3]; exact hv)
theorem ag_st : aggOf Tryz.prog 124 3 = true := by kernel_rfl
@[go_sem ↓] theorem ld_st (ρ : Operand → Value) (d : Option Tmp) (x : Operand) (ty : TypeId) (s : String) (af : Array Edge) (g : Option (Nat × Bool)) (w : World) (h : hasRowV w 3 (ρ x) = true) :
    (execOp ρ { dst := d, op := .load 124 x, type := ty, pos := s, after := af, guard := g }).run Tryz.prog w = .ok (.value (.agg (rowV w 3 (ρ x)).toArray)) w := exec_load ag_st ρ d x ty s af g w h
@[go_sem ↓] theorem st_st (ρ : Operand → Value) (d : Option Tmp) (x y : Operand) (ty : TypeId) (s : String) (af : Array Edge) (g : Option (Nat × Bool)) (w : World) (h1 : okAgg 3 (ρ y) = true) (h2 : canPutV w 3 (ρ x) = true) :
    (execOp ρ { dst := d, op := .store 124 x y, type := ty, pos := s, after := af, guard := g }).run Tryz.prog w = .ok .skip (putV w (ρ x) (ρ y)) := exec_store ag_st ρ d x y ty s af g w h1 h2
set_option maxRecDepth 100000 in
set_option maxHeartbeats 1000000 in
theorem r9_any (S : Nat → Prop) (A : CfA) (c : Cfg) (w : World) (h : CfR S w A c) (hso : stOk c) : Calls Tryz.prog 126 #[.agg (cfV A c).toArray] w (RuS 0 w) := by
  obtain ⟨pa, pn, pc, sa, sn, sc, ba, bn, bc, ta, tn, tc⟩ := A
  have HT := Lib.hid h.t
  obtain ⟨-, -, -, ⟨hm1, hm2⟩⟩ := h.cp
  unfold maxLen at hm2
  simp only at HT hm1 hm2
  have HSO := Lib.hid hso
  clear h hso
  obtain ⟨cv, hcv⟩ : ∃ cv, cv = cfV ⟨pa, pn, pc, sa, sn, sc, ba, bn, bc, ta, tn, tc⟩ c := ⟨_, rfl⟩
  rw [← hcv]
  have HCV := Lib.hid hcv
  clear hcv
  go_enter Tryz.func126, Tryz.ntmps126
  go_upto_region 1 with fail
  have HB0 : Hid (Below w.heap.size w (w.alloc (.cells cv.toArray 26)) ∧ Blk (w.alloc (.cells cv.toArray 26)) w.heap.size 26 cv.toArray) := Lib.hid ⟨(Below.refl _ _).alloc (Nat.le_refl _) _, Blk.new _ _ _⟩
  generalize w.alloc (.cells cv.toArray 26) = w0 at HB0 ⊢
  rw [HCV.out] at HB0
  obtain ⟨c0, c1, c2, c3, c4, c5, c6, c7, c8⟩ := cfV_cells HB0.out.2
  have c0 : w0.cell? ⟨w.heap.size, 0, none⟩ = some (.int .i64 c.N) := c0
  have c5 : w0.cell? ⟨w.heap.size, 5, none⟩ = some (.slice ta tn tc) := c5
  have hw0 : w.heap.size < w0.heap.size := HB0.out.2.lt
  clear c1 c2 c3 c4 c6 c7 c8
  have HM : Hid (∀ w, Calls Tryz.prog 114 #[.bool true] w fun e w' => e = .returned (.int .i64 0) ∧ w' = w) := Lib.hid fun w => must_any true w
  have HF : Hid (∀ w, Calls Tryz.prog 123 #[.slice (some ⟨w.heap.size, 0, none⟩) 2 2] (w.alloc (.cells #[.int .i64 0, .int .i64 0] 75)) fun e w' => e = .returned (.int .i64 0) ∧ Below w.heap.size w w') := Lib.hid fun w => first2_any 0 0 w
  have HW : Hid (∀ x : Int, 1 ≤ x → x ≤ 100 → ∀ w, Calls Tryz.prog 111 #[.int .i64 x, .int .i64 1, .int .i64 100] w fun e w' => e = .returned (.int .i64 0) ∧ w' = w) := Lib.hid fun x h1 h2 w => by
    have := within_any x 1 100 w
    rwa [show withE x 1 100 = 0 from by unfold withE; rw [if_neg (by omega), if_neg (by omega)]] at this
  go_wp2_with fail
  go_loopw [9] (fun i wr => ∃ k : Nat, k ≤ tn ∧ i = .int .i64 k ∧ Hid (Below w0.heap.size w0 wr)) (fun i _ => tn - (intOf i).toNat)
  case atStart => exact ⟨0, by omega, rfl, Lib.hid (Below.refl _ _)⟩
  case round =>
    obtain ⟨k, hk, rfl, HB⟩ := hrel
    by_cases hlt : k < tn
    · obtain ⟨b, off, s, rfl, -, hbl, hz, hrow, hrof⟩ := ((HT.out.below HB0.out.1).below HB.out).row hlt
      obtain ⟨hs1, hs2, hs3, hs4⟩ := HSO.out s (List.mem_of_getElem? hz)
      obtain ⟨s1, s2, s3⟩ := s
      simp only at hs1 hs2 hs3 hs4
      replace hrof : rowOf wr ⟨b, off + k * 3, none⟩ 3 = [.int .i64 s1, .int .u32 s2, .int .i64 s3] := hrof
      have hlt' : (k : Int) < tn := by omega
      have hk0 : (0 : Int) ≤ k := by omega
      have hb2 : Below wr.heap.size wr (wr.alloc (.cells #[Value.int .i64 s1, .int .u32 s2, .int .i64 s3] 124)) := (Below.refl _ _).alloc (Nat.le_refl _) _
      have hk2 := Blk.new wr 124 #[Value.int .i64 s1, .int .u32 s2, .int .i64 s3]
      have HW2 := Lib.hid (And.intro hb2 hk2)
      clear hb2 hk2
      go_upto_region 4 with fail
      generalize wr.alloc (.cells #[Value.int .i64 s1, .int .u32 s2, .int .i64 s3] 124) = w2 at HW2 ⊢
      have HB2 := Lib.hid (HB.out.trans (HW2.out.1.mono HB.out.size))
      have hz2 := HB2.out.size
      obtain ⟨N, hN⟩ : ∃ N, Hid (N = c.N) := ⟨_, Lib.hid rfl⟩
      have hs2 : s1 < N := by rw [hN.out]; exact hs2
      have d0 : w2.cell? ⟨w.heap.size, 0, none⟩ = some (.int .i64 N) := by rw [hN.out]; exact (HB2.out.cell (p := ⟨w.heap.size, 0, none⟩) hw0).trans c0
      have d1 : w2.cell? ⟨wr.heap.size, 0, none⟩ = some (.int .i64 s1) := HW2.out.2.cell 0
      have d2 : w2.cell? ⟨wr.heap.size, 2, none⟩ = some (.int .i64 s3) := HW2.out.2.cell 2
      have hz3 : wr.heap.size < w2.heap.size := HW2.out.2.lt
      have FA : Hid (∀ w', Below w2.heap.size w2 w' → w'.cell? ⟨w.heap.size, 0, none⟩ = some (.int .i64 N) ∧ w'.cell? ⟨wr.heap.size, 0, none⟩ = some (.int .i64 s1) ∧ w'.cell? ⟨wr.heap.size, 2, none⟩ = some (.int .i64 s3)) := Lib.hid fun w' hb => ⟨(hb.cell (p := ⟨w.heap.size, 0, none⟩) (show w.heap.size < _ by omega)).trans d0, (hb.cell (p := ⟨wr.heap.size, 0, none⟩) hz3).trans d1, (hb.cell (p := ⟨wr.heap.size, 2, none⟩) hz3).trans d2⟩
      have HW3 : Hid (∀ w, Calls Tryz.prog 111 #[.int .i64 s3, .int .i64 1, .int .i64 100] w fun e w' => e = .returned (.int .i64 0) ∧ w' = w) := Lib.hid fun w => HW.out s3 hs3 hs4 w
      clear hz hrow hrof hs3 hs4 HW
      go_region_held3 (fun w' => w'.cell? ⟨w.heap.size, 0, none⟩ = some (.int .i64 N) ∧ w'.cell? ⟨wr.heap.size, 0, none⟩ = some (.int .i64 s1) ∧ w'.cell? ⟨wr.heap.size, 2, none⟩ = some (.int .i64 s3))
        (with_reducible (first | assumption | exact FA.out _ (Below.refl _ _).drew | exact FA.out _ (Below.refl _ _) | exact FA.out _ HF3.out | exact FA.out _ ((Below.refl _ _).alloc (Nat.le_refl _) _).drew | exact FA.out _ ((Below.refl _ _).alloc (Nat.le_refl _) _)))
        ((first
          | (go_at_call 114; refine (HM.out _).mono ?_; rintro e w1 ⟨rfl, rfl⟩)
          | (go_at_call 111; refine (HW3.out _).mono ?_; rintro e w1 ⟨rfl, rfl⟩)
          | (go_at_call 123; refine (HF.out w2.drew).mono ?_; rintro e w3 ⟨rfl, hb3⟩; have HF3 : Hid (Below w2.heap.size w2 w3) := Lib.hid ((Below.refl _ _).drew.trans hb3); clear hb3)))
      go_wp2_with fail
      go_roundw
      case rel => exact ⟨k + 1, by omega, by simp, Lib.hid (HB2.out.trans (HF3.out.mono HB2.out.size))⟩
      case measure => simp [intOf]; omega
    · have hlt' : ¬ (k : Int) < tn := by omega
      obtain rfl : k = tn := by omega
      go_wp2_with fail
      go_ret
      exact ⟨rfl, HB0.out.1.trans (HB.out.mono HB0.out.1.size)⟩
def ruleFs : List Nat := [110, 112, 113, 118, 119, 121, 122, 125, 126, 127]
set_option maxRecDepth 100000 in
set_option maxHeartbeats 1000000 in
theorem rules_any (w : World) : Calls Tryz.prog 70 #[] w fun e w' => e = .returned (.slice (some ⟨w.heap.size, 0, none⟩) 10 10) ∧ Blk w' w.heap.size 202 ((ruleFs.map fun f => Value.func (.func f) #[] #[]).toArray) ∧ Below w.heap.size w w' := by
  go_enter Tryz.func70, Tryz.ntmps70
  go_wp2
  go_ret
  exact ⟨rfl, Blk.new _ _ _, (Below.refl _ _).alloc (Nat.le_refl _) _⟩
end Go.Proofs.YtnckfjmaochnkaaGreatDoor
