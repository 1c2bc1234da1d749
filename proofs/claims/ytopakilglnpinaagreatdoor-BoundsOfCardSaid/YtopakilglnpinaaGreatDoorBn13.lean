
/-
  Configs (chapter 4): rule 7.
-/
import Derived.Deep.RegionHeld3
import Derived.Test.YtopakilglnpinaaGreatDoorBn12
namespace Go.Proofs.YtopakilglnpinaaGreatDoor
open Go.RowKit
set_option linter.unusedVariables false
set_option linter.unusedSimpArgs false

theorem rdz2 (w : World) (x y : Int) : RdZ (fun _ => True) (w.alloc (.cells #[.int .i64 x, .int .i64 y] 32)) (some ⟨w.heap.size, 0, none⟩) 2 [x, y] := by
  refine ⟨rfl, fun k v hv => ⟨w.heap.size, 0, rfl, trivial, by simp, ?_⟩⟩
  have hB := Blk.new w 32 #[.int .i64 x, .int .i64 y]
  match k, hv with
  | 0, hv => simp at hv; subst hv; exact hB.cell 0
  | 1, hv => simp at hv; subst hv; exact hB.cell 1
  | n + 2, hv => simp at hv
theorem first2_any (x y : Int) (w : World) : Calls Tryz.prog 55 #[.slice (some ⟨w.heap.size, 0, none⟩) 2 2] (w.alloc (.cells #[.int .i64 x, .int .i64 y] 32)) fun e w' => e = .returned (.int .i64 (firstE [x, y])) ∧ Below w.heap.size w w' := by
  refine (first_any _ _ 2 2 [x, y] _ (rdz2 w x y) (by omega) (by unfold maxLen; omega)).mono ?_
  rintro e w' ⟨rfl, rfl⟩
  exact ⟨rfl, (Below.refl _ _).alloc (Nat.le_refl _) _⟩
set_option maxRecDepth 100000 in
set_option maxHeartbeats 1000000 in
theorem r7_any (S : Nat → Prop) (A : CfA) (c : Cfg) (w : World) (h : CfR S w A c) : Calls Tryz.prog 54 #[.agg (cfV A c).toArray] w (RuS (firstE [mustE (decide ((A.bn : Int) = c.N)), eachE 0 4096 c.B]) w) := by
  obtain ⟨pa, pn, pc, sa, sn, sc, ba, bn, bc, ta, tn, tc⟩ := A
  have HRR := Lib.hid h
  obtain ⟨-, -, ⟨hm1, hm2⟩, -⟩ := h.cp
  simp only at hm1 hm2
  clear h
  obtain ⟨cv, hcv⟩ : ∃ cv, cv = cfV ⟨pa, pn, pc, sa, sn, sc, ba, bn, bc, ta, tn, tc⟩ c := ⟨_, rfl⟩
  rw [← hcv]
  have HCV := Lib.hid hcv
  clear hcv
  go_enter Tryz.func54, Tryz.ntmps54
  go_upto_region 1 with fail
  have HB0 : Hid (Below w.heap.size w (w.alloc (.cells cv.toArray 25)) ∧ Blk (w.alloc (.cells cv.toArray 25)) w.heap.size 25 cv.toArray) := Lib.hid ⟨(Below.refl _ _).alloc (Nat.le_refl _) _, Blk.new _ _ _⟩
  generalize w.alloc (.cells cv.toArray 25) = w0 at HB0 ⊢
  rw [HCV.out] at HB0
  obtain ⟨c0, c1, c2, c3, c4, c5, c6, c7, c8⟩ := cfV_cells HB0.out.2
  have c0 : w0.cell? ⟨w.heap.size, 0, none⟩ = some (.int .i64 c.N) := c0
  have c1 : w0.cell? ⟨w.heap.size, 1, none⟩ = some (.slice pa pn pc) := c1
  have c2 : w0.cell? ⟨w.heap.size, 2, none⟩ = some (.slice sa sn sc) := c2
  have c3 : w0.cell? ⟨w.heap.size, 3, none⟩ = some (.int .i64 c.lo) := c3
  have c4 : w0.cell? ⟨w.heap.size, 4, none⟩ = some (.slice ba bn bc) := c4
  have c5 : w0.cell? ⟨w.heap.size, 5, none⟩ = some (.slice ta tn tc) := c5
  have c6 : w0.cell? ⟨w.heap.size, 6, none⟩ = some (.int .i64 c.mi) := c6
  have c7 : w0.cell? ⟨w.heap.size, 7, none⟩ = some (.int .i64 c.go) := c7
  have c8 : w0.cell? ⟨w.heap.size, 8, none⟩ = some (.int .i64 c.fr) := c8
  have hw0 : w.heap.size < w0.heap.size := HB0.out.2.lt
  have HE : Hid (∀ w', Below w0.heap.size w0 w' → Calls Tryz.prog 56 #[.slice ba bn bc, .int .i64 0, .int .i64 4096] w' fun e w'' => e = .returned (.int .i64 (eachE 0 4096 c.B)) ∧ Below w0.heap.size w0 w'') := Lib.hid fun w' hb => by
    refine (each_any _ ba bn bc c.B 0 4096 w' (((HRR.out.below HB0.out.1).b).below hb) hm1 hm2).mono ?_
    rintro e w'' ⟨rfl, hb2⟩
    exact ⟨rfl, hb.trans (hb2.mono hb.size)⟩
  have HM := Lib.hid fun b w => must_any b w
  have HF := Lib.hid fun x y w => first2_any x y w
  obtain ⟨q, hq⟩ : ∃ q, Hid (q = eachE 0 4096 c.B) := ⟨_, Lib.hid rfl⟩
  rw [← hq.out] at HE
  obtain ⟨N, hN⟩ : ∃ N, Hid (N = c.N) := ⟨_, Lib.hid rfl⟩
  have c0 : w0.cell? ⟨w.heap.size, 0, none⟩ = some (.int .i64 N) := by rw [hN.out]; exact c0
  have FA : Hid (∀ w', Below w0.heap.size w0 w' → w'.cell? ⟨w.heap.size, 4, none⟩ = some (.slice ba bn bc) ∧ w'.cell? ⟨w.heap.size, 0, none⟩ = some (.int .i64 N)) := Lib.hid fun w' hb => ⟨(hb.cell (p := ⟨w.heap.size, 4, none⟩) hw0).trans c4, (hb.cell (p := ⟨w.heap.size, 0, none⟩) hw0).trans c0⟩
  have c4' := c4
  have c0' := c0
  clear hm1 hm2 c1 c2 c3 c5 c6 c7 c8
  go_region_held3 (fun w' => w'.cell? ⟨w.heap.size, 4, none⟩ = some (.slice ba bn bc) ∧ w'.cell? ⟨w.heap.size, 0, none⟩ = some (.int .i64 N))
    (with_reducible (first | assumption | exact FA.out _ (Below.refl _ _).drew | exact FA.out _ HB2.out | exact FA.out _ (HB2.out.alloc HB2.out.size _) | exact FA.out _ (HB2.out.trans (HB3.out.mono HB2.out.size))))
    ((first
      | (go_at_call 46; refine (HM.out _ _).mono ?_; rintro e w1 ⟨rfl, rfl⟩)
      | (go_at_call 56; refine (HE.out _ (Below.refl _ _).drew).mono ?_; rintro e w2 ⟨rfl, hb2⟩; have HB2 := Lib.hid hb2; clear hb2)
      | (go_at_call 55; refine (HF.out _ _ _).mono ?_; rintro e w3 ⟨rfl, hb3⟩; have HB3 := Lib.hid hb3; clear hb3)))
  go_wp2_with fail
  go_ret
  exact ⟨by rw [← hN.out, ← hq.out]; rfl, HB0.out.1.trans ((HB2.out.trans (HB3.out.mono HB2.out.size)).mono (by omega))⟩
end Go.Proofs.YtopakilglnpinaaGreatDoor
