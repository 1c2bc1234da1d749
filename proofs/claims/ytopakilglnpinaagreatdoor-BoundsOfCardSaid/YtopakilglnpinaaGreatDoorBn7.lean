
/-
  Configs (chapter 4): the rules that ask one thing.
-/
import Derived.Test.YtopakilglnpinaaGreatDoorBn4
import Derived.Test.YtopakilglnpinaaGreatDoorBn6
namespace Go.Proofs.YtopakilglnpinaaGreatDoor
open Go.RowKit
set_option linter.unusedVariables false
set_option linter.unusedSimpArgs false

/-- a rule says e of a config, and touches nothing -/
def RuS (e : Int) (w : World) (r : Ending) (w' : World) : Prop := r = .returned (.int .i64 e) ∧ Below w.heap.size w w'
set_option maxRecDepth 100000 in
set_option maxHeartbeats 1000000 in
theorem r1_any (A : CfA) (c : Cfg) (w : World) : Calls Tryz.prog 42 #[.agg (cfV A c).toArray] w (RuS (withE c.N 4 16) w) := by
  obtain ⟨pa, pn, pc, sa, sn, sc, ba, bn, bc, ta, tn, tc⟩ := A
  obtain ⟨cv, hcv⟩ : ∃ cv, cv = cfV ⟨pa, pn, pc, sa, sn, sc, ba, bn, bc, ta, tn, tc⟩ c := ⟨_, rfl⟩
  rw [← hcv]
  have HCV := Lib.hid hcv
  clear hcv
  go_enter Tryz.func42, Tryz.ntmps42
  go_upto_region 1 with fail
  have HB0 : Hid (Below w.heap.size w (w.alloc (.cells cv.toArray 25)) ∧ Blk (w.alloc (.cells cv.toArray 25)) w.heap.size 25 cv.toArray) := Lib.hid ⟨(Below.refl _ _).alloc (Nat.le_refl _) _, Blk.new _ _ _⟩
  generalize w.alloc (.cells cv.toArray 25) = w0 at HB0 ⊢
  rw [HCV.out] at HB0
  obtain ⟨c0, c1, c2, c3, c4, c5, c6, c7, c8⟩ := cfV_cells HB0.out.2
  have c0 : w0.cell? ⟨w.heap.size, 0, none⟩ = some (.int .i64 c.N) := c0
  have c1 : w0.cell? ⟨w.heap.size, 1, none⟩ = some (.slice pa pn pc) := c1
  have c2 : w0.cell? ⟨w.heap.size, 2, none⟩ = some (.slice sa sn sc) := c2
  have c3 : w0.cell? ⟨w.heap.size, 3, none⟩ = some (.int .i64 c.lo) := c3
  have c4 : w0.cell? ⟨w.heap.size, 4, none⟩ = some (.slice ba bn bc) := c4
  have c5 : w0.cell? ⟨w.heap.size, 5, none⟩ = some (.slice ta tn tc) := c5
  have c6 : w0.cell? ⟨w.heap.size, 6, none⟩ = some (.int .i64 c.mi) := c6
  have c7 : w0.cell? ⟨w.heap.size, 7, none⟩ = some (.int .i64 c.go) := c7
  have c8 : w0.cell? ⟨w.heap.size, 8, none⟩ = some (.int .i64 c.fr) := c8
  have HW := Lib.hid (within_any c.N 4 16 w0)
  go_wp2_with fail
  (with_reducible refine HW.out.mono ?_)
  rintro e w' ⟨rfl, rfl⟩
  go_wp2_with fail
  go_ret
  exact ⟨rfl, HB0.out.1⟩
set_option maxRecDepth 100000 in
set_option maxHeartbeats 1000000 in
theorem r2_any (A : CfA) (c : Cfg) (w : World) : Calls Tryz.prog 44 #[.agg (cfV A c).toArray] w (RuS (withE A.pn 2 8) w) := by
  obtain ⟨pa, pn, pc, sa, sn, sc, ba, bn, bc, ta, tn, tc⟩ := A
  obtain ⟨cv, hcv⟩ : ∃ cv, cv = cfV ⟨pa, pn, pc, sa, sn, sc, ba, bn, bc, ta, tn, tc⟩ c := ⟨_, rfl⟩
  rw [← hcv]
  have HCV := Lib.hid hcv
  clear hcv
  go_enter Tryz.func44, Tryz.ntmps44
  go_upto_region 1 with fail
  have HB0 : Hid (Below w.heap.size w (w.alloc (.cells cv.toArray 25)) ∧ Blk (w.alloc (.cells cv.toArray 25)) w.heap.size 25 cv.toArray) := Lib.hid ⟨(Below.refl _ _).alloc (Nat.le_refl _) _, Blk.new _ _ _⟩
  generalize w.alloc (.cells cv.toArray 25) = w0 at HB0 ⊢
  rw [HCV.out] at HB0
  obtain ⟨c0, c1, c2, c3, c4, c5, c6, c7, c8⟩ := cfV_cells HB0.out.2
  have c0 : w0.cell? ⟨w.heap.size, 0, none⟩ = some (.int .i64 c.N) := c0
  have c1 : w0.cell? ⟨w.heap.size, 1, none⟩ = some (.slice pa pn pc) := c1
  have c2 : w0.cell? ⟨w.heap.size, 2, none⟩ = some (.slice sa sn sc) := c2
  have c3 : w0.cell? ⟨w.heap.size, 3, none⟩ = some (.int .i64 c.lo) := c3
  have c4 : w0.cell? ⟨w.heap.size, 4, none⟩ = some (.slice ba bn bc) := c4
  have c5 : w0.cell? ⟨w.heap.size, 5, none⟩ = some (.slice ta tn tc) := c5
  have c6 : w0.cell? ⟨w.heap.size, 6, none⟩ = some (.int .i64 c.mi) := c6
  have c7 : w0.cell? ⟨w.heap.size, 7, none⟩ = some (.int .i64 c.go) := c7
  have c8 : w0.cell? ⟨w.heap.size, 8, none⟩ = some (.int .i64 c.fr) := c8
  have HW := Lib.hid (within_any pn 2 8 w0)
  go_wp2_with fail
  (with_reducible refine HW.out.mono ?_)
  rintro e w' ⟨rfl, rfl⟩
  go_wp2_with fail
  go_ret
  exact ⟨rfl, HB0.out.1⟩
set_option maxRecDepth 100000 in
set_option maxHeartbeats 1000000 in
theorem r4_any (A : CfA) (c : Cfg) (w : World) : Calls Tryz.prog 50 #[.agg (cfV A c).toArray] w (RuS (withE A.sn 1 16) w) := by
  obtain ⟨pa, pn, pc, sa, sn, sc, ba, bn, bc, ta, tn, tc⟩ := A
  obtain ⟨cv, hcv⟩ : ∃ cv, cv = cfV ⟨pa, pn, pc, sa, sn, sc, ba, bn, bc, ta, tn, tc⟩ c := ⟨_, rfl⟩
  rw [← hcv]
  have HCV := Lib.hid hcv
  clear hcv
  go_enter Tryz.func50, Tryz.ntmps50
  go_upto_region 1 with fail
  have HB0 : Hid (Below w.heap.size w (w.alloc (.cells cv.toArray 25)) ∧ Blk (w.alloc (.cells cv.toArray 25)) w.heap.size 25 cv.toArray) := Lib.hid ⟨(Below.refl _ _).alloc (Nat.le_refl _) _, Blk.new _ _ _⟩
  generalize w.alloc (.cells cv.toArray 25) = w0 at HB0 ⊢
  rw [HCV.out] at HB0
  obtain ⟨c0, c1, c2, c3, c4, c5, c6, c7, c8⟩ := cfV_cells HB0.out.2
  have c0 : w0.cell? ⟨w.heap.size, 0, none⟩ = some (.int .i64 c.N) := c0
  have c1 : w0.cell? ⟨w.heap.size, 1, none⟩ = some (.slice pa pn pc) := c1
  have c2 : w0.cell? ⟨w.heap.size, 2, none⟩ = some (.slice sa sn sc) := c2
  have c3 : w0.cell? ⟨w.heap.size, 3, none⟩ = some (.int .i64 c.lo) := c3
  have c4 : w0.cell? ⟨w.heap.size, 4, none⟩ = some (.slice ba bn bc) := c4
  have c5 : w0.cell? ⟨w.heap.size, 5, none⟩ = some (.slice ta tn tc) := c5
  have c6 : w0.cell? ⟨w.heap.size, 6, none⟩ = some (.int .i64 c.mi) := c6
  have c7 : w0.cell? ⟨w.heap.size, 7, none⟩ = some (.int .i64 c.go) := c7
  have c8 : w0.cell? ⟨w.heap.size, 8, none⟩ = some (.int .i64 c.fr) := c8
  have HW := Lib.hid (within_any sn 1 16 w0)
  go_wp2_with fail
  (with_reducible refine HW.out.mono ?_)
  rintro e w' ⟨rfl, rfl⟩
  go_wp2_with fail
  go_ret
  exact ⟨rfl, HB0.out.1⟩
set_option maxRecDepth 100000 in
set_option maxHeartbeats 1000000 in
theorem r8_any (A : CfA) (c : Cfg) (w : World) : Calls Tryz.prog 57 #[.agg (cfV A c).toArray] w (RuS (withE A.tn 0 8) w) := by
  obtain ⟨pa, pn, pc, sa, sn, sc, ba, bn, bc, ta, tn, tc⟩ := A
  obtain ⟨cv, hcv⟩ : ∃ cv, cv = cfV ⟨pa, pn, pc, sa, sn, sc, ba, bn, bc, ta, tn, tc⟩ c := ⟨_, rfl⟩
  rw [← hcv]
  have HCV := Lib.hid hcv
  clear hcv
  go_enter Tryz.func57, Tryz.ntmps57
  go_upto_region 1 with fail
  have HB0 : Hid (Below w.heap.size w (w.alloc (.cells cv.toArray 25)) ∧ Blk (w.alloc (.cells cv.toArray 25)) w.heap.size 25 cv.toArray) := Lib.hid ⟨(Below.refl _ _).alloc (Nat.le_refl _) _, Blk.new _ _ _⟩
  generalize w.alloc (.cells cv.toArray 25) = w0 at HB0 ⊢
  rw [HCV.out] at HB0
  obtain ⟨c0, c1, c2, c3, c4, c5, c6, c7, c8⟩ := cfV_cells HB0.out.2
  have c0 : w0.cell? ⟨w.heap.size, 0, none⟩ = some (.int .i64 c.N) := c0
  have c1 : w0.cell? ⟨w.heap.size, 1, none⟩ = some (.slice pa pn pc) := c1
  have c2 : w0.cell? ⟨w.heap.size, 2, none⟩ = some (.slice sa sn sc) := c2
  have c3 : w0.cell? ⟨w.heap.size, 3, none⟩ = some (.int .i64 c.lo) := c3
  have c4 : w0.cell? ⟨w.heap.size, 4, none⟩ = some (.slice ba bn bc) := c4
  have c5 : w0.cell? ⟨w.heap.size, 5, none⟩ = some (.slice ta tn tc) := c5
  have c6 : w0.cell? ⟨w.heap.size, 6, none⟩ = some (.int .i64 c.mi) := c6
  have c7 : w0.cell? ⟨w.heap.size, 7, none⟩ = some (.int .i64 c.go) := c7
  have c8 : w0.cell? ⟨w.heap.size, 8, none⟩ = some (.int .i64 c.fr) := c8
  have HW := Lib.hid (within_any tn 0 8 w0)
  go_wp2_with fail
  (with_reducible refine HW.out.mono ?_)
  rintro e w' ⟨rfl, rfl⟩
  go_wp2_with fail
  go_ret
  exact ⟨rfl, HB0.out.1⟩
end Go.Proofs.YtopakilglnpinaaGreatDoor
