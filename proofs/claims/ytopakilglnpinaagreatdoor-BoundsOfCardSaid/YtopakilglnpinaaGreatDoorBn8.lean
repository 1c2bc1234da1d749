
/-
  Configs (chapter 4): rules 3, 6, 7, 10.
-/
import Derived.Test.YtopakilglnpinaaGreatDoorBn7
namespace Go.Proofs.YtopakilglnpinaaGreatDoor
open Go.RowKit
set_option linter.unusedVariables false
set_option linter.unusedSimpArgs false

set_option maxRecDepth 100000 in
set_option maxHeartbeats 1000000 in
theorem r6_any (A : CfA) (c : Cfg) (w : World) (h1 : 4 ≤ c.N) (h2 : c.N ≤ 16) : Calls Tryz.prog 53 #[.agg (cfV A c).toArray] w (RuS (withE c.lo (c.N + 116) 4096) w) := by
  obtain ⟨pa, pn, pc, sa, sn, sc, ba, bn, bc, ta, tn, tc⟩ := A
  obtain ⟨cv, hcv⟩ : ∃ cv, cv = cfV ⟨pa, pn, pc, sa, sn, sc, ba, bn, bc, ta, tn, tc⟩ c := ⟨_, rfl⟩
  rw [← hcv]
  have HCV := Lib.hid hcv
  clear hcv
  go_enter Tryz.func53, Tryz.ntmps53
  go_upto_region 1 with fail
  have HB0 : Hid (Below w.heap.size w (w.alloc (.cells cv.toArray 25)) ∧ Blk (w.alloc (.cells cv.toArray 25)) w.heap.size 25 cv.toArray) := Lib.hid ⟨(Below.refl _ _).alloc (Nat.le_refl _) _, Blk.new _ _ _⟩
  generalize w.alloc (.cells cv.toArray 25) = w0 at HB0 ⊢
  rw [HCV.out] at HB0
  obtain ⟨c0, c1, c2, c3, c4, c5, c6, c7, c8⟩ := cfV_cells HB0.out.2
  have c0 : w0.cell? ⟨w.heap.size, 0, none⟩ = some (.int .i64 c.N) := c0
  have c1 : w0.cell? ⟨w.heap.size, 1, none⟩ = some (.slice pa pn pc) := c1
  have c2 : w0.cell? ⟨w.heap.size, 2, none⟩ = some (.slice sa sn sc) := c2
  have c3 : w0.cell? ⟨w.heap.size, 3, none⟩ = some (.int .i64 c.lo) := c3
  have c4 : w0.cell? ⟨w.heap.size, 4, none⟩ = some (.slice ba bn bc) := c4
  have c5 : w0.cell? ⟨w.heap.size, 5, none⟩ = some (.slice ta tn tc) := c5
  have c6 : w0.cell? ⟨w.heap.size, 6, none⟩ = some (.int .i64 c.mi) := c6
  have c7 : w0.cell? ⟨w.heap.size, 7, none⟩ = some (.int .i64 c.go) := c7
  have c8 : w0.cell? ⟨w.heap.size, 8, none⟩ = some (.int .i64 c.fr) := c8
  have HW := Lib.hid (within_any c.lo (c.N + 116) 4096 w0)
  have e1 : IntKind.i64.wrap (3 * c.N) = 3 * c.N := IntWalk.i64_in _ (by omega)
  have e2 : IntKind.i64.wrap (3 * c.N + 1) = 3 * c.N + 1 := IntWalk.i64_in _ (by omega)
  have e3 : IntKind.i64.wrap (c.N + 114) = c.N + 114 := IntWalk.i64_in _ (by omega)
  have e4 : IntKind.i64.wrap (c.N + 114 + 2) = c.N + 116 := by rw [IntWalk.i64_in _ (by omega)]; omega
  have e5 : max (3 * c.N + 1) (c.N + 116) = c.N + 116 := by omega
  have HL := Lib.hid h1
  have HU := Lib.hid h2
  clear h1 h2
  go_wp2_with fail
  (with_reducible refine HW.out.mono ?_)
  rintro e w' ⟨rfl, rfl⟩
  go_wp2_with fail
  go_ret
  exact ⟨rfl, HB0.out.1⟩
set_option maxRecDepth 100000 in
set_option maxHeartbeats 1000000 in
theorem r3_any (S : Nat → Prop) (A : CfA) (c : Cfg) (w : World) (h : CfR S w A c) (hsg : SgW w) (hbig : A.pn ≤ 1000) : Calls Tryz.prog 45 #[.agg (cfV A c).toArray] w (RuS (mustE (insideB c.N c.P && sortedB c.P && singleB (halvesL c.N c.P))) w) := by
  have HH := Lib.hid fun w1 (h : CfR S w1 A c) hsg => halves_any S A c w1 h hsg hbig
  obtain ⟨pa, pn, pc, sa, sn, sc, ba, bn, bc, ta, tn, tc⟩ := A
  have HRR := Lib.hid h
  have HSG := Lib.hid hsg
  obtain ⟨⟨hm1, hm2⟩, -⟩ := h.cp
  have hpl : Hid (c.P.length = pn) := Lib.hid h.p.1
  simp only at hm1 hm2 hbig
  clear h hsg
  obtain ⟨cv, hcv⟩ : ∃ cv, cv = cfV ⟨pa, pn, pc, sa, sn, sc, ba, bn, bc, ta, tn, tc⟩ c := ⟨_, rfl⟩
  rw [← hcv]
  have HCV := Lib.hid hcv
  clear hcv
  go_enter Tryz.func45, Tryz.ntmps45
  go_upto_region 1 with fail
  have HB0 : Hid (Below w.heap.size w (w.alloc (.cells cv.toArray 25)) ∧ Blk (w.alloc (.cells cv.toArray 25)) w.heap.size 25 cv.toArray) := Lib.hid ⟨(Below.refl _ _).alloc (Nat.le_refl _) _, Blk.new _ _ _⟩
  generalize w.alloc (.cells cv.toArray 25) = w0 at HB0 ⊢
  rw [HCV.out] at HB0
  obtain ⟨c0, c1, c2, c3, c4, c5, c6, c7, c8⟩ := cfV_cells HB0.out.2
  have c0 : w0.cell? ⟨w.heap.size, 0, none⟩ = some (.int .i64 c.N) := c0
  have c1 : w0.cell? ⟨w.heap.size, 1, none⟩ = some (.slice pa pn pc) := c1
  have c2 : w0.cell? ⟨w.heap.size, 2, none⟩ = some (.slice sa sn sc) := c2
  have c3 : w0.cell? ⟨w.heap.size, 3, none⟩ = some (.int .i64 c.lo) := c3
  have c4 : w0.cell? ⟨w.heap.size, 4, none⟩ = some (.slice ba bn bc) := c4
  have c5 : w0.cell? ⟨w.heap.size, 5, none⟩ = some (.slice ta tn tc) := c5
  have c6 : w0.cell? ⟨w.heap.size, 6, none⟩ = some (.int .i64 c.mi) := c6
  have c7 : w0.cell? ⟨w.heap.size, 7, none⟩ = some (.int .i64 c.go) := c7
  have c8 : w0.cell? ⟨w.heap.size, 8, none⟩ = some (.int .i64 c.fr) := c8
  rw [← HCV.out] at HH
  have hw0 : w.heap.size < w0.heap.size := HB0.out.2.lt
  have HI := Lib.hid (inside_any S pa pn pc c.P c.N w0 (HRR.out.below HB0.out.1).p hm1 hm2)
  obtain ⟨b1, hb1⟩ : ∃ b, Hid (b = insideB c.N c.P) := ⟨_, Lib.hid rfl⟩
  obtain ⟨b2, hb2⟩ : ∃ b, Hid (b = sortedB c.P) := ⟨_, Lib.hid rfl⟩
  obtain ⟨b3, hb3⟩ : ∃ b, Hid (b = singleB (halvesL c.N c.P)) := ⟨_, Lib.hid rfl⟩
  rw [← hb1.out] at HI
  have HM := Lib.hid fun b w => must_any b w
  go_wp2_with fail
  (with_reducible refine HI.out.mono ?_)
  rintro e w1 ⟨rfl, hB1⟩
  have HB1 := Lib.hid (HB0.out.1.trans (hB1.mono (by omega)))
  have c1a : w1.cell? ⟨w.heap.size, 1, none⟩ = some (.slice pa pn pc) := (hB1.cell (p := ⟨w.heap.size, 1, none⟩) hw0).trans c1
  have KB1 := Lib.hid (HB0.out.2.below hB1 hw0)
  have hs1 : w0.heap.size ≤ w1.heap.size := hB1.size
  clear hB1 c0 c1 c2 c3 c4 c5 c6 c7 c8
  cases b1
  · go_wp2_with fail
    (with_reducible refine (HM.out false w1).mono ?_)
    rintro e w' ⟨rfl, rfl⟩
    go_wp2_with fail
    go_ret
    exact ⟨by rw [← hb1.out, ← hb2.out, ← hb3.out]; rfl, HB1.out⟩
  · have HS := Lib.hid (sorted_any S pa pn pc c.P w1 (HRR.out.below HB1.out).p hm1 hm2)
    rw [← hb2.out] at HS
    go_wp2_with fail
    (with_reducible refine HS.out.mono ?_)
    rintro e w2 ⟨rfl, hB2⟩
    have HB2 := Lib.hid (HB1.out.trans (hB2.mono (by omega)))
    have KB2 := Lib.hid (KB1.out.below hB2 (by omega))
    have hs2 : w1.heap.size ≤ w2.heap.size := hB2.size
    clear hB2 c1a
    cases b2
    · go_wp2_with fail
      (with_reducible refine (HM.out false w2).mono ?_)
      rintro e w' ⟨rfl, rfl⟩
      go_wp2_with fail
      go_ret
      exact ⟨by rw [← hb1.out, ← hb2.out, ← hb3.out]; rfl, HB2.out⟩
    · obtain ⟨d1, d2, -⟩ := KB2.out.whole (n := 9) rfl
      rw [← HCV.out] at d2
      have HL := Lib.hid (HH.out w2 (HRR.out.below HB2.out) (HSG.out.below HB2.out))
      go_wp2_with fail
      (with_reducible refine HL.out.mono ?_)
      rintro e w3 ⟨a3, cap3, rfl, hr3, hm31, hm32, hB3⟩
      have HB3 := Lib.hid (HB2.out.trans (hB3.mono (by omega)))
      have HG := Lib.hid (single_any _ a3 _ cap3 (halvesL c.N c.P) (by have := hpl.out; rw [halvesL_len]; omega) w3 hr3)
      rw [← hb3.out] at HG
      have hs3 : w2.heap.size ≤ w3.heap.size := hB3.size
      clear hB3 hr3 d1 d2
      generalize (halvesL c.N c.P).length = q3 at HG hm31 ⊢
      go_wp2_with fail
      (with_reducible refine HG.out.mono ?_)
      rintro e w4 ⟨rfl, hB4⟩
      have HB4 := Lib.hid (HB3.out.trans (hB4.mono (by omega)))
      clear hB4
      cases b3
      · go_wp2_with fail
        (with_reducible refine (HM.out false w4).mono ?_)
        rintro e w' ⟨rfl, rfl⟩
        go_wp2_with fail
        go_ret
        exact ⟨by rw [← hb1.out, ← hb2.out, ← hb3.out]; rfl, HB4.out⟩
      · go_wp2_with fail
        (with_reducible refine (HM.out true w4).mono ?_)
        rintro e w' ⟨rfl, rfl⟩
        go_wp2_with fail
        go_ret
        exact ⟨by rw [← hb1.out, ← hb2.out, ← hb3.out]; rfl, HB4.out⟩
end Go.Proofs.YtopakilglnpinaaGreatDoor
