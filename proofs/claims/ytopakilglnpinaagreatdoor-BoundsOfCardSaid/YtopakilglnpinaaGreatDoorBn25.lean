
/-
  Bounds (chapter 34): the document's answers.
-/
import Derived.Test.YtopakilglnpinaaGreatDoorBn24
namespace Go.Proofs.YtopakilglnpinaaGreatDoor
open Go.RowKit
set_option linter.unusedVariables false
set_option linter.unusedSimpArgs false
set_option maxRecDepth 100000 in
set_option maxHeartbeats 1000000 in
theorem rround_any (S : Nat → Prop) (A : CfA) (c : Cfg) (w : World) (h : CfR S w A c) (hok : RefOk c) : Calls Tryz.prog 28 #[.agg (cfV A c).toArray] w (RetI (roundV c) w) := by
  obtain ⟨pa, pn, pc, sa, sn, sc, ba, bn, bc, ta, tn, tc⟩ := A
  have hsn : c.Sl.length = sn := h.s.1
  obtain ⟨lo, hlo⟩ : ∃ lo, Hid (lo = c.lo) := ⟨_, Lib.hid rfl⟩
  have hlo2 : 0 ≤ lo ∧ lo ≤ 4096 := by have := hlo.out; have := hok.lo; have := hok.n; omega
  have hsn2 : sn ≤ 16 := by have := hok.s; omega
  have HRV : Hid (roundV c = sn * lo) := Lib.hid (by rw [roundV, hsn, hlo.out])
  clear h hok hsn
  obtain ⟨cv, hcv⟩ : ∃ cv, cv = cfV ⟨pa, pn, pc, sa, sn, sc, ba, bn, bc, ta, tn, tc⟩ c := ⟨_, rfl⟩
  rw [← hcv]
  have HCV := Lib.hid hcv
  clear hcv
  go_enter Tryz.func28, Tryz.ntmps28
  go_upto_region 1 with fail
  have HB0 : Hid (Below w.heap.size w (w.alloc (.cells cv.toArray 25)) ∧ Blk (w.alloc (.cells cv.toArray 25)) w.heap.size 25 cv.toArray) := Lib.hid ⟨(Below.refl _ _).alloc (Nat.le_refl _) _, Blk.new _ _ _⟩
  generalize (w.alloc (.cells cv.toArray 25)) = w0 at HB0 ⊢
  have hB0 := HB0.out.2
  rw [HCV.out] at hB0
  obtain ⟨c0, c1, c2, c3, c4, c5, c6, c7, c8⟩ := cfV_cells hB0
  replace c0 : w0.cell? ⟨w.heap.size, 0, none⟩ = some (.int .i64 c.N) := c0
  replace c1 : w0.cell? ⟨w.heap.size, 1, none⟩ = some (.slice pa pn pc) := c1
  replace c2 : w0.cell? ⟨w.heap.size, 2, none⟩ = some (.slice sa sn sc) := c2
  replace c3 : w0.cell? ⟨w.heap.size, 3, none⟩ = some (.int .i64 c.lo) := c3
  replace c4 : w0.cell? ⟨w.heap.size, 4, none⟩ = some (.slice ba bn bc) := c4
  replace c6 : w0.cell? ⟨w.heap.size, 6, none⟩ = some (.int .i64 c.mi) := c6
  replace c7 : w0.cell? ⟨w.heap.size, 7, none⟩ = some (.int .i64 c.go) := c7
  have hw0 : w.heap.size < w0.heap.size := HB0.out.2.lt
  rw [← hlo.out] at c3
  clear c0 c1 c4 c6 c7 hB0
  go_wp2_with fail
  go_loopw [4, 3] (fun i v wr => ∃ k : Nat, k ≤ sn ∧ i = .int .i64 k ∧ Hid (v = .int .i64 (k * lo)) ∧ wr = w0) (fun i _ _ => sn - (intOf i).toNat)
  case atStart => exact ⟨0, by omega, rfl, Lib.hid (by simp), rfl⟩
  case round =>
    obtain ⟨k, hk, rfl, HV, rfl⟩ := hrel
    obtain ⟨x, hx⟩ : ∃ x, Hid (x = k * lo) := ⟨_, Lib.hid rfl⟩
    have hv := HV.out
    rw [← hx.out] at hv
    subst hv
    by_cases hlt : k < sn
    · have hlt' : (k : Int) < sn := by omega
      have hk0 : (0 : Int) ≤ k := by omega
      obtain ⟨y, hy⟩ : ∃ y, Hid (y = ((k + 1 : Nat) : Int) * lo) := ⟨_, Lib.hid rfl⟩
      have hwr : IntKind.i64.wrap (x + lo) = y := by
        have h1 : x + lo = ((k + 1 : Nat) : Int) * lo := by rw [hx.out]; push_cast; rw [Int.add_mul, Int.one_mul]
        have h2 : ((k + 1 : Nat) : Int) * lo ≤ 16 * 4096 := Int.mul_le_mul (by omega) (by omega) (by omega) (by omega)
        have h3 : 0 ≤ ((k + 1 : Nat) : Int) * lo := Int.mul_nonneg (by omega) (by omega)
        rw [h1, hy.out]
        exact IntWalk.i64_in _ (by omega)
      go_wp2_with fail
      exact ⟨⟨k + 1, by omega, by go_num, Lib.hid (by rw [hy.out]), trivial⟩, by simp [intOf]; omega⟩
    · obtain rfl : k = sn := by omega
      have hlt' : ¬ (k : Int) < k := by omega
      go_wp2_with fail
      go_ret
      exact ⟨by rw [HRV.out, ← hx.out]; rfl, HB0.out.1⟩
set_option maxRecDepth 100000 in
set_option maxHeartbeats 1000000 in
theorem rstart_any (S : Nat → Prop) (A : CfA) (c : Cfg) (w : World) (h : CfR S w A c) (hok : RefOk c) : Calls Tryz.prog 7 #[.agg (cfV A c).toArray] w (RetI (startV c) w) := by
  obtain ⟨pa, pn, pc, sa, sn, sc, ba, bn, bc, ta, tn, tc⟩ := A
  have HR := Lib.hid h.b
  have hm2 := h.cp.2.2.1.2
  unfold maxLen at hm2
  simp only at HR hm2
  have hm1 : bn ≤ bc := h.cp.2.2.1.1
  obtain ⟨N, hN⟩ : ∃ N, Hid (N = c.N) := ⟨_, Lib.hid rfl⟩
  have HSV := Lib.hid hok.startV
  have HMV := Lib.hid hok.b
  have hN2 : 4 ≤ N ∧ N ≤ 16 := by have := hN.out; have := hok.n; omega
  clear h hok
  obtain ⟨cv, hcv⟩ : ∃ cv, cv = cfV ⟨pa, pn, pc, sa, sn, sc, ba, bn, bc, ta, tn, tc⟩ c := ⟨_, rfl⟩
  rw [← hcv]
  have HCV := Lib.hid hcv
  clear hcv
  go_enter Tryz.func7, Tryz.ntmps7
  go_upto_region 1 with fail
  have HB0 : Hid (Below w.heap.size w (w.alloc (.cells cv.toArray 25)) ∧ Blk (w.alloc (.cells cv.toArray 25)) w.heap.size 25 cv.toArray) := Lib.hid ⟨(Below.refl _ _).alloc (Nat.le_refl _) _, Blk.new _ _ _⟩
  generalize (w.alloc (.cells cv.toArray 25)) = w0 at HB0 ⊢
  have hB0 := HB0.out.2
  rw [HCV.out] at hB0
  obtain ⟨c0, c1, c2, c3, c4, c5, c6, c7, c8⟩ := cfV_cells hB0
  replace c0 : w0.cell? ⟨w.heap.size, 0, none⟩ = some (.int .i64 c.N) := c0
  replace c1 : w0.cell? ⟨w.heap.size, 1, none⟩ = some (.slice pa pn pc) := c1
  replace c2 : w0.cell? ⟨w.heap.size, 2, none⟩ = some (.slice sa sn sc) := c2
  replace c3 : w0.cell? ⟨w.heap.size, 3, none⟩ = some (.int .i64 c.lo) := c3
  replace c4 : w0.cell? ⟨w.heap.size, 4, none⟩ = some (.slice ba bn bc) := c4
  replace c6 : w0.cell? ⟨w.heap.size, 6, none⟩ = some (.int .i64 c.mi) := c6
  replace c7 : w0.cell? ⟨w.heap.size, 7, none⟩ = some (.int .i64 c.go) := c7
  have hw0 : w.heap.size < w0.heap.size := HB0.out.2.lt
  rw [← hN.out] at c0
  clear c1 c2 c3 c6 c7 hB0
  have h6 : IntKind.i64.wrap (6 * N) = 6 * N := IntWalk.i64_in _ (by omega)
  go_wp2_with fail
  go_loopw [4, 3] (fun i v wr => ∃ k : Nat, k ≤ bn ∧ i = .int .i64 k ∧ Hid (v = .int .i64 (maxL (c.B.take k))) ∧ wr = w0) (fun i _ _ => bn - (intOf i).toNat)
  case atStart => exact ⟨0, by omega, rfl, Lib.hid (by simp [maxL]), rfl⟩
  case round =>
    obtain ⟨k, hk, rfl, HV, rfl⟩ := hrel
    obtain ⟨x, hx⟩ : ∃ x, Hid (x = maxL (c.B.take k)) := ⟨_, Lib.hid rfl⟩
    have hv := HV.out
    rw [← hx.out] at hv
    subst hv
    by_cases hlt : k < bn
    · obtain ⟨b2, off2, z, rfl, -, hbl, hz, hc⟩ := HR.out.at_ hlt
      have hc := (HB0.out.1.cell (p := ⟨b2, off2 + k, none⟩) hbl).trans hc
      have hlt' : (k : Int) < bn := by omega
      have hk0 : (0 : Int) ≤ k := by omega
      have HN : Hid (max x z = maxL (c.B.take (k + 1))) := Lib.hid (by rw [maxL_step hz, hx.out])
      clear hz
      go_wp2_with fail
      exact ⟨⟨k + 1, by omega, by go_num, Lib.hid (by rw [HN.out]), trivial⟩, by simp [intOf]; omega⟩
    · obtain rfl : k = bn := by omega
      have hlt' : ¬ (k : Int) < k := by omega
      have hxe : x = maxL c.B := by rw [hx.out, List.take_of_length_le (by rw [HR.out.1]; omega)]
      have h7 : IntKind.i64.wrap (x + 6 * N) = x + 6 * N := IntWalk.i64_in _ (by have := HSV.out; rw [startV, ← hxe, ← hN.out] at this; omega)
      have HF : Hid (startV c = x + 6 * N) := Lib.hid (by rw [startV, ← hxe, ← hN.out])
      clear hxe
      go_wp2_with fail
      go_ret
      exact ⟨by rw [HF.out]; rfl, HB0.out.1⟩
set_option maxRecDepth 100000 in
set_option maxHeartbeats 1000000 in
theorem rheard_any (S : Nat → Prop) (A : CfA) (c : Cfg) (w : World) (h : CfR S w A c) (hok : RefOk c) : Calls Tryz.prog 9 #[.agg (cfV A c).toArray] w (RetI (heardV c) w) := by
  obtain ⟨pa, pn, pc, sa, sn, sc, ba, bn, bc, ta, tn, tc⟩ := A
  obtain ⟨cv, hcv⟩ : ∃ cv, cv = cfV ⟨pa, pn, pc, sa, sn, sc, ba, bn, bc, ta, tn, tc⟩ c := ⟨_, rfl⟩
  rw [← hcv]
  have HCV := Lib.hid hcv
  have HX0' : Hid (∀ w', Below w.heap.size w w' → Calls Tryz.prog 7 #[.agg cv.toArray] w' (RetI (startV c) w')) := Lib.hid fun w' hb => by rw [HCV.out]; exact rstart_any S _ c w' (h.below hb) hok
  obtain ⟨x, hx⟩ : ∃ x, Hid (x = startV c) := ⟨_, Lib.hid rfl⟩
  rw [← hx.out] at HX0'
  obtain ⟨z, hz⟩ : ∃ z, Hid (z = heardV c) := ⟨_, Lib.hid rfl⟩
  rw [← hz.out]
  obtain ⟨lo, hlo⟩ : ∃ lo, Hid (lo = c.lo) := ⟨_, Lib.hid rfl⟩
  have hb1 : IntKind.i64.wrap (4 * lo) = 4 * lo := IntWalk.i64_in _ (by have := hlo.out; have := hok.lo; have := hok.n; omega)
  have hb2 : IntKind.i64.wrap (x + 4 * lo) = z := by
    have h1 := hx.out; have h2 := hlo.out; have h3 := hz.out; have h4 := hok.heardV
    have h5 : x + 4 * lo = z := by rw [h1, h2, h3, heardV]
    rw [h5, h3]; exact IntWalk.i64_in _ (by omega)
  clear h hok
  clear hcv
  go_enter Tryz.func9, Tryz.ntmps9
  go_upto_region 1 with fail
  have HB0 : Hid (Below w.heap.size w (w.alloc (.cells cv.toArray 25)) ∧ Blk (w.alloc (.cells cv.toArray 25)) w.heap.size 25 cv.toArray) := Lib.hid ⟨(Below.refl _ _).alloc (Nat.le_refl _) _, Blk.new _ _ _⟩
  generalize (w.alloc (.cells cv.toArray 25)) = w0 at HB0 ⊢
  have hB0 := HB0.out.2
  rw [HCV.out] at hB0
  obtain ⟨c0, c1, c2, c3, c4, c5, c6, c7, c8⟩ := cfV_cells hB0
  replace c0 : w0.cell? ⟨w.heap.size, 0, none⟩ = some (.int .i64 c.N) := c0
  replace c1 : w0.cell? ⟨w.heap.size, 1, none⟩ = some (.slice pa pn pc) := c1
  replace c2 : w0.cell? ⟨w.heap.size, 2, none⟩ = some (.slice sa sn sc) := c2
  replace c3 : w0.cell? ⟨w.heap.size, 3, none⟩ = some (.int .i64 c.lo) := c3
  replace c4 : w0.cell? ⟨w.heap.size, 4, none⟩ = some (.slice ba bn bc) := c4
  replace c6 : w0.cell? ⟨w.heap.size, 6, none⟩ = some (.int .i64 c.mi) := c6
  replace c7 : w0.cell? ⟨w.heap.size, 7, none⟩ = some (.int .i64 c.go) := c7
  have hw0 : w.heap.size < w0.heap.size := HB0.out.2.lt
  have HX0 : Hid (∀ w', Below w0.heap.size w0 w' → Calls Tryz.prog 7 #[.agg cv.toArray] w' fun e w'' => e = .returned (.int .i64 x) ∧ Below w0.heap.size w0 w'') := Lib.hid fun w' hb => by
    refine (HX0'.out w' (HB0.out.1.trans (hb.mono HB0.out.1.size))).mono ?_
    rintro e w2 ⟨rfl, hb2⟩
    exact ⟨rfl, hb.trans (hb2.mono hb.size)⟩
  rw [← hlo.out] at c3
  clear c0 c1 c2 c4 c6 c7
  have FA : Hid (∀ w', Below w0.heap.size w0 w' → hasRow w' ⟨w.heap.size, 0, none⟩ 9 = true ∧ rowOf w' ⟨w.heap.size, 0, none⟩ 9 = cv ∧ w'.cell? ⟨w.heap.size, 3, none⟩ = some (.int .i64 lo)) := Lib.hid fun w' hb => by
    obtain ⟨d1, d2, -⟩ := (HB0.out.2.below hb hw0).whole (n := 9) (by rw [HCV.out]; rfl)
    exact ⟨d1, d2, (hb.cell (p := ⟨w.heap.size, 3, none⟩) hw0).trans c3⟩
  obtain ⟨d1, d2, -⟩ := HB0.out.2.whole (n := 9) (by rw [HCV.out]; rfl)
  clear HX0'
  clear hB0
  go_region_held3 (fun w' => hasRow w' ⟨w.heap.size, 0, none⟩ 9 = true ∧ rowOf w' ⟨w.heap.size, 0, none⟩ 9 = cv ∧ w'.cell? ⟨w.heap.size, 3, none⟩ = some (.int .i64 lo))
    (with_reducible (first | assumption | exact FA.out _ (Below.refl _ _).drew | exact FA.out _ HY0.out))
    ((first
      | (go_at_call 7; (with_reducible refine (HX0.out w0.drew (Below.refl _ _).drew).mono ?_); rintro e w1 ⟨rfl, hy⟩; have HY0 := Lib.hid hy; clear hy)))
  go_wp2_with fail
  go_ret
  exact ⟨rfl, HB0.out.1.trans (HY0.out.mono HB0.out.1.size)⟩
set_option maxRecDepth 100000 in
set_option maxHeartbeats 1000000 in
theorem ragreed_any (S : Nat → Prop) (A : CfA) (c : Cfg) (w : World) (h : CfR S w A c) (hok : RefOk c) : Calls Tryz.prog 11 #[.agg (cfV A c).toArray] w (RetI (agreedV c) w) := by
  obtain ⟨pa, pn, pc, sa, sn, sc, ba, bn, bc, ta, tn, tc⟩ := A
  obtain ⟨cv, hcv⟩ : ∃ cv, cv = cfV ⟨pa, pn, pc, sa, sn, sc, ba, bn, bc, ta, tn, tc⟩ c := ⟨_, rfl⟩
  rw [← hcv]
  have HCV := Lib.hid hcv
  have HX0' : Hid (∀ w', Below w.heap.size w w' → Calls Tryz.prog 9 #[.agg cv.toArray] w' (RetI (heardV c) w')) := Lib.hid fun w' hb => by rw [HCV.out]; exact rheard_any S _ c w' (h.below hb) hok
  obtain ⟨x, hx⟩ : ∃ x, Hid (x = heardV c) := ⟨_, Lib.hid rfl⟩
  rw [← hx.out] at HX0'
  have HX1' : Hid (∀ w', Below w.heap.size w w' → Calls Tryz.prog 28 #[.agg cv.toArray] w' (RetI (roundV c) w')) := Lib.hid fun w' hb => by rw [HCV.out]; exact rround_any S _ c w' (h.below hb) hok
  obtain ⟨r, hr⟩ : ∃ x, Hid (x = roundV c) := ⟨_, Lib.hid rfl⟩
  rw [← hr.out] at HX1'
  obtain ⟨z, hz⟩ : ∃ z, Hid (z = agreedV c) := ⟨_, Lib.hid rfl⟩
  rw [← hz.out]
  have hb2 : IntKind.i64.wrap (x + r) = z := by
    have h1 := hx.out; have h2 := hr.out; have h3 := hz.out; have h4 := hok.heardV; have h6 := hok.roundV
    have h5 : x + r = z := by rw [h1, h2, h3, agreedV]
    rw [h5, ← h5, h1, h2]; exact IntWalk.i64_in _ (by omega)
  clear h hok
  clear hcv
  go_enter Tryz.func11, Tryz.ntmps11
  go_upto_region 1 with fail
  have HB0 : Hid (Below w.heap.size w (w.alloc (.cells cv.toArray 25)) ∧ Blk (w.alloc (.cells cv.toArray 25)) w.heap.size 25 cv.toArray) := Lib.hid ⟨(Below.refl _ _).alloc (Nat.le_refl _) _, Blk.new _ _ _⟩
  generalize (w.alloc (.cells cv.toArray 25)) = w0 at HB0 ⊢
  have hB0 := HB0.out.2
  rw [HCV.out] at hB0
  obtain ⟨c0, c1, c2, c3, c4, c5, c6, c7, c8⟩ := cfV_cells hB0
  replace c0 : w0.cell? ⟨w.heap.size, 0, none⟩ = some (.int .i64 c.N) := c0
  replace c1 : w0.cell? ⟨w.heap.size, 1, none⟩ = some (.slice pa pn pc) := c1
  replace c2 : w0.cell? ⟨w.heap.size, 2, none⟩ = some (.slice sa sn sc) := c2
  replace c3 : w0.cell? ⟨w.heap.size, 3, none⟩ = some (.int .i64 c.lo) := c3
  replace c4 : w0.cell? ⟨w.heap.size, 4, none⟩ = some (.slice ba bn bc) := c4
  replace c6 : w0.cell? ⟨w.heap.size, 6, none⟩ = some (.int .i64 c.mi) := c6
  replace c7 : w0.cell? ⟨w.heap.size, 7, none⟩ = some (.int .i64 c.go) := c7
  have hw0 : w.heap.size < w0.heap.size := HB0.out.2.lt
  have HX0 : Hid (∀ w', Below w0.heap.size w0 w' → Calls Tryz.prog 9 #[.agg cv.toArray] w' fun e w'' => e = .returned (.int .i64 x) ∧ Below w0.heap.size w0 w'') := Lib.hid fun w' hb => by
    refine (HX0'.out w' (HB0.out.1.trans (hb.mono HB0.out.1.size))).mono ?_
    rintro e w2 ⟨rfl, hb2⟩
    exact ⟨rfl, hb.trans (hb2.mono hb.size)⟩
  have HX1 : Hid (∀ w', Below w0.heap.size w0 w' → Calls Tryz.prog 28 #[.agg cv.toArray] w' fun e w'' => e = .returned (.int .i64 r) ∧ Below w0.heap.size w0 w'') := Lib.hid fun w' hb => by
    refine (HX1'.out w' (HB0.out.1.trans (hb.mono HB0.out.1.size))).mono ?_
    rintro e w2 ⟨rfl, hb2⟩
    exact ⟨rfl, hb.trans (hb2.mono hb.size)⟩
  clear c0 c1 c2 c3 c4 c6 c7
  have FA : Hid (∀ w', Below w0.heap.size w0 w' → hasRow w' ⟨w.heap.size, 0, none⟩ 9 = true ∧ rowOf w' ⟨w.heap.size, 0, none⟩ 9 = cv) := Lib.hid fun w' hb => by
    obtain ⟨d1, d2, -⟩ := (HB0.out.2.below hb hw0).whole (n := 9) (by rw [HCV.out]; rfl)
    exact ⟨d1, d2⟩
  obtain ⟨d1, d2, -⟩ := HB0.out.2.whole (n := 9) (by rw [HCV.out]; rfl)
  clear HX0'
  clear HX1'
  clear hB0
  go_region_held3 (fun w' => hasRow w' ⟨w.heap.size, 0, none⟩ 9 = true ∧ rowOf w' ⟨w.heap.size, 0, none⟩ 9 = cv)
    (with_reducible (first | assumption | exact FA.out _ (Below.refl _ _).drew | exact FA.out _ HY0.out | exact FA.out _ HY1.out))
    ((first
      | (go_at_call 9; (with_reducible refine (HX0.out w0.drew (Below.refl _ _).drew).mono ?_); rintro e w1 ⟨rfl, hy⟩; have HY0 := Lib.hid hy; clear hy)
      | (go_at_call 28; (with_reducible refine (HX1.out w1 HY0.out).mono ?_); rintro e w2 ⟨rfl, hy⟩; have HY1 := Lib.hid hy; clear hy)))
  go_wp2_with fail
  go_ret
  exact ⟨rfl, HB0.out.1.trans (HY1.out.mono HB0.out.1.size)⟩
set_option maxRecDepth 100000 in
set_option maxHeartbeats 1000000 in
theorem rout_any (S : Nat → Prop) (A : CfA) (c : Cfg) (w : World) (h : CfR S w A c) (hok : RefOk c) : Calls Tryz.prog 13 #[.agg (cfV A c).toArray] w (RetI (outV c) w) := by
  obtain ⟨pa, pn, pc, sa, sn, sc, ba, bn, bc, ta, tn, tc⟩ := A
  obtain ⟨cv, hcv⟩ : ∃ cv, cv = cfV ⟨pa, pn, pc, sa, sn, sc, ba, bn, bc, ta, tn, tc⟩ c := ⟨_, rfl⟩
  rw [← hcv]
  have HCV := Lib.hid hcv
  have HX0' : Hid (∀ w', Below w.heap.size w w' → Calls Tryz.prog 28 #[.agg cv.toArray] w' (RetI (roundV c) w')) := Lib.hid fun w' hb => by rw [HCV.out]; exact rround_any S _ c w' (h.below hb) hok
  obtain ⟨r, hr⟩ : ∃ x, Hid (x = roundV c) := ⟨_, Lib.hid rfl⟩
  rw [← hr.out] at HX0'
  obtain ⟨z, hz⟩ : ∃ z, Hid (z = outV c) := ⟨_, Lib.hid rfl⟩
  rw [← hz.out]
  obtain ⟨m, hm⟩ : ∃ m, Hid (m = c.mi) := ⟨_, Lib.hid rfl⟩
  have h5 : m * r + r = z := by rw [hm.out, hr.out, hz.out, outV, Int.add_mul, Int.one_mul]
  have h6 : 0 ≤ m * r := by rw [hm.out, hr.out]; exact Int.mul_nonneg (by have := hok.mi; omega) (by have := hok.roundV; omega)
  have h7 : 0 ≤ r := by rw [hr.out]; have := hok.roundV; omega
  have hb1 : IntKind.i64.wrap (m * r) = m * r := IntWalk.i64_in _ (by have := hok.outV; have := hz.out; omega)
  have hb2 : IntKind.i64.wrap (m * r + r) = z := by
    have h3 := hz.out; have h4 := hok.outV
    rw [h5, h3]; exact IntWalk.i64_in _ (by omega)
  clear h5 h6 h7
  clear h hok
  clear hcv
  go_enter Tryz.func13, Tryz.ntmps13
  go_upto_region 1 with fail
  have HB0 : Hid (Below w.heap.size w (w.alloc (.cells cv.toArray 25)) ∧ Blk (w.alloc (.cells cv.toArray 25)) w.heap.size 25 cv.toArray) := Lib.hid ⟨(Below.refl _ _).alloc (Nat.le_refl _) _, Blk.new _ _ _⟩
  generalize (w.alloc (.cells cv.toArray 25)) = w0 at HB0 ⊢
  have hB0 := HB0.out.2
  rw [HCV.out] at hB0
  obtain ⟨c0, c1, c2, c3, c4, c5, c6, c7, c8⟩ := cfV_cells hB0
  replace c0 : w0.cell? ⟨w.heap.size, 0, none⟩ = some (.int .i64 c.N) := c0
  replace c1 : w0.cell? ⟨w.heap.size, 1, none⟩ = some (.slice pa pn pc) := c1
  replace c2 : w0.cell? ⟨w.heap.size, 2, none⟩ = some (.slice sa sn sc) := c2
  replace c3 : w0.cell? ⟨w.heap.size, 3, none⟩ = some (.int .i64 c.lo) := c3
  replace c4 : w0.cell? ⟨w.heap.size, 4, none⟩ = some (.slice ba bn bc) := c4
  replace c6 : w0.cell? ⟨w.heap.size, 6, none⟩ = some (.int .i64 c.mi) := c6
  replace c7 : w0.cell? ⟨w.heap.size, 7, none⟩ = some (.int .i64 c.go) := c7
  have hw0 : w.heap.size < w0.heap.size := HB0.out.2.lt
  have HX0 : Hid (∀ w', Below w0.heap.size w0 w' → Calls Tryz.prog 28 #[.agg cv.toArray] w' fun e w'' => e = .returned (.int .i64 r) ∧ Below w0.heap.size w0 w'') := Lib.hid fun w' hb => by
    refine (HX0'.out w' (HB0.out.1.trans (hb.mono HB0.out.1.size))).mono ?_
    rintro e w2 ⟨rfl, hb2⟩
    exact ⟨rfl, hb.trans (hb2.mono hb.size)⟩
  rw [← hm.out] at c6
  clear c0 c1 c2 c3 c4 c7
  have FA : Hid (∀ w', Below w0.heap.size w0 w' → hasRow w' ⟨w.heap.size, 0, none⟩ 9 = true ∧ rowOf w' ⟨w.heap.size, 0, none⟩ 9 = cv ∧ w'.cell? ⟨w.heap.size, 6, none⟩ = some (.int .i64 m)) := Lib.hid fun w' hb => by
    obtain ⟨d1, d2, -⟩ := (HB0.out.2.below hb hw0).whole (n := 9) (by rw [HCV.out]; rfl)
    exact ⟨d1, d2, (hb.cell (p := ⟨w.heap.size, 6, none⟩) hw0).trans c6⟩
  obtain ⟨d1, d2, -⟩ := HB0.out.2.whole (n := 9) (by rw [HCV.out]; rfl)
  clear HX0'
  clear hB0
  go_region_held3 (fun w' => hasRow w' ⟨w.heap.size, 0, none⟩ 9 = true ∧ rowOf w' ⟨w.heap.size, 0, none⟩ 9 = cv ∧ w'.cell? ⟨w.heap.size, 6, none⟩ = some (.int .i64 m))
    (with_reducible (first | assumption | exact FA.out _ (Below.refl _ _).drew | exact FA.out _ HY0.out | exact FA.out _ HY1.out))
    ((first
      | (go_at_call 28; (with_reducible refine (HX0.out w0.drew (Below.refl _ _).drew).mono ?_); rintro e w1 ⟨rfl, hy⟩; have HY0 := Lib.hid hy; clear hy)
      | (go_at_call 28; (with_reducible refine (HX0.out w1 HY0.out).mono ?_); rintro e w2 ⟨rfl, hy⟩; have HY1 := Lib.hid hy; clear hy)))
  go_wp2_with fail
  go_ret
  exact ⟨rfl, HB0.out.1.trans (HY1.out.mono HB0.out.1.size)⟩
set_option maxRecDepth 100000 in
set_option maxHeartbeats 1000000 in
theorem rin_any (S : Nat → Prop) (A : CfA) (c : Cfg) (w : World) (h : CfR S w A c) (hok : RefOk c) : Calls Tryz.prog 15 #[.agg (cfV A c).toArray] w (RetI (inV c) w) := by
  obtain ⟨pa, pn, pc, sa, sn, sc, ba, bn, bc, ta, tn, tc⟩ := A
  obtain ⟨cv, hcv⟩ : ∃ cv, cv = cfV ⟨pa, pn, pc, sa, sn, sc, ba, bn, bc, ta, tn, tc⟩ c := ⟨_, rfl⟩
  rw [← hcv]
  have HCV := Lib.hid hcv
  have HX0' : Hid (∀ w', Below w.heap.size w w' → Calls Tryz.prog 28 #[.agg cv.toArray] w' (RetI (roundV c) w')) := Lib.hid fun w' hb => by rw [HCV.out]; exact rround_any S _ c w' (h.below hb) hok
  obtain ⟨r, hr⟩ : ∃ x, Hid (x = roundV c) := ⟨_, Lib.hid rfl⟩
  rw [← hr.out] at HX0'
  obtain ⟨z, hz⟩ : ∃ z, Hid (z = inV c) := ⟨_, Lib.hid rfl⟩
  rw [← hz.out]
  obtain ⟨m, hm⟩ : ∃ m, Hid (m = c.go) := ⟨_, Lib.hid rfl⟩
  have h5 : m * r + r = z := by rw [hm.out, hr.out, hz.out, inV, Int.add_mul, Int.one_mul]
  have h6 : 0 ≤ m * r := by rw [hm.out, hr.out]; exact Int.mul_nonneg (by have := hok.go; omega) (by have := hok.roundV; omega)
  have h7 : 0 ≤ r := by rw [hr.out]; have := hok.roundV; omega
  have hb1 : IntKind.i64.wrap (m * r) = m * r := IntWalk.i64_in _ (by have := hok.inV; have := hz.out; omega)
  have hb2 : IntKind.i64.wrap (m * r + r) = z := by
    have h3 := hz.out; have h4 := hok.inV
    rw [h5, h3]; exact IntWalk.i64_in _ (by omega)
  clear h5 h6 h7
  clear h hok
  clear hcv
  go_enter Tryz.func15, Tryz.ntmps15
  go_upto_region 1 with fail
  have HB0 : Hid (Below w.heap.size w (w.alloc (.cells cv.toArray 25)) ∧ Blk (w.alloc (.cells cv.toArray 25)) w.heap.size 25 cv.toArray) := Lib.hid ⟨(Below.refl _ _).alloc (Nat.le_refl _) _, Blk.new _ _ _⟩
  generalize (w.alloc (.cells cv.toArray 25)) = w0 at HB0 ⊢
  have hB0 := HB0.out.2
  rw [HCV.out] at hB0
  obtain ⟨c0, c1, c2, c3, c4, c5, c6, c7, c8⟩ := cfV_cells hB0
  replace c0 : w0.cell? ⟨w.heap.size, 0, none⟩ = some (.int .i64 c.N) := c0
  replace c1 : w0.cell? ⟨w.heap.size, 1, none⟩ = some (.slice pa pn pc) := c1
  replace c2 : w0.cell? ⟨w.heap.size, 2, none⟩ = some (.slice sa sn sc) := c2
  replace c3 : w0.cell? ⟨w.heap.size, 3, none⟩ = some (.int .i64 c.lo) := c3
  replace c4 : w0.cell? ⟨w.heap.size, 4, none⟩ = some (.slice ba bn bc) := c4
  replace c6 : w0.cell? ⟨w.heap.size, 6, none⟩ = some (.int .i64 c.mi) := c6
  replace c7 : w0.cell? ⟨w.heap.size, 7, none⟩ = some (.int .i64 c.go) := c7
  have hw0 : w.heap.size < w0.heap.size := HB0.out.2.lt
  have HX0 : Hid (∀ w', Below w0.heap.size w0 w' → Calls Tryz.prog 28 #[.agg cv.toArray] w' fun e w'' => e = .returned (.int .i64 r) ∧ Below w0.heap.size w0 w'') := Lib.hid fun w' hb => by
    refine (HX0'.out w' (HB0.out.1.trans (hb.mono HB0.out.1.size))).mono ?_
    rintro e w2 ⟨rfl, hb2⟩
    exact ⟨rfl, hb.trans (hb2.mono hb.size)⟩
  rw [← hm.out] at c7
  clear c0 c1 c2 c3 c4 c6
  have FA : Hid (∀ w', Below w0.heap.size w0 w' → hasRow w' ⟨w.heap.size, 0, none⟩ 9 = true ∧ rowOf w' ⟨w.heap.size, 0, none⟩ 9 = cv ∧ w'.cell? ⟨w.heap.size, 7, none⟩ = some (.int .i64 m)) := Lib.hid fun w' hb => by
    obtain ⟨d1, d2, -⟩ := (HB0.out.2.below hb hw0).whole (n := 9) (by rw [HCV.out]; rfl)
    exact ⟨d1, d2, (hb.cell (p := ⟨w.heap.size, 7, none⟩) hw0).trans c7⟩
  obtain ⟨d1, d2, -⟩ := HB0.out.2.whole (n := 9) (by rw [HCV.out]; rfl)
  clear HX0'
  clear hB0
  go_region_held3 (fun w' => hasRow w' ⟨w.heap.size, 0, none⟩ 9 = true ∧ rowOf w' ⟨w.heap.size, 0, none⟩ 9 = cv ∧ w'.cell? ⟨w.heap.size, 7, none⟩ = some (.int .i64 m))
    (with_reducible (first | assumption | exact FA.out _ (Below.refl _ _).drew | exact FA.out _ HY0.out | exact FA.out _ HY1.out))
    ((first
      | (go_at_call 28; (with_reducible refine (HX0.out w0.drew (Below.refl _ _).drew).mono ?_); rintro e w1 ⟨rfl, hy⟩; have HY0 := Lib.hid hy; clear hy)
      | (go_at_call 28; (with_reducible refine (HX0.out w1 HY0.out).mono ?_); rintro e w2 ⟨rfl, hy⟩; have HY1 := Lib.hid hy; clear hy)))
  go_wp2_with fail
  go_ret
  exact ⟨rfl, HB0.out.1.trans (HY1.out.mono HB0.out.1.size)⟩
set_option maxRecDepth 100000 in
set_option maxHeartbeats 1000000 in
theorem rtake_any (S : Nat → Prop) (A : CfA) (c : Cfg) (w : World) (h : CfR S w A c) (hok : RefOk c) : Calls Tryz.prog 17 #[.agg (cfV A c).toArray] w (RetI (takeV c) w) := by
  obtain ⟨pa, pn, pc, sa, sn, sc, ba, bn, bc, ta, tn, tc⟩ := A
  obtain ⟨cv, hcv⟩ : ∃ cv, cv = cfV ⟨pa, pn, pc, sa, sn, sc, ba, bn, bc, ta, tn, tc⟩ c := ⟨_, rfl⟩
  rw [← hcv]
  have HCV := Lib.hid hcv
  have HX0' : Hid (∀ w', Below w.heap.size w w' → Calls Tryz.prog 13 #[.agg cv.toArray] w' (RetI (outV c) w')) := Lib.hid fun w' hb => by rw [HCV.out]; exact rout_any S _ c w' (h.below hb) hok
  obtain ⟨x, hx⟩ : ∃ x, Hid (x = outV c) := ⟨_, Lib.hid rfl⟩
  rw [← hx.out] at HX0'
  have HX1' : Hid (∀ w', Below w.heap.size w w' → Calls Tryz.prog 28 #[.agg cv.toArray] w' (RetI (roundV c) w')) := Lib.hid fun w' hb => by rw [HCV.out]; exact rround_any S _ c w' (h.below hb) hok
  obtain ⟨r, hr⟩ : ∃ x, Hid (x = roundV c) := ⟨_, Lib.hid rfl⟩
  rw [← hr.out] at HX1'
  obtain ⟨z, hz⟩ : ∃ z, Hid (z = takeV c) := ⟨_, Lib.hid rfl⟩
  rw [← hz.out]
  have hb2 : IntKind.i64.wrap (x + r) = z := by
    have h1 := hx.out; have h2 := hr.out; have h3 := hz.out; have h4 := hok.outV; have h6 := hok.roundV
    have h5 : x + r = z := by rw [h1, h2, h3, takeV]
    rw [h5, ← h5, h1, h2]; exact IntWalk.i64_in _ (by omega)
  clear h hok
  clear hcv
  go_enter Tryz.func17, Tryz.ntmps17
  go_upto_region 1 with fail
  have HB0 : Hid (Below w.heap.size w (w.alloc (.cells cv.toArray 25)) ∧ Blk (w.alloc (.cells cv.toArray 25)) w.heap.size 25 cv.toArray) := Lib.hid ⟨(Below.refl _ _).alloc (Nat.le_refl _) _, Blk.new _ _ _⟩
  generalize (w.alloc (.cells cv.toArray 25)) = w0 at HB0 ⊢
  have hB0 := HB0.out.2
  rw [HCV.out] at hB0
  obtain ⟨c0, c1, c2, c3, c4, c5, c6, c7, c8⟩ := cfV_cells hB0
  replace c0 : w0.cell? ⟨w.heap.size, 0, none⟩ = some (.int .i64 c.N) := c0
  replace c1 : w0.cell? ⟨w.heap.size, 1, none⟩ = some (.slice pa pn pc) := c1
  replace c2 : w0.cell? ⟨w.heap.size, 2, none⟩ = some (.slice sa sn sc) := c2
  replace c3 : w0.cell? ⟨w.heap.size, 3, none⟩ = some (.int .i64 c.lo) := c3
  replace c4 : w0.cell? ⟨w.heap.size, 4, none⟩ = some (.slice ba bn bc) := c4
  replace c6 : w0.cell? ⟨w.heap.size, 6, none⟩ = some (.int .i64 c.mi) := c6
  replace c7 : w0.cell? ⟨w.heap.size, 7, none⟩ = some (.int .i64 c.go) := c7
  have hw0 : w.heap.size < w0.heap.size := HB0.out.2.lt
  have HX0 : Hid (∀ w', Below w0.heap.size w0 w' → Calls Tryz.prog 13 #[.agg cv.toArray] w' fun e w'' => e = .returned (.int .i64 x) ∧ Below w0.heap.size w0 w'') := Lib.hid fun w' hb => by
    refine (HX0'.out w' (HB0.out.1.trans (hb.mono HB0.out.1.size))).mono ?_
    rintro e w2 ⟨rfl, hb2⟩
    exact ⟨rfl, hb.trans (hb2.mono hb.size)⟩
  have HX1 : Hid (∀ w', Below w0.heap.size w0 w' → Calls Tryz.prog 28 #[.agg cv.toArray] w' fun e w'' => e = .returned (.int .i64 r) ∧ Below w0.heap.size w0 w'') := Lib.hid fun w' hb => by
    refine (HX1'.out w' (HB0.out.1.trans (hb.mono HB0.out.1.size))).mono ?_
    rintro e w2 ⟨rfl, hb2⟩
    exact ⟨rfl, hb.trans (hb2.mono hb.size)⟩
  clear c0 c1 c2 c3 c4 c6 c7
  have FA : Hid (∀ w', Below w0.heap.size w0 w' → hasRow w' ⟨w.heap.size, 0, none⟩ 9 = true ∧ rowOf w' ⟨w.heap.size, 0, none⟩ 9 = cv) := Lib.hid fun w' hb => by
    obtain ⟨d1, d2, -⟩ := (HB0.out.2.below hb hw0).whole (n := 9) (by rw [HCV.out]; rfl)
    exact ⟨d1, d2⟩
  obtain ⟨d1, d2, -⟩ := HB0.out.2.whole (n := 9) (by rw [HCV.out]; rfl)
  clear HX0'
  clear HX1'
  clear hB0
  go_region_held3 (fun w' => hasRow w' ⟨w.heap.size, 0, none⟩ 9 = true ∧ rowOf w' ⟨w.heap.size, 0, none⟩ 9 = cv)
    (with_reducible (first | assumption | exact FA.out _ (Below.refl _ _).drew | exact FA.out _ HY0.out | exact FA.out _ HY1.out))
    ((first
      | (go_at_call 13; (with_reducible refine (HX0.out w0.drew (Below.refl _ _).drew).mono ?_); rintro e w1 ⟨rfl, hy⟩; have HY0 := Lib.hid hy; clear hy)
      | (go_at_call 28; (with_reducible refine (HX1.out w1 HY0.out).mono ?_); rintro e w2 ⟨rfl, hy⟩; have HY1 := Lib.hid hy; clear hy)))
  go_wp2_with fail
  go_ret
  exact ⟨rfl, HB0.out.1.trans (HY1.out.mono HB0.out.1.size)⟩
set_option maxRecDepth 100000 in
set_option maxHeartbeats 1000000 in
theorem rfresh_any (A : CfA) (c : Cfg) (w : World) (hok : RefOk c) : Calls Tryz.prog 19 #[.agg (cfV A c).toArray] w (RetI (freshV c) w) := by
  obtain ⟨pa, pn, pc, sa, sn, sc, ba, bn, bc, ta, tn, tc⟩ := A
  obtain ⟨N, hN⟩ : ∃ N, Hid (N = c.N) := ⟨_, Lib.hid rfl⟩
  obtain ⟨lo, hlo⟩ : ∃ lo, Hid (lo = c.lo) := ⟨_, Lib.hid rfl⟩
  have h1 : IntKind.i64.wrap (2 * N) = 2 * N := IntWalk.i64_in _ (by have := hN.out; have := hok.n; omega)
  have h2 : IntKind.i64.wrap (2 * lo) = 2 * lo := IntWalk.i64_in _ (by have := hlo.out; have := hok.lo; have := hok.n; omega)
  have h3 : IntKind.i64.wrap (2 * lo + 2 * N) = freshV c := by
    rw [freshV, ← hN.out, ← hlo.out, Int.mul_add]; exact IntWalk.i64_in _ (by have := hlo.out; have := hN.out; have := hok.lo; have := hok.n; omega)
  clear hok
  obtain ⟨cv, hcv⟩ : ∃ cv, cv = cfV ⟨pa, pn, pc, sa, sn, sc, ba, bn, bc, ta, tn, tc⟩ c := ⟨_, rfl⟩
  rw [← hcv]
  have HCV := Lib.hid hcv
  clear hcv
  go_enter Tryz.func19, Tryz.ntmps19
  go_upto_region 1 with fail
  have HB0 : Hid (Below w.heap.size w (w.alloc (.cells cv.toArray 25)) ∧ Blk (w.alloc (.cells cv.toArray 25)) w.heap.size 25 cv.toArray) := Lib.hid ⟨(Below.refl _ _).alloc (Nat.le_refl _) _, Blk.new _ _ _⟩
  generalize (w.alloc (.cells cv.toArray 25)) = w0 at HB0 ⊢
  have hB0 := HB0.out.2
  rw [HCV.out] at hB0
  obtain ⟨c0, c1, c2, c3, c4, c5, c6, c7, c8⟩ := cfV_cells hB0
  replace c0 : w0.cell? ⟨w.heap.size, 0, none⟩ = some (.int .i64 c.N) := c0
  replace c1 : w0.cell? ⟨w.heap.size, 1, none⟩ = some (.slice pa pn pc) := c1
  replace c2 : w0.cell? ⟨w.heap.size, 2, none⟩ = some (.slice sa sn sc) := c2
  replace c3 : w0.cell? ⟨w.heap.size, 3, none⟩ = some (.int .i64 c.lo) := c3
  replace c4 : w0.cell? ⟨w.heap.size, 4, none⟩ = some (.slice ba bn bc) := c4
  replace c6 : w0.cell? ⟨w.heap.size, 6, none⟩ = some (.int .i64 c.mi) := c6
  replace c7 : w0.cell? ⟨w.heap.size, 7, none⟩ = some (.int .i64 c.go) := c7
  have hw0 : w.heap.size < w0.heap.size := HB0.out.2.lt
  rw [← hN.out] at c0
  rw [← hlo.out] at c3
  clear c1 c2 c4 c6 c7 hB0
  go_wp2_with fail
  go_ret
  exact ⟨rfl, HB0.out.1⟩
end Go.Proofs.YtopakilglnpinaaGreatDoor
