
/-
  Configs (chapter 4): the document's answer: slots.
-/
import Derived.Test.YtopakilglnpinaaGreatDoorBn26
namespace Go.Proofs.YtopakilglnpinaaGreatDoor
open Go.RowKit
set_option linter.unusedVariables false
set_option linter.unusedSimpArgs false

def SlotsOk (n : Nat) (l : List Int) : Prop := (∀ z ∈ l, 0 ≤ z ∧ z < (n : Nat)) ∧ ∀ i : Nat, i < n → (i : Int) ∈ l
set_option maxRecDepth 100000 in
set_option maxHeartbeats 2000000 in
theorem rslots_any (S : Nat → Prop) (A : CfA) (c : Cfg) (w : World) (h : CfR S w A c) (hP : c.P.length ≤ 8) : Calls Tryz.prog 35 #[.agg (cfV A c).toArray] w (RetB (SlotsOk c.P.length c.Sl) w) := by
  obtain ⟨pa, pn, pc, sa, sn, sc, ba, bn, bc, ta, tn, tc⟩ := A
  have HR := Lib.hid h.s
  have hpl : c.P.length = pn := h.p.1
  have hm2 := h.cp.2.1.2
  unfold maxLen at hm2
  simp only at HR hm2
  have hm1 : sn ≤ sc := h.cp.2.1.1
  rw [hpl] at hP ⊢
  obtain ⟨cv, hcv⟩ : ∃ cv, cv = cfV ⟨pa, pn, pc, sa, sn, sc, ba, bn, bc, ta, tn, tc⟩ c := ⟨_, rfl⟩
  rw [← hcv]
  have HCV := Lib.hid hcv
  clear hcv h hpl
  have hmk : madeOk (.int .i64 (pn : Int)) (.int .i64 (pn : Int)) = true := by simp [madeOk]; omega
  have hlv : lenV (.int .i64 (pn : Int)) = pn := by simp [lenV]
  go_enter Tryz.func35, Tryz.ntmps35
  go_upto_region 1 with fail
  have HB0 : Hid (Below w.heap.size w (w.alloc (.cells cv.toArray 25)) ∧ Blk (w.alloc (.cells cv.toArray 25)) w.heap.size 25 cv.toArray) := Lib.hid ⟨(Below.refl _ _).alloc (Nat.le_refl _) _, Blk.new _ _ _⟩
  generalize w.alloc (.cells cv.toArray 25) = w0 at HB0 ⊢
  rw [HCV.out] at HB0
  obtain ⟨c0, c1, c2, -⟩ := cfV_cells HB0.out.2
  replace c1 : w0.cell? ⟨w.heap.size, 1, none⟩ = some (.slice pa pn pc) := c1
  have hw0 : w.heap.size < w0.heap.size := HB0.out.2.lt
  clear c0 c2
  have H1 : Hid (Below w0.heap.size w0 (w0.alloc (.cells (zrep [Value.bool false] pn).toArray 4)) ∧ Blk (w0.alloc (.cells (zrep [Value.bool false] pn).toArray 4)) w0.heap.size 4 (usedV pn (c.Sl.take 0)).toArray) := Lib.hid ⟨(Below.refl _ _).alloc (Nat.le_refl _) _, by
    rw [List.take_zero, ← usedV_nil]; exact Blk.new _ _ _⟩
  go_upto_region 2 with fail
  generalize w0.alloc (.cells (zrep [Value.bool false] pn).toArray 4) = w1 at H1 ⊢
  go_wp2_with fail
  go_loopw [4] (fun i wr => ∃ k : Nat, k ≤ sn ∧ i = .int .i64 k ∧ Hid (Below w0.heap.size w0 wr ∧ Blk wr w0.heap.size 4 (usedV pn (c.Sl.take k)).toArray ∧ ∀ z ∈ c.Sl.take k, 0 ≤ z ∧ z < (pn : Nat))) (fun i _ => sn - (intOf i).toNat)
  case atStart => exact ⟨0, by omega, rfl, Lib.hid ⟨H1.out.1, H1.out.2, by simp⟩⟩
  case round =>
    obtain ⟨k, hk, rfl, HK⟩ := hrel
    obtain ⟨-, d1, d2, -⟩ := cfV_cells (HB0.out.2.below HK.out.1 hw0)
    replace d1 : wr.cell? ⟨w.heap.size, 1, none⟩ = some (.slice pa pn pc) := d1
    replace d2 : wr.cell? ⟨w.heap.size, 2, none⟩ = some (.slice sa sn sc) := d2
    clear H1 c1
    by_cases hlt : k < sn
    · obtain ⟨b, off, z, rfl, -, hbl, hz, hc⟩ := HR.out.at_ hlt
      have hlt' : (k : Int) < sn := by omega
      have hk0 : (0 : Int) ≤ k := by omega
      have HZ := Lib.hid hz
      have hcz := ((HB0.out.1.trans (HK.out.1.mono HB0.out.1.size)).cell (p := ⟨b, off + k, none⟩) hbl).trans hc
      have HNO : Hid (∀ n, RetB (SlotsOk pn c.Sl) w (.returned (.bool false)) (wr.drewN n)) := Lib.hid fun n => RetB.no (HB0.out.1.trans ((HK.out.1.mono HB0.out.1.size).trans ((belowD wr n).mono (Nat.le_trans HB0.out.1.size HK.out.1.size))))
      clear hc hz
      by_cases hz0 : z < 0
      · go_upto_region 5 with fail
        go_quiet (fail)
        go_wp2_with fail
        go_ret
        exact HNO.out _
      · obtain ⟨y, rfl⟩ : ∃ y : Nat, z = y := ⟨z.toNat, by omega⟩
        by_cases hzn : (pn : Int) ≤ y
        · have hzn' : pn ≤ y := by omega
          go_upto_region 5 with fail
          go_quiet (fail)
          go_wp2_with fail
          go_ret
          exact HNO.out _
        · have hyn : y < pn := by omega
          have hyn' : ¬ pn ≤ y := by omega
          have hf1 : wr.frozen? ⟨w0.heap.size, y, none⟩ = false := HK.out.2.1.frozen y
          have hu1 := (HK.out.2.1.cell y).trans (usedV_at (H := c.Sl.take k) hyn)
          obtain ⟨q1, hq1⟩ : ∃ q1, Hid (q1 = decide ((y : Int) ∈ c.Sl.take k)) := ⟨_, Lib.hid rfl⟩
          rw [← hq1.out] at hu1
          go_upto_region 5 with fail
          go_quiet (fail)
          have HN : Hid (∀ n, Below w0.heap.size w0 ((wr.drewN n).setCell ⟨w0.heap.size, y, none⟩ (.bool true)) ∧ Blk ((wr.drewN n).setCell ⟨w0.heap.size, y, none⟩ (.bool true)) w0.heap.size 4 (usedV pn (c.Sl.take (k + 1))).toArray ∧ ∀ z ∈ c.Sl.take (k + 1), 0 ≤ z ∧ z < (pn : Nat)) := Lib.hid fun n => ⟨(HK.out.1.trans ((belowD wr n).mono HK.out.1.size)).setCell (Nat.le_refl _) _, by
            have := (HK.out.2.1.drewN n).set_ y (.bool true)
            rw [List.take_add_one, HZ.out, Option.toList_some, ← usedV_set]
            simpa using this, fun z hz => by
            rw [List.take_add_one, HZ.out, Option.toList_some, List.mem_append, List.mem_singleton] at hz
            rcases hz with hz | rfl
            · exact HK.out.2.2 z hz
            · omega⟩
          go_wp2_with fail
          exact ⟨⟨k + 1, by omega, by go_num, Lib.hid (HN.out _)⟩, by simp [intOf]; omega⟩
    · obtain rfl : k = sn := by omega
      have hlt' : ¬ (k : Int) < k := by omega
      have HU : Hid (Below w.heap.size w wr ∧ Blk wr w0.heap.size 4 (usedV pn c.Sl).toArray ∧ ∀ z ∈ c.Sl, 0 ≤ z ∧ z < (pn : Nat)) := Lib.hid (by
        have := HK.out
        rw [List.take_of_length_le (by rw [HR.out.1]; omega)] at this
        exact ⟨HB0.out.1.trans (this.1.mono HB0.out.1.size), this.2.1, this.2.2⟩)
      clear HK
      obtain ⟨wo, rfl⟩ : ∃ wo, wo = wr := ⟨_, rfl⟩
      go_wp2_with fail
      go_loopw [5] (fun i wr => ∃ k : Nat, k ≤ pn ∧ i = .int .i64 k ∧ wr = wo ∧ Hid (∀ i : Nat, i < k → (i : Int) ∈ c.Sl)) (fun i _ => pn - (intOf i).toNat)
      case atStart => exact ⟨0, by omega, rfl, rfl, Lib.hid (fun i hi => absurd hi (by omega))⟩
      case round =>
        obtain ⟨j, hj, rfl, rfl, HJ⟩ := hrel
        by_cases hlj : j < pn
        · have hlj' : (j : Int) < pn := by omega
          have hj0 : (0 : Int) ≤ j := by omega
          have hu1 := (HU.out.2.1.cell j).trans (usedV_at (H := c.Sl) hlj)
          obtain ⟨q1, hq1⟩ : ∃ q1, Hid (q1 = decide ((j : Int) ∈ c.Sl)) := ⟨_, Lib.hid rfl⟩
          rw [← hq1.out] at hu1
          have HNO : Hid (RetB (SlotsOk pn c.Sl) w (.returned (.bool false)) wr) := Lib.hid (RetB.no HU.out.1)
          cases q1 with
          | false =>
            go_wp2_with fail
            go_ret
            exact HNO.out
          | true =>
            have HN : Hid (∀ i : Nat, i < j + 1 → (i : Int) ∈ c.Sl) := Lib.hid fun i hi => by
              by_cases hij : i < j
              · exact HJ.out i hij
              · obtain rfl : i = j := by omega
                exact of_decide_eq_true hq1.out.symm
            go_wp2_with fail
            exact ⟨⟨j + 1, by omega, by go_num, by first | rfl | trivial, HN⟩, by simp [intOf]; omega⟩
        · obtain rfl : j = pn := by omega
          have hlj' : ¬ (j : Int) < j := by omega
          have HF : Hid (RetB (SlotsOk j c.Sl) w (.returned (.bool true)) wr) := Lib.hid ⟨true, rfl, fun _ => ⟨HU.out.2.2, HJ.out⟩, HU.out.1⟩
          go_wp2_with fail
          go_ret
          exact HF.out
end Go.Proofs.YtopakilglnpinaaGreatDoor
