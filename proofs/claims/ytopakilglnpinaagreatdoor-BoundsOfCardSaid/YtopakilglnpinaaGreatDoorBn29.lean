
/-
  Configs (chapters 4, 6): what is gone through; the net of a config.
-/
import Derived.Test.YtopakilglnpinaaGreatDoorBn28
namespace Go.Proofs.YtopakilglnpinaaGreatDoor
open Go.RowKit
set_option linter.unusedVariables false
set_option linter.unusedSimpArgs false

def AnyB (w : World) (e : Ending) (w' : World) : Prop := ∃ b : Bool, e = .returned (.bool b) ∧ Below w.heap.size w w'
set_option maxRecDepth 100000 in
set_option maxHeartbeats 1000000 in
theorem great04_any (A : CfA) (c : Cfg) (w : World) : Calls Tryz.prog 20 #[.agg (cfV A c).toArray] w (AnyB w) := by
  obtain ⟨pa, pn, pc, sa, sn, sc, ba, bn, bc, ta, tn, tc⟩ := A
  obtain ⟨cv, hcv⟩ : ∃ cv, cv = cfV ⟨pa, pn, pc, sa, sn, sc, ba, bn, bc, ta, tn, tc⟩ c := ⟨_, rfl⟩
  rw [← hcv]
  have HCV := Lib.hid hcv
  clear hcv
  go_enter Tryz.func20, Tryz.ntmps20
  go_upto_region 1 with fail
  have HB0 : Hid (Below w.heap.size w (w.alloc (.cells cv.toArray 25)) ∧ Blk (w.alloc (.cells cv.toArray 25)) w.heap.size 25 cv.toArray) := Lib.hid ⟨(Below.refl _ _).alloc (Nat.le_refl _) _, Blk.new _ _ _⟩
  generalize w.alloc (.cells cv.toArray 25) = w0 at HB0 ⊢
  have hB0 := HB0.out.2
  rw [HCV.out] at hB0
  obtain ⟨c0, c1, c2, c3, c4, c5, c6, c7, c8⟩ := cfV_cells hB0
  replace c1 : w0.cell? ⟨w.heap.size, 1, none⟩ = some (.slice pa pn pc) := c1
  replace c2 : w0.cell? ⟨w.heap.size, 2, none⟩ = some (.slice sa sn sc) := c2
  replace c4 : w0.cell? ⟨w.heap.size, 4, none⟩ = some (.slice ba bn bc) := c4
  replace c5 : w0.cell? ⟨w.heap.size, 5, none⟩ = some (.slice ta tn tc) := c5
  clear c0 c3 c6 c7 c8 hB0
  by_cases h1 : 60 < pn
  · have h1' : (60 : Int) < pn := by omega
    go_wp2_with fail
    go_ret
    exact ⟨_, rfl, HB0.out.1⟩
  · have h1' : ¬ (60 : Int) < pn := by omega
    by_cases h2 : 60 < sn
    · have h2' : (60 : Int) < sn := by omega
      go_wp2_with fail
      go_ret
      exact ⟨_, rfl, HB0.out.1⟩
    · have h2' : ¬ (60 : Int) < sn := by omega
      by_cases h3 : 60 < bn
      · have h3' : (60 : Int) < bn := by omega
        go_wp2_with fail
        go_ret
        exact ⟨_, rfl, HB0.out.1⟩
      · have h3' : ¬ (60 : Int) < bn := by omega
        go_wp2_with fail
        go_ret
        exact ⟨_, rfl, HB0.out.1⟩
def NetR (c : Cfg) (w : World) (e : Ending) (w' : World) : Prop := Below w.heap.size w w' ∧ (e = .returned (.pointer none) ∨ RefOk c ∧ ∃ p A q, e = .returned (.pointer (some ⟨p, 0, none⟩)) ∧ NetAt (w.heap.size ≤ ·) w' p A q c)
set_option maxRecDepth 100000 in
set_option maxHeartbeats 1000000 in
theorem net06_any (S : Nat → Prop) (A : CfA) (c : Cfg) (w : World) (h : CfR S w A c) (hsg : SgW w) : Calls Tryz.prog 4 #[.agg (cfV A c).toArray] w (NetR c w) := by
  obtain ⟨cv, hcv⟩ : ∃ cv, cv = cfV A c := ⟨_, rfl⟩
  rw [← hcv]
  have HCV := Lib.hid hcv
  have HG := Lib.hid fun w => great04_any A c w
  have HN : Hid (∀ w', Below w.heap.size w w' → Calls Tryz.prog 21 #[.agg cv.toArray] w' (NewR c w')) := Lib.hid fun w' hb => by rw [hcv]; exact rnew04_any S A c w' (h.below hb)
  have HY : Hid (RefOk c → ∀ w', Below w.heap.size w w' → Calls Tryz.prog 22 #[.agg cv.toArray] w' (NewYes c w')) := Lib.hid fun hok w' hb => by rw [hcv]; exact newYes_any S A c w' (h.below hb) (hsg.below hb) hok
  rw [← hcv] at HG
  clear hcv h hsg
  go_enter Tryz.func4, Tryz.ntmps4
  go_upto_region 1 with fail
  have HB0 : Hid (Below w.heap.size w (w.alloc (.cells cv.toArray 25)) ∧ Blk (w.alloc (.cells cv.toArray 25)) w.heap.size 25 cv.toArray) := Lib.hid ⟨(Below.refl _ _).alloc (Nat.le_refl _) _, Blk.new _ _ _⟩
  generalize w.alloc (.cells cv.toArray 25) = w0 at HB0 ⊢
  obtain ⟨d1, d2, -⟩ := HB0.out.2.whole (n := 9) (by rw [HCV.out]; rfl)
  go_wp2_with fail
  (with_reducible refine (HG.out _).mono ?_)
  rintro e w1 ⟨b, rfl, hb⟩
  have HB1 := Lib.hid (HB0.out.1.trans (hb.mono HB0.out.1.size))
  have HK1 := Lib.hid (HB0.out.2.below hb HB0.out.2.lt)
  obtain ⟨e1, e2, -⟩ := HK1.out.whole (n := 9) (by rw [HCV.out]; rfl)
  clear hb d1 d2
  cases b with
  | true =>
    go_wp2_with fail
    go_ret
    exact ⟨HB1.out, .inl rfl⟩
  | false =>
    go_wp2_with fail
    (with_reducible refine (HN.out _ HB1.out).mono ?_)
    rintro e w2 ⟨k, rfl, hk, hb⟩
    have HB2 := Lib.hid (HB1.out.trans (hb.mono HB1.out.size))
    have HK2 := Lib.hid (HK1.out.below hb HK1.out.lt)
    have HO := Lib.hid hk
    obtain ⟨f1, f2, -⟩ := HK2.out.whole (n := 9) (by rw [HCV.out]; rfl)
    clear hb e1 e2 hk
    by_cases hk0 : k = 0
    · subst hk0
      have HOK := Lib.hid (HO.out rfl)
      go_wp2_with fail
      (with_reducible refine (HY.out HOK.out _ HB2.out).mono ?_)
      rintro e w3 ⟨p, A3, q, rfl, hn, hb⟩
      have HF : Hid (NetR c w (.returned (.pointer (some ⟨p, 0, none⟩))) w3) := Lib.hid ⟨HB2.out.trans (hb.mono HB2.out.size), .inr ⟨HOK.out, p, A3, q, rfl, NetTab.mono hn fun b _ h => Nat.le_trans HB2.out.size h⟩⟩
      clear hn hb
      go_wp2_with fail
      go_ret
      exact HF.out
    · go_wp2_with fail
      go_ret
      exact ⟨HB2.out, .inl rfl⟩
end Go.Proofs.YtopakilglnpinaaGreatDoor
