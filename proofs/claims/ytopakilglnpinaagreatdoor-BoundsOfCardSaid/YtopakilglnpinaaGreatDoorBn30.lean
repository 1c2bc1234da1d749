
/-
  Bounds (chapter 34): the statement's walk.
-/
import Derived.Test.YtopakilglnpinaaGreatDoorBn29
namespace Go.Proofs.YtopakilglnpinaaGreatDoor
open Go.RowKit
set_option linter.unusedVariables false
set_option linter.unusedSimpArgs false

theorem rdz_lit {w w' : World} {g : Nat} {t : TypeId} {l : List Int} (h : Blk w' g t (ints l).toArray) (hg : w.heap.size ≤ g) : RdZ (w.heap.size ≤ ·) w' (some ⟨g, 0, none⟩) l.length l :=
  ⟨rfl, fun k z hz => ⟨g, 0, rfl, hg, h.lt, by rw [h.cell, List.getElem?_toArray, ints, List.getElem?_map, Nat.zero_add, hz]; rfl⟩⟩
def liveA (g : Nat) : CfA := ⟨some ⟨g, 0, none⟩, 2, 2, some ⟨g + 1, 0, none⟩, 2, 2, some ⟨g + 2, 0, none⟩, 4, 4, none, 0, 0⟩
theorem live_vals : startV liveC = 24 ∧ heardV liveC = 504 ∧ agreedV liveC = 744 ∧ outV liveC = 960 ∧ inV liveC = 720 ∧ takeV liveC = 1200 ∧ freshV liveC = 248 := by decide
set_option maxRecDepth 100000 in
set_option maxHeartbeats 2000000 in
theorem lives34_any (w : World) (hsg : SgW w) : Calls Tryz.prog 5 #[] w fun e w' => e = .returned (.bool true) ∧ Below w.heap.size w w' := by
  have hB : Below w.heap.size w (((w.alloc (.cells #[Value.int .i64 0, .int .i64 2] 3)).alloc (.cells #[Value.int .i64 0, .int .i64 1] 3)).alloc (.cells #[Value.int .i64 0, .int .i64 0, .int .i64 0, .int .i64 0] 3)) := (((Below.refl _ _).alloc (Nat.le_refl _) _).alloc (by simp) _).alloc (by simp; omega) _
  have k1 := ((Blk.new w 3 #[Value.int .i64 0, .int .i64 2]).alloc (.cells #[Value.int .i64 0, .int .i64 1] 3)).alloc (.cells #[Value.int .i64 0, .int .i64 0, .int .i64 0, .int .i64 0] 3)
  have k2 := (Blk.new (w.alloc (.cells #[Value.int .i64 0, .int .i64 2] 3)) 3 #[Value.int .i64 0, .int .i64 1]).alloc (.cells #[Value.int .i64 0, .int .i64 0, .int .i64 0, .int .i64 0] 3)
  have k3 := Blk.new ((w.alloc (.cells #[Value.int .i64 0, .int .i64 2] 3)).alloc (.cells #[Value.int .i64 0, .int .i64 1] 3)) 3 #[Value.int .i64 0, .int .i64 0, .int .i64 0, .int .i64 0]
  have e1 : (w.alloc (.cells #[Value.int .i64 0, .int .i64 2] 3)).heap.size = w.heap.size + 1 := by simp
  have e2 : ((w.alloc (.cells #[Value.int .i64 0, .int .i64 2] 3)).alloc (.cells #[Value.int .i64 0, .int .i64 1] 3)).heap.size = w.heap.size + 1 + 1 := by simp
  rw [e1] at k2
  rw [e2] at k3
  have hC : CfR (w.heap.size ≤ ·) (((w.alloc (.cells #[Value.int .i64 0, .int .i64 2] 3)).alloc (.cells #[Value.int .i64 0, .int .i64 1] 3)).alloc (.cells #[Value.int .i64 0, .int .i64 0, .int .i64 0, .int .i64 0] 3)) (liveA w.heap.size) liveC := ⟨rdz_lit (l := [0, 2]) k1 (Nat.le_refl _), rdz_lit (l := [0, 1]) k2 (Nat.le_succ _), rdz_lit (l := [0, 0, 0, 0]) k3 (by omega), ⟨rfl, by simp [liveC]⟩, by unfold maxLen; simp [liveA]⟩
  have HN : Hid (Calls Tryz.prog 22 #[.agg #[.int .i64 4, .slice (some ⟨w.heap.size, 0, none⟩) 2 2, .slice (some ⟨w.heap.size + 1, 0, none⟩) 2 2, .int .i64 120, .slice (some ⟨w.heap.size + 1 + 1, 0, none⟩) 4 4, .slice none 0 0, .int .i64 3, .int .i64 2, .int .i64 3]] (((w.alloc (.cells #[Value.int .i64 0, .int .i64 2] 3)).alloc (.cells #[Value.int .i64 0, .int .i64 1] 3)).alloc (.cells #[Value.int .i64 0, .int .i64 0, .int .i64 0, .int .i64 0] 3)) (NewYes liveC (((w.alloc (.cells #[Value.int .i64 0, .int .i64 2] 3)).alloc (.cells #[Value.int .i64 0, .int .i64 1] 3)).alloc (.cells #[Value.int .i64 0, .int .i64 0, .int .i64 0, .int .i64 0] 3)))) := Lib.hid (newYes_any _ (liveA w.heap.size) liveC _ hC (hsg.below hB) liveC_ok)
  have HB := Lib.hid hB
  clear hB k1 k2 k3 e1 e2 hC hsg
  go_enter Tryz.func5, Tryz.ntmps5
  go_wp2_with fail
  (with_reducible refine HN.out.mono ?_)
  rintro e w1 ⟨p, A, q, rfl, hn, hb⟩
  have HB1 := Lib.hid (HB.out.trans (hb.mono HB.out.size))
  have HX := Lib.hid hn
  clear hn hb
  have H0 : Hid (∀ w', Below w1.heap.size w1 w' → Calls Tryz.prog 6 #[.pointer (some ⟨p, 0, none⟩)] w' fun e w'' => e = .returned (.int .i64 24) ∧ Below w1.heap.size w1 w'') := Lib.hid fun w' hb => by
    refine (start34_any _ p A q liveC w' (NetTab.at_ HX.out hb) liveC_ok).mono ?_
    rintro e w2 ⟨rfl, hb2⟩
    exact ⟨by rw [show startV liveC = 24 from by decide], hb.trans (hb2.mono hb.size)⟩
  have H1 : Hid (∀ w', Below w1.heap.size w1 w' → Calls Tryz.prog 8 #[.pointer (some ⟨p, 0, none⟩)] w' fun e w'' => e = .returned (.int .i64 504) ∧ Below w1.heap.size w1 w'') := Lib.hid fun w' hb => by
    refine (heard34_any _ p A q liveC w' (NetTab.at_ HX.out hb) liveC_ok).mono ?_
    rintro e w2 ⟨rfl, hb2⟩
    exact ⟨by rw [show heardV liveC = 504 from by decide], hb.trans (hb2.mono hb.size)⟩
  have H2 : Hid (∀ w', Below w1.heap.size w1 w' → Calls Tryz.prog 10 #[.pointer (some ⟨p, 0, none⟩)] w' fun e w'' => e = .returned (.int .i64 744) ∧ Below w1.heap.size w1 w'') := Lib.hid fun w' hb => by
    refine (agreed34_any _ p A q liveC w' (NetTab.at_ HX.out hb) liveC_ok).mono ?_
    rintro e w2 ⟨rfl, hb2⟩
    exact ⟨by rw [show agreedV liveC = 744 from by decide], hb.trans (hb2.mono hb.size)⟩
  have H3 : Hid (∀ w', Below w1.heap.size w1 w' → Calls Tryz.prog 12 #[.pointer (some ⟨p, 0, none⟩)] w' fun e w'' => e = .returned (.int .i64 960) ∧ Below w1.heap.size w1 w'') := Lib.hid fun w' hb => by
    refine (out34_any _ p A q liveC w' (NetTab.at_ HX.out hb) liveC_ok).mono ?_
    rintro e w2 ⟨rfl, hb2⟩
    exact ⟨by rw [show outV liveC = 960 from by decide], hb.trans (hb2.mono hb.size)⟩
  have H4 : Hid (∀ w', Below w1.heap.size w1 w' → Calls Tryz.prog 14 #[.pointer (some ⟨p, 0, none⟩)] w' fun e w'' => e = .returned (.int .i64 720) ∧ Below w1.heap.size w1 w'') := Lib.hid fun w' hb => by
    refine (in34_any _ p A q liveC w' (NetTab.at_ HX.out hb) liveC_ok).mono ?_
    rintro e w2 ⟨rfl, hb2⟩
    exact ⟨by rw [show inV liveC = 720 from by decide], hb.trans (hb2.mono hb.size)⟩
  have H5 : Hid (∀ w', Below w1.heap.size w1 w' → Calls Tryz.prog 16 #[.pointer (some ⟨p, 0, none⟩)] w' fun e w'' => e = .returned (.int .i64 1200) ∧ Below w1.heap.size w1 w'') := Lib.hid fun w' hb => by
    refine (take34_any _ p A q liveC w' (NetTab.at_ HX.out hb) liveC_ok).mono ?_
    rintro e w2 ⟨rfl, hb2⟩
    exact ⟨by rw [show takeV liveC = 1200 from by decide], hb.trans (hb2.mono hb.size)⟩
  have H6 : Hid (∀ w', Below w1.heap.size w1 w' → Calls Tryz.prog 18 #[.pointer (some ⟨p, 0, none⟩)] w' fun e w'' => e = .returned (.int .i64 248) ∧ Below w1.heap.size w1 w'') := Lib.hid fun w' hb => by
    refine (fresh34_any _ p A q liveC w' (NetTab.at_ HX.out hb) liveC_ok).mono ?_
    rintro e w2 ⟨rfl, hb2⟩
    exact ⟨by rw [show freshV liveC = 248 from by decide], hb.trans (hb2.mono hb.size)⟩
  go_wp2_with fail
  (with_reducible refine (H0.out _ (Below.refl _ _)).mono ?_)
  rintro e w2 ⟨rfl, hy⟩
  have HY0 := Lib.hid hy
  clear hy
  go_wp2_with fail
  (with_reducible refine (H1.out _ HY0.out).mono ?_)
  rintro e w3 ⟨rfl, hy⟩
  have HY1 := Lib.hid hy
  clear hy
  go_wp2_with fail
  (with_reducible refine (H2.out _ HY1.out).mono ?_)
  rintro e w4 ⟨rfl, hy⟩
  have HY2 := Lib.hid hy
  clear hy
  go_wp2_with fail
  (with_reducible refine (H3.out _ HY2.out).mono ?_)
  rintro e w5 ⟨rfl, hy⟩
  have HY3 := Lib.hid hy
  clear hy
  go_wp2_with fail
  (with_reducible refine (H4.out _ HY3.out).mono ?_)
  rintro e w6 ⟨rfl, hy⟩
  have HY4 := Lib.hid hy
  clear hy
  go_wp2_with fail
  (with_reducible refine (H5.out _ HY4.out).mono ?_)
  rintro e w7 ⟨rfl, hy⟩
  have HY5 := Lib.hid hy
  clear hy
  go_wp2_with fail
  (with_reducible refine (H6.out _ HY5.out).mono ?_)
  rintro e w8 ⟨rfl, hy⟩
  have HY6 := Lib.hid hy
  clear hy
  go_wp2_with fail
  go_ret
  exact ⟨rfl, HB1.out.trans (HY6.out.mono HB1.out.size)⟩
set_option maxRecDepth 100000 in
set_option maxHeartbeats 2000000 in
theorem boundsOf_any (S : Nat → Prop) (A : CfA) (c : Cfg) (w : World) (h : CfR S w A c) (hsg : SgW w) : Calls Tryz.prog 3 #[.agg (cfV A c).toArray] w fun e w' => e = .returned (.bool true) ∧ Below w.heap.size w w' := by
  obtain ⟨cv, hcv⟩ : ∃ cv, cv = cfV A c := ⟨_, rfl⟩
  rw [← hcv]
  have HCV := Lib.hid hcv
  have HN : Hid (∀ w', Below w.heap.size w w' → Calls Tryz.prog 4 #[.agg cv.toArray] w' (NetR c w')) := Lib.hid fun w' hb => by rw [hcv]; exact net06_any S A c w' (h.below hb) (hsg.below hb)
  have HL : Hid (∀ w', Below w.heap.size w w' → Calls Tryz.prog 5 #[] w' fun e w'' => e = .returned (.bool true) ∧ Below w'.heap.size w' w'') := Lib.hid fun w' hb => lives34_any w' (hsg.below hb)
  have HR0 : Hid (RefOk c → ∀ w', Below w.heap.size w w' → Calls Tryz.prog 7 #[.agg cv.toArray] w' (RetI (startV c) w')) := Lib.hid fun hok w' hb => by
    rw [hcv]
    exact rstart_any S A c w' (h.below hb) hok
  have HR1 : Hid (RefOk c → ∀ w', Below w.heap.size w w' → Calls Tryz.prog 9 #[.agg cv.toArray] w' (RetI (heardV c) w')) := Lib.hid fun hok w' hb => by
    rw [hcv]
    exact rheard_any S A c w' (h.below hb) hok
  have HR2 : Hid (RefOk c → ∀ w', Below w.heap.size w w' → Calls Tryz.prog 11 #[.agg cv.toArray] w' (RetI (agreedV c) w')) := Lib.hid fun hok w' hb => by
    rw [hcv]
    exact ragreed_any S A c w' (h.below hb) hok
  have HR3 : Hid (RefOk c → ∀ w', Below w.heap.size w w' → Calls Tryz.prog 13 #[.agg cv.toArray] w' (RetI (outV c) w')) := Lib.hid fun hok w' hb => by
    rw [hcv]
    exact rout_any S A c w' (h.below hb) hok
  have HR4 : Hid (RefOk c → ∀ w', Below w.heap.size w w' → Calls Tryz.prog 15 #[.agg cv.toArray] w' (RetI (inV c) w')) := Lib.hid fun hok w' hb => by
    rw [hcv]
    exact rin_any S A c w' (h.below hb) hok
  have HR5 : Hid (RefOk c → ∀ w', Below w.heap.size w w' → Calls Tryz.prog 17 #[.agg cv.toArray] w' (RetI (takeV c) w')) := Lib.hid fun hok w' hb => by
    rw [hcv]
    exact rtake_any S A c w' (h.below hb) hok
  have HR6 : Hid (RefOk c → ∀ w', Below w.heap.size w w' → Calls Tryz.prog 19 #[.agg cv.toArray] w' (RetI (freshV c) w')) := Lib.hid fun hok w' hb => by
    rw [hcv]
    exact rfresh_any A c w' hok
  clear hcv h hsg
  go_enter Tryz.func3, Tryz.ntmps3
  go_upto_region 1 with fail
  have HB0 : Hid (Below w.heap.size w (w.alloc (.cells cv.toArray 25)) ∧ Blk (w.alloc (.cells cv.toArray 25)) w.heap.size 25 cv.toArray) := Lib.hid ⟨(Below.refl _ _).alloc (Nat.le_refl _) _, Blk.new _ _ _⟩
  generalize (w.alloc (.cells cv.toArray 25)) = w0 at HB0 ⊢
  have hw0 : w.heap.size < w0.heap.size := HB0.out.2.lt
  obtain ⟨d1, d2, -⟩ := HB0.out.2.whole (n := 9) (by rw [HCV.out]; rfl)
  go_wp2_with fail
  (with_reducible refine (HN.out _ HB0.out.1).mono ?_)
  rintro e w1 ⟨hb, (rfl | ⟨hok, p, A1, q, rfl, hn⟩)⟩
  · have HB1 := Lib.hid (HB0.out.1.trans (hb.mono HB0.out.1.size))
    clear hb d1 d2
    go_wp2_with fail
    (with_reducible refine (HL.out _ HB1.out).mono ?_)
    rintro e w2 ⟨rfl, hb2⟩
    have HB2 := Lib.hid (HB1.out.trans (hb2.mono HB1.out.size))
    clear hb2
    go_wp2_with fail
    go_ret
    exact ⟨rfl, HB2.out⟩
  · have HB1 := Lib.hid (HB0.out.1.trans (hb.mono HB0.out.1.size))
    have HK1 := Lib.hid (HB0.out.2.below hb hw0)
    have hw1 : w.heap.size < w1.heap.size := HK1.out.lt
    have HX := Lib.hid hn
    have HOK := Lib.hid hok
    obtain ⟨z0, hz0⟩ : ∃ z, Hid (z = startV c) := ⟨_, Lib.hid rfl⟩
    have HP0 : Hid (∀ w', Below w1.heap.size w1 w' → Calls Tryz.prog 6 #[.pointer (some ⟨p, 0, none⟩)] w' fun e w'' => e = .returned (.int .i64 z0) ∧ Below w1.heap.size w1 w'') := Lib.hid fun w' hb => by
      refine (start34_any _ p A1 q c w' (NetTab.at_ hn hb) hok).mono ?_
      rintro e w2 ⟨rfl, hb2⟩
      exact ⟨by rw [hz0.out], hb.trans (hb2.mono hb.size)⟩
    have HQ0 : Hid (∀ w', Below w1.heap.size w1 w' → Calls Tryz.prog 7 #[.agg cv.toArray] w' fun e w'' => e = .returned (.int .i64 z0) ∧ Below w1.heap.size w1 w'') := Lib.hid fun w' hb => by
      refine (HR0.out hok w' (HB1.out.trans (hb.mono HB1.out.size))).mono ?_
      rintro e w2 ⟨rfl, hb2⟩
      exact ⟨by rw [hz0.out], hb.trans (hb2.mono hb.size)⟩
    obtain ⟨z1, hz1⟩ : ∃ z, Hid (z = heardV c) := ⟨_, Lib.hid rfl⟩
    have HP1 : Hid (∀ w', Below w1.heap.size w1 w' → Calls Tryz.prog 8 #[.pointer (some ⟨p, 0, none⟩)] w' fun e w'' => e = .returned (.int .i64 z1) ∧ Below w1.heap.size w1 w'') := Lib.hid fun w' hb => by
      refine (heard34_any _ p A1 q c w' (NetTab.at_ hn hb) hok).mono ?_
      rintro e w2 ⟨rfl, hb2⟩
      exact ⟨by rw [hz1.out], hb.trans (hb2.mono hb.size)⟩
    have HQ1 : Hid (∀ w', Below w1.heap.size w1 w' → Calls Tryz.prog 9 #[.agg cv.toArray] w' fun e w'' => e = .returned (.int .i64 z1) ∧ Below w1.heap.size w1 w'') := Lib.hid fun w' hb => by
      refine (HR1.out hok w' (HB1.out.trans (hb.mono HB1.out.size))).mono ?_
      rintro e w2 ⟨rfl, hb2⟩
      exact ⟨by rw [hz1.out], hb.trans (hb2.mono hb.size)⟩
    obtain ⟨z2, hz2⟩ : ∃ z, Hid (z = agreedV c) := ⟨_, Lib.hid rfl⟩
    have HP2 : Hid (∀ w', Below w1.heap.size w1 w' → Calls Tryz.prog 10 #[.pointer (some ⟨p, 0, none⟩)] w' fun e w'' => e = .returned (.int .i64 z2) ∧ Below w1.heap.size w1 w'') := Lib.hid fun w' hb => by
      refine (agreed34_any _ p A1 q c w' (NetTab.at_ hn hb) hok).mono ?_
      rintro e w2 ⟨rfl, hb2⟩
      exact ⟨by rw [hz2.out], hb.trans (hb2.mono hb.size)⟩
    have HQ2 : Hid (∀ w', Below w1.heap.size w1 w' → Calls Tryz.prog 11 #[.agg cv.toArray] w' fun e w'' => e = .returned (.int .i64 z2) ∧ Below w1.heap.size w1 w'') := Lib.hid fun w' hb => by
      refine (HR2.out hok w' (HB1.out.trans (hb.mono HB1.out.size))).mono ?_
      rintro e w2 ⟨rfl, hb2⟩
      exact ⟨by rw [hz2.out], hb.trans (hb2.mono hb.size)⟩
    obtain ⟨z3, hz3⟩ : ∃ z, Hid (z = outV c) := ⟨_, Lib.hid rfl⟩
    have HP3 : Hid (∀ w', Below w1.heap.size w1 w' → Calls Tryz.prog 12 #[.pointer (some ⟨p, 0, none⟩)] w' fun e w'' => e = .returned (.int .i64 z3) ∧ Below w1.heap.size w1 w'') := Lib.hid fun w' hb => by
      refine (out34_any _ p A1 q c w' (NetTab.at_ hn hb) hok).mono ?_
      rintro e w2 ⟨rfl, hb2⟩
      exact ⟨by rw [hz3.out], hb.trans (hb2.mono hb.size)⟩
    have HQ3 : Hid (∀ w', Below w1.heap.size w1 w' → Calls Tryz.prog 13 #[.agg cv.toArray] w' fun e w'' => e = .returned (.int .i64 z3) ∧ Below w1.heap.size w1 w'') := Lib.hid fun w' hb => by
      refine (HR3.out hok w' (HB1.out.trans (hb.mono HB1.out.size))).mono ?_
      rintro e w2 ⟨rfl, hb2⟩
      exact ⟨by rw [hz3.out], hb.trans (hb2.mono hb.size)⟩
    obtain ⟨z4, hz4⟩ : ∃ z, Hid (z = inV c) := ⟨_, Lib.hid rfl⟩
    have HP4 : Hid (∀ w', Below w1.heap.size w1 w' → Calls Tryz.prog 14 #[.pointer (some ⟨p, 0, none⟩)] w' fun e w'' => e = .returned (.int .i64 z4) ∧ Below w1.heap.size w1 w'') := Lib.hid fun w' hb => by
      refine (in34_any _ p A1 q c w' (NetTab.at_ hn hb) hok).mono ?_
      rintro e w2 ⟨rfl, hb2⟩
      exact ⟨by rw [hz4.out], hb.trans (hb2.mono hb.size)⟩
    have HQ4 : Hid (∀ w', Below w1.heap.size w1 w' → Calls Tryz.prog 15 #[.agg cv.toArray] w' fun e w'' => e = .returned (.int .i64 z4) ∧ Below w1.heap.size w1 w'') := Lib.hid fun w' hb => by
      refine (HR4.out hok w' (HB1.out.trans (hb.mono HB1.out.size))).mono ?_
      rintro e w2 ⟨rfl, hb2⟩
      exact ⟨by rw [hz4.out], hb.trans (hb2.mono hb.size)⟩
    obtain ⟨z5, hz5⟩ : ∃ z, Hid (z = takeV c) := ⟨_, Lib.hid rfl⟩
    have HP5 : Hid (∀ w', Below w1.heap.size w1 w' → Calls Tryz.prog 16 #[.pointer (some ⟨p, 0, none⟩)] w' fun e w'' => e = .returned (.int .i64 z5) ∧ Below w1.heap.size w1 w'') := Lib.hid fun w' hb => by
      refine (take34_any _ p A1 q c w' (NetTab.at_ hn hb) hok).mono ?_
      rintro e w2 ⟨rfl, hb2⟩
      exact ⟨by rw [hz5.out], hb.trans (hb2.mono hb.size)⟩
    have HQ5 : Hid (∀ w', Below w1.heap.size w1 w' → Calls Tryz.prog 17 #[.agg cv.toArray] w' fun e w'' => e = .returned (.int .i64 z5) ∧ Below w1.heap.size w1 w'') := Lib.hid fun w' hb => by
      refine (HR5.out hok w' (HB1.out.trans (hb.mono HB1.out.size))).mono ?_
      rintro e w2 ⟨rfl, hb2⟩
      exact ⟨by rw [hz5.out], hb.trans (hb2.mono hb.size)⟩
    obtain ⟨z6, hz6⟩ : ∃ z, Hid (z = freshV c) := ⟨_, Lib.hid rfl⟩
    have HP6 : Hid (∀ w', Below w1.heap.size w1 w' → Calls Tryz.prog 18 #[.pointer (some ⟨p, 0, none⟩)] w' fun e w'' => e = .returned (.int .i64 z6) ∧ Below w1.heap.size w1 w'') := Lib.hid fun w' hb => by
      refine (fresh34_any _ p A1 q c w' (NetTab.at_ hn hb) hok).mono ?_
      rintro e w2 ⟨rfl, hb2⟩
      exact ⟨by rw [hz6.out], hb.trans (hb2.mono hb.size)⟩
    have HQ6 : Hid (∀ w', Below w1.heap.size w1 w' → Calls Tryz.prog 19 #[.agg cv.toArray] w' fun e w'' => e = .returned (.int .i64 z6) ∧ Below w1.heap.size w1 w'') := Lib.hid fun w' hb => by
      refine (HR6.out hok w' (HB1.out.trans (hb.mono HB1.out.size))).mono ?_
      rintro e w2 ⟨rfl, hb2⟩
      exact ⟨by rw [hz6.out], hb.trans (hb2.mono hb.size)⟩
    have FA : Hid (∀ w', Below w1.heap.size w1 w' → hasRow w' ⟨w.heap.size, 0, none⟩ 9 = true ∧ rowOf w' ⟨w.heap.size, 0, none⟩ 9 = cv) := Lib.hid fun w' hb => by
      obtain ⟨d1, d2, -⟩ := (HK1.out.below hb hw1).whole (n := 9) (by rw [HCV.out]; rfl)
      exact ⟨d1, d2⟩
    have HLL : Hid (∀ w', Below w1.heap.size w1 w' → Calls Tryz.prog 5 #[] w' fun e w'' => e = .returned (.bool true) ∧ Below w1.heap.size w1 w'') := Lib.hid fun w' hb => by
      refine (HL.out w' (HB1.out.trans (hb.mono HB1.out.size))).mono ?_
      rintro e w2 ⟨rfl, hb2⟩
      exact ⟨rfl, hb.trans (hb2.mono hb.size)⟩
    obtain ⟨f1, f2⟩ := FA.out w1 (Below.refl _ _)
    clear hb d1 d2 hn hok HL HN HR0 HR1 HR2 HR3 HR4 HR5 HR6 HX
    go_upto_region 4 with fail
    go_region_held3 (fun w' => hasRow w' ⟨w.heap.size, 0, none⟩ 9 = true ∧ rowOf w' ⟨w.heap.size, 0, none⟩ 9 = cv)
      (with_reducible (first | assumption | exact FA.out _ (Below.refl _ _).drew | exact FA.out _ HY0.out | exact FA.out _ HY1.out | exact FA.out _ HY2.out | exact FA.out _ HY3.out | exact FA.out _ HY4.out | exact FA.out _ HY5.out | exact FA.out _ HY6.out | exact FA.out _ HY7.out | exact FA.out _ HY8.out | exact FA.out _ HY9.out | exact FA.out _ HY10.out | exact FA.out _ HY11.out | exact FA.out _ HY12.out | exact FA.out _ HY13.out | exact FA.out _ HY14.out))
      ((first
        | (go_at_call 6; (with_reducible refine (HP0.out (w1.drew) (Below.refl _ _).drew).mono ?_); rintro e x0 ⟨rfl, hy⟩; have HY0 := Lib.hid hy; clear hy)
        | (go_at_call 7; (with_reducible refine (HQ0.out x0 HY0.out).mono ?_); rintro e x1 ⟨rfl, hy⟩; have HY1 := Lib.hid hy; clear hy)
        | (go_at_call 8; (with_reducible refine (HP1.out x1 HY1.out).mono ?_); rintro e x2 ⟨rfl, hy⟩; have HY2 := Lib.hid hy; clear hy)
        | (go_at_call 9; (with_reducible refine (HQ1.out x2 HY2.out).mono ?_); rintro e x3 ⟨rfl, hy⟩; have HY3 := Lib.hid hy; clear hy)
        | (go_at_call 10; (with_reducible refine (HP2.out x3 HY3.out).mono ?_); rintro e x4 ⟨rfl, hy⟩; have HY4 := Lib.hid hy; clear hy)
        | (go_at_call 11; (with_reducible refine (HQ2.out x4 HY4.out).mono ?_); rintro e x5 ⟨rfl, hy⟩; have HY5 := Lib.hid hy; clear hy)
        | (go_at_call 12; (with_reducible refine (HP3.out x5 HY5.out).mono ?_); rintro e x6 ⟨rfl, hy⟩; have HY6 := Lib.hid hy; clear hy)
        | (go_at_call 13; (with_reducible refine (HQ3.out x6 HY6.out).mono ?_); rintro e x7 ⟨rfl, hy⟩; have HY7 := Lib.hid hy; clear hy)
        | (go_at_call 14; (with_reducible refine (HP4.out x7 HY7.out).mono ?_); rintro e x8 ⟨rfl, hy⟩; have HY8 := Lib.hid hy; clear hy)
        | (go_at_call 15; (with_reducible refine (HQ4.out x8 HY8.out).mono ?_); rintro e x9 ⟨rfl, hy⟩; have HY9 := Lib.hid hy; clear hy)
        | (go_at_call 16; (with_reducible refine (HP5.out x9 HY9.out).mono ?_); rintro e x10 ⟨rfl, hy⟩; have HY10 := Lib.hid hy; clear hy)
        | (go_at_call 17; (with_reducible refine (HQ5.out x10 HY10.out).mono ?_); rintro e x11 ⟨rfl, hy⟩; have HY11 := Lib.hid hy; clear hy)
        | (go_at_call 18; (with_reducible refine (HP6.out x11 HY11.out).mono ?_); rintro e x12 ⟨rfl, hy⟩; have HY12 := Lib.hid hy; clear hy)
        | (go_at_call 19; (with_reducible refine (HQ6.out x12 HY12.out).mono ?_); rintro e x13 ⟨rfl, hy⟩; have HY13 := Lib.hid hy; clear hy)
        | (go_at_call 5; (with_reducible refine (HLL.out x13 HY13.out).mono ?_); rintro e x14 ⟨rfl, hy⟩; have HY14 := Lib.hid hy; clear hy)))
    go_wp2_with fail
    go_ret
    exact ⟨rfl, HB1.out.trans (HY14.out.mono HB1.out.size)⟩
end Go.Proofs.YtopakilglnpinaaGreatDoor
