
/-
  Bounds (chapter 34): of a net.
-/
import Derived.Test.YtopakilglnpinaaGreatDoorBn23
namespace Go.Proofs.YtopakilglnpinaaGreatDoor
open Go.RowKit
set_option linter.unusedVariables false
set_option linter.unusedSimpArgs false
set_option maxRecDepth 100000 in
set_option maxHeartbeats 1000000 in
theorem heard34_any (S : Nat → Prop) (p : Nat) (A : CfA) (q : Nat) (c : Cfg) (w : World) (h : NetAt S w p A q c) (hok : RefOk c) : Calls Tryz.prog 8 #[.pointer (some ⟨p, 0, none⟩)] w (RetI (heardV c) w) := by
  have hB : Below w.heap.size w (w.alloc (.cells #[Value.pointer (some ⟨p, 0, none⟩)] 26)) := (Below.refl _ _).alloc (Nat.le_refl _) _
  have hK : Blk (w.alloc (.cells #[Value.pointer (some ⟨p, 0, none⟩)] 26)) w.heap.size 26 #[Value.pointer (some ⟨p, 0, none⟩)] := Blk.new _ _ _
  have HF : Hid (FormP 26 [.pointer (some ⟨w.heap.size, 0, none⟩)] c (heardV c) (w.alloc (.cells #[Value.pointer (some ⟨p, 0, none⟩)] 26))) := Lib.hid fun w' hb => by
    have hn := NetTab.at_ (NetTab.at_ h hB) hb
    have hx := (hK.below hb hK.lt).cell 0
    have hx : w'.cell? ⟨w.heap.size, 0, none⟩ = some (.pointer (some ⟨p, 0, none⟩)) := hx
    have HM := Lib.hid (start34_any S p A q c w' hn hok)
    obtain ⟨m, hm⟩ : ∃ m, Hid (m = startV c) := ⟨_, Lib.hid rfl⟩
    obtain ⟨z, hz⟩ : ∃ z, Hid (z = heardV c) := ⟨_, Lib.hid rfl⟩
    rw [← hz.out]
    rw [← hm.out] at HM
    obtain ⟨r, hr⟩ : ∃ r, Hid (r = roundV c) := ⟨_, Lib.hid rfl⟩
    obtain ⟨lo, hlo⟩ : ∃ lo, Hid (lo = c.lo) := ⟨_, Lib.hid rfl⟩
    rw [← hr.out, ← hlo.out]
    have hb1 : IntKind.i64.wrap (4 * lo) = 4 * lo := IntWalk.i64_in _ (by have := hlo.out; have := hok.lo; have := hok.n; omega)
    have hb2 : IntKind.i64.wrap (m + 4 * lo) = z := by
      have h1 := hm.out; have h2 := hlo.out; have h3 := hz.out; have h4 := hok.heardV
      have h5 : m + 4 * lo = z := by rw [h1, h2, h3, heardV]
      rw [h5, h3]; exact IntWalk.i64_in _ (by omega)
    clear hn h hok
    go_enter Tryz.func26, Tryz.ntmps26
    go_wp2_with fail
    (with_reducible refine HM.out.mono ?_)
    rintro e w2 ⟨rfl, hb2⟩
    have HB2 := Lib.hid hb2
    clear hb2
    go_wp2_with fail
    go_ret
    exact ⟨rfl, HB2.out⟩
  have HO := Lib.hid (of34_any S p A q c _ (NetTab.at_ h hB) hok 26 _ _ (enters_of Tryz.func26 (by kernel_rfl) rfl) HF.out)
  have HB := Lib.hid hB
  clear hB hK HF h hok
  go_enter Tryz.func8, Tryz.ntmps8
  go_wp2_with fail
  (with_reducible refine HO.out.mono ?_)
  rintro e w2 ⟨rfl, hb2⟩
  have HB2 := Lib.hid (HB.out.trans (hb2.mono HB.out.size))
  clear hb2
  go_wp2_with fail
  go_ret
  exact ⟨rfl, HB2.out⟩
set_option maxRecDepth 100000 in
set_option maxHeartbeats 1000000 in
theorem agreed34_any (S : Nat → Prop) (p : Nat) (A : CfA) (q : Nat) (c : Cfg) (w : World) (h : NetAt S w p A q c) (hok : RefOk c) : Calls Tryz.prog 10 #[.pointer (some ⟨p, 0, none⟩)] w (RetI (agreedV c) w) := by
  have hB : Below w.heap.size w (w.alloc (.cells #[Value.pointer (some ⟨p, 0, none⟩)] 26)) := (Below.refl _ _).alloc (Nat.le_refl _) _
  have hK : Blk (w.alloc (.cells #[Value.pointer (some ⟨p, 0, none⟩)] 26)) w.heap.size 26 #[Value.pointer (some ⟨p, 0, none⟩)] := Blk.new _ _ _
  have HF : Hid (FormP 27 [.pointer (some ⟨w.heap.size, 0, none⟩)] c (agreedV c) (w.alloc (.cells #[Value.pointer (some ⟨p, 0, none⟩)] 26))) := Lib.hid fun w' hb => by
    have hn := NetTab.at_ (NetTab.at_ h hB) hb
    have hx := (hK.below hb hK.lt).cell 0
    have hx : w'.cell? ⟨w.heap.size, 0, none⟩ = some (.pointer (some ⟨p, 0, none⟩)) := hx
    have HM := Lib.hid (heard34_any S p A q c w' hn hok)
    obtain ⟨m, hm⟩ : ∃ m, Hid (m = heardV c) := ⟨_, Lib.hid rfl⟩
    obtain ⟨z, hz⟩ : ∃ z, Hid (z = agreedV c) := ⟨_, Lib.hid rfl⟩
    rw [← hz.out]
    rw [← hm.out] at HM
    obtain ⟨r, hr⟩ : ∃ r, Hid (r = roundV c) := ⟨_, Lib.hid rfl⟩
    obtain ⟨lo, hlo⟩ : ∃ lo, Hid (lo = c.lo) := ⟨_, Lib.hid rfl⟩
    rw [← hr.out, ← hlo.out]
    have hb2 : IntKind.i64.wrap (m + r) = z := by
      have h1 := hm.out; have h2 := hr.out; have h3 := hz.out; have h4 := hok.heardV; have h6 := hok.roundV
      have h5 : m + r = z := by rw [h1, h2, h3, agreedV]
      rw [h5, ← h5, h1, h2]; exact IntWalk.i64_in _ (by omega)
    clear hn h hok
    go_enter Tryz.func27, Tryz.ntmps27
    go_wp2_with fail
    (with_reducible refine HM.out.mono ?_)
    rintro e w2 ⟨rfl, hb2⟩
    have HB2 := Lib.hid hb2
    clear hb2
    go_wp2_with fail
    go_ret
    exact ⟨rfl, HB2.out⟩
  have HO := Lib.hid (of34_any S p A q c _ (NetTab.at_ h hB) hok 27 _ _ (enters_of Tryz.func27 (by kernel_rfl) rfl) HF.out)
  have HB := Lib.hid hB
  clear hB hK HF h hok
  go_enter Tryz.func10, Tryz.ntmps10
  go_wp2_with fail
  (with_reducible refine HO.out.mono ?_)
  rintro e w2 ⟨rfl, hb2⟩
  have HB2 := Lib.hid (HB.out.trans (hb2.mono HB.out.size))
  clear hb2
  go_wp2_with fail
  go_ret
  exact ⟨rfl, HB2.out⟩
theorem rounds1_any (mi r lo N : Int) (g : Nat) (w : World) (z : Int) (hc : w.cell? ⟨g, 0, none⟩ = some (.int .i64 mi)) (hz : z = (mi + 1) * r) (hm : 1 ≤ mi ∧ mi ≤ 100) (hz2 : 0 ≤ z ∧ z ≤ 10000000) :
    Calls Tryz.prog 41 #[.int .i64 r, .int .i64 lo, .int .i64 N, .pointer (some ⟨g, 0, none⟩)] w (RetI z w) := by
  have h1 : IntKind.i64.wrap (mi + 1) = mi + 1 := IntWalk.i64_in _ (by omega)
  have h2 : IntKind.i64.wrap ((mi + 1) * r) = z := by rw [← hz]; exact IntWalk.i64_in _ (by omega)
  clear hz
  go_enter Tryz.func41, Tryz.ntmps41
  go_wp2
  go_ret
  exact ⟨rfl, Below.refl _ _⟩
theorem rounds_any (mi : Int) (w : World) : Calls Tryz.prog 30 #[.int .i64 mi] w fun e w' => e = .returned (.func (.func 41) #[] #[.pointer (some ⟨w.heap.size, 0, none⟩)]) ∧ Blk w' w.heap.size 3 #[.int .i64 mi] ∧ Below w.heap.size w w' := by
  go_enter Tryz.func30, Tryz.ntmps30
  go_wp2
  go_ret
  exact ⟨rfl, Blk.new _ _ _, (Below.refl _ _).alloc (Nat.le_refl _) _⟩
set_option maxRecDepth 100000 in
set_option maxHeartbeats 1000000 in
theorem out34_any (S : Nat → Prop) (p : Nat) (A : CfA) (q : Nat) (c : Cfg) (w : World) (h : NetAt S w p A q c) (hok : RefOk c) : Calls Tryz.prog 12 #[.pointer (some ⟨p, 0, none⟩)] w (RetI (outV c) w) := by
  have HR := Lib.hid (round4_any S p A q c w h hok)
  obtain ⟨r, hr⟩ : ∃ r, Hid (r = roundV c) := ⟨_, Lib.hid rfl⟩
  have hr0 : ¬ r = 0 := by have := hr.out; have := hok.roundV; omega
  rw [← hr.out] at HR
  obtain ⟨mi, hmi⟩ : ∃ mi, Hid (mi = c.mi) := ⟨_, Lib.hid rfl⟩
  have HD := Lib.hid fun w => rounds_any mi w
  have HO : Hid (∀ g w', Below w.heap.size w w' → w'.cell? ⟨g, 0, none⟩ = some (.int .i64 mi) → g < w'.heap.size → Calls Tryz.prog 23 #[.pointer (some ⟨p, 0, none⟩), .func (.func 41) #[] #[.pointer (some ⟨g, 0, none⟩)]] w' (RetI (outV c) w')) := Lib.hid fun g w' hb hc hg => by
    refine of34_any S p A q c w' (NetTab.at_ h hb) hok 41 [.pointer (some ⟨g, 0, none⟩)] _ (enters_of Tryz.func41 (by kernel_rfl) rfl) fun w2 hb2 => ?_
    have hc2 := (hb2.cell (p := ⟨g, 0, none⟩) hg).trans hc
    exact rounds1_any mi (roundV c) c.lo c.N g w2 _ hc2 (by rw [hmi.out]; rfl) (by have := hmi.out; have := hok.mi; omega) (by have := hok.outV; omega)
  obtain ⟨c0, c1, c2, c3, c4, c5, c6, c7, c8, c9, hpl⟩ := h.cells
  rw [← hmi.out] at c6
  have HC := Lib.hid (And.intro c6 hpl)
  clear c0 c1 c2 c3 c4 c5 c6 c7 c8 c9 hpl h hok
  go_enter Tryz.func12, Tryz.ntmps12
  go_wp2_with fail
  (with_reducible refine HR.out.mono ?_)
  rintro e w1 ⟨rfl, hb1⟩
  have HB1 := Lib.hid hb1
  have hc1 := (hb1.cell (p := ⟨p, 6, none⟩) HC.out.2).trans HC.out.1
  clear hb1
  go_wp2_with fail
  (with_reducible refine (HD.out _).mono ?_)
  rintro e w2 ⟨rfl, hk2, hb2⟩
  have HB2 := Lib.hid (HB1.out.trans (hb2.mono HB1.out.size))
  have HO2 := Lib.hid (HO.out w1.heap.size w2 HB2.out (hk2.cell 0) hk2.lt)
  clear hk2 hb2
  go_wp2_with fail
  (with_reducible refine HO2.out.mono ?_)
  rintro e w3 ⟨rfl, hb3⟩
  have HB3 := Lib.hid (HB2.out.trans (hb3.mono HB2.out.size))
  clear hb3
  go_wp2_with fail
  go_ret
  exact ⟨rfl, HB3.out⟩
set_option maxRecDepth 100000 in
set_option maxHeartbeats 1000000 in
theorem in34_any (S : Nat → Prop) (p : Nat) (A : CfA) (q : Nat) (c : Cfg) (w : World) (h : NetAt S w p A q c) (hok : RefOk c) : Calls Tryz.prog 14 #[.pointer (some ⟨p, 0, none⟩)] w (RetI (inV c) w) := by
  have HR := Lib.hid (round4_any S p A q c w h hok)
  obtain ⟨r, hr⟩ : ∃ r, Hid (r = roundV c) := ⟨_, Lib.hid rfl⟩
  have hr0 : ¬ r = 0 := by have := hr.out; have := hok.roundV; omega
  rw [← hr.out] at HR
  obtain ⟨mi, hmi⟩ : ∃ mi, Hid (mi = c.go) := ⟨_, Lib.hid rfl⟩
  have HD := Lib.hid fun w => rounds_any mi w
  have HO : Hid (∀ g w', Below w.heap.size w w' → w'.cell? ⟨g, 0, none⟩ = some (.int .i64 mi) → g < w'.heap.size → Calls Tryz.prog 23 #[.pointer (some ⟨p, 0, none⟩), .func (.func 41) #[] #[.pointer (some ⟨g, 0, none⟩)]] w' (RetI (inV c) w')) := Lib.hid fun g w' hb hc hg => by
    refine of34_any S p A q c w' (NetTab.at_ h hb) hok 41 [.pointer (some ⟨g, 0, none⟩)] _ (enters_of Tryz.func41 (by kernel_rfl) rfl) fun w2 hb2 => ?_
    have hc2 := (hb2.cell (p := ⟨g, 0, none⟩) hg).trans hc
    exact rounds1_any mi (roundV c) c.lo c.N g w2 _ hc2 (by rw [hmi.out]; rfl) (by have := hmi.out; have := hok.go; omega) (by have := hok.inV; omega)
  obtain ⟨c0, c1, c2, c3, c4, c5, c6, c7, c8, c9, hpl⟩ := h.cells
  rw [← hmi.out] at c7
  have HC := Lib.hid (And.intro c7 hpl)
  clear c0 c1 c2 c3 c4 c5 c6 c7 c8 c9 hpl h hok
  go_enter Tryz.func14, Tryz.ntmps14
  go_wp2_with fail
  (with_reducible refine HR.out.mono ?_)
  rintro e w1 ⟨rfl, hb1⟩
  have HB1 := Lib.hid hb1
  have hc1 := (hb1.cell (p := ⟨p, 7, none⟩) HC.out.2).trans HC.out.1
  clear hb1
  go_wp2_with fail
  (with_reducible refine (HD.out _).mono ?_)
  rintro e w2 ⟨rfl, hk2, hb2⟩
  have HB2 := Lib.hid (HB1.out.trans (hb2.mono HB1.out.size))
  have HO2 := Lib.hid (HO.out w1.heap.size w2 HB2.out (hk2.cell 0) hk2.lt)
  clear hk2 hb2
  go_wp2_with fail
  (with_reducible refine HO2.out.mono ?_)
  rintro e w3 ⟨rfl, hb3⟩
  have HB3 := Lib.hid (HB2.out.trans (hb3.mono HB2.out.size))
  clear hb3
  go_wp2_with fail
  go_ret
  exact ⟨rfl, HB3.out⟩
set_option maxRecDepth 100000 in
set_option maxHeartbeats 1000000 in
theorem take34_any (S : Nat → Prop) (p : Nat) (A : CfA) (q : Nat) (c : Cfg) (w : World) (h : NetAt S w p A q c) (hok : RefOk c) : Calls Tryz.prog 16 #[.pointer (some ⟨p, 0, none⟩)] w (RetI (takeV c) w) := by
  have hB : Below w.heap.size w (w.alloc (.cells #[Value.pointer (some ⟨p, 0, none⟩)] 26)) := (Below.refl _ _).alloc (Nat.le_refl _) _
  have hK : Blk (w.alloc (.cells #[Value.pointer (some ⟨p, 0, none⟩)] 26)) w.heap.size 26 #[Value.pointer (some ⟨p, 0, none⟩)] := Blk.new _ _ _
  have HF : Hid (FormP 31 [.pointer (some ⟨w.heap.size, 0, none⟩)] c (takeV c) (w.alloc (.cells #[Value.pointer (some ⟨p, 0, none⟩)] 26))) := Lib.hid fun w' hb => by
    have hn := NetTab.at_ (NetTab.at_ h hB) hb
    have hx := (hK.below hb hK.lt).cell 0
    have hx : w'.cell? ⟨w.heap.size, 0, none⟩ = some (.pointer (some ⟨p, 0, none⟩)) := hx
    have HM := Lib.hid (out34_any S p A q c w' hn hok)
    obtain ⟨m, hm⟩ : ∃ m, Hid (m = outV c) := ⟨_, Lib.hid rfl⟩
    obtain ⟨z, hz⟩ : ∃ z, Hid (z = takeV c) := ⟨_, Lib.hid rfl⟩
    rw [← hz.out]
    rw [← hm.out] at HM
    obtain ⟨r, hr⟩ : ∃ r, Hid (r = roundV c) := ⟨_, Lib.hid rfl⟩
    obtain ⟨lo, hlo⟩ : ∃ lo, Hid (lo = c.lo) := ⟨_, Lib.hid rfl⟩
    rw [← hr.out, ← hlo.out]
    have hb2 : IntKind.i64.wrap (m + r) = z := by
      have h1 := hm.out; have h2 := hr.out; have h3 := hz.out; have h4 := hok.outV; have h6 := hok.roundV
      have h5 : m + r = z := by rw [h1, h2, h3, takeV]
      rw [h5, ← h5, h1, h2]; exact IntWalk.i64_in _ (by omega)
    clear hn h hok
    go_enter Tryz.func31, Tryz.ntmps31
    go_wp2_with fail
    (with_reducible refine HM.out.mono ?_)
    rintro e w2 ⟨rfl, hb2⟩
    have HB2 := Lib.hid hb2
    clear hb2
    go_wp2_with fail
    go_ret
    exact ⟨rfl, HB2.out⟩
  have HO := Lib.hid (of34_any S p A q c _ (NetTab.at_ h hB) hok 31 _ _ (enters_of Tryz.func31 (by kernel_rfl) rfl) HF.out)
  have HB := Lib.hid hB
  clear hB hK HF h hok
  go_enter Tryz.func16, Tryz.ntmps16
  go_wp2_with fail
  (with_reducible refine HO.out.mono ?_)
  rintro e w2 ⟨rfl, hb2⟩
  have HB2 := Lib.hid (HB.out.trans (hb2.mono HB.out.size))
  clear hb2
  go_wp2_with fail
  go_ret
  exact ⟨rfl, HB2.out⟩
set_option maxRecDepth 100000 in
set_option maxHeartbeats 1000000 in
theorem fresh34_any (S : Nat → Prop) (p : Nat) (A : CfA) (q : Nat) (c : Cfg) (w : World) (h : NetAt S w p A q c) (hok : RefOk c) : Calls Tryz.prog 18 #[.pointer (some ⟨p, 0, none⟩)] w (RetI (freshV c) w) := by
  have HF : Hid (FormP 32 [] c (freshV c) w) := Lib.hid fun w' hb => by
    obtain ⟨z, hz⟩ : ∃ z, Hid (z = freshV c) := ⟨_, Lib.hid rfl⟩
    rw [← hz.out]
    obtain ⟨r, hr⟩ : ∃ r, Hid (r = roundV c) := ⟨_, Lib.hid rfl⟩
    obtain ⟨lo, hlo⟩ : ∃ lo, Hid (lo = c.lo) := ⟨_, Lib.hid rfl⟩
    obtain ⟨N, hN⟩ : ∃ N, Hid (N = c.N) := ⟨_, Lib.hid rfl⟩
    rw [← hr.out, ← hlo.out, ← hN.out]
    have hb1 : IntKind.i64.wrap (lo + N) = lo + N := IntWalk.i64_in _ (by have := hlo.out; have := hN.out; have := hok.lo; have := hok.n; omega)
    have hb2 : IntKind.i64.wrap (2 * (lo + N)) = z := by
      rw [hz.out, freshV, ← hlo.out, ← hN.out]; exact IntWalk.i64_in _ (by have := hlo.out; have := hN.out; have := hok.lo; have := hok.n; omega)
    clear h hok
    go_enter Tryz.func32, Tryz.ntmps32
    go_wp2_with fail
    go_ret
    exact ⟨rfl, Below.refl _ _⟩
  have HO := Lib.hid (of34_any S p A q c _ h hok 32 _ _ (enters_of Tryz.func32 (by kernel_rfl) rfl) HF.out)
  clear HF h hok
  go_enter Tryz.func18, Tryz.ntmps18
  go_wp2_with fail
  (with_reducible refine HO.out.mono ?_)
  rintro e w2 ⟨rfl, hb2⟩
  have HB2 := Lib.hid hb2
  clear hb2
  go_wp2_with fail
  go_ret
  exact ⟨rfl, HB2.out⟩
end Go.Proofs.YtopakilglnpinaaGreatDoor
