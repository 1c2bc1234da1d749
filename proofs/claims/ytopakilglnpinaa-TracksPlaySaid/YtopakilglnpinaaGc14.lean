/-
  words.Same, sennitref13.Same.
-/
import Derived.Test.YtopakilglnpinaaGc13
namespace Go.Proofs.Ytopakilglnpinaa
open Go.RowKit
set_option linter.unusedVariables false
set_option linter.unusedSimpArgs false

theorem Rw.eq_iff {r r' : Rw} : r = r' ↔ r.is = r'.is ∧ r.c = r'.c ∧ r.t = r'.t := by cases r; cases r'; simp
/-- two rows boxed: what a walk reads -/
structure R2 (w : World) (t t' : TypeId) (r r' : Rw) (tv tv' : Value) (w0 : World) : Prop where
  b0 : Blk w0 w.heap.size t (r.vals tv).toArray
  b1 : Blk w0 (w.heap.size + 1) t' (r'.vals tv').toArray
  bel : Below w.heap.size w w0
  sz : w0.heap.size = w.heap.size + 1 + 1
theorem R2.start (w : World) (t t' : TypeId) (r r' : Rw) (tv tv' : Value) : R2 w t t' r r' tv tv' ((w.alloc (.cells (r.vals tv).toArray t)).alloc (.cells (r'.vals tv').toArray t')) :=
  ⟨(Blk.new _ _ _).alloc _, new1 _ _ _ _, ((Below.refl _ _).alloc (Nat.le_refl _) _).alloc (by simp) _, by simp⟩
theorem blk_row {w : World} {g : Nat} {t : TypeId} {r : Rw} {tv : Value} (h : Blk w g t (r.vals tv).toArray) (hr : r.ok) :
    w.cell? ⟨g, 0, none⟩ = some (.bool r.is) ∧ hasRow w ⟨g, 1, none⟩ 55 = true ∧ rowOf w ⟨g, 1, none⟩ 55 = r.c ∧ w.cell? ⟨g, 56, none⟩ = some tv ∧ hasRow w ⟨g, 0, none⟩ 57 = true ∧ rowOf w ⟨g, 0, none⟩ 57 = r.vals tv ∧ (∀ i, w.frozen? ⟨g, i, none⟩ = false) := by
  have hl := Rw.len hr tv
  have hcl : r.c.length = 55 := (okL_len hr.1).trans len_cellK
  obtain ⟨h1, h2, h3, h4, h5⟩ := h.rules
  obtain ⟨q1, q2, -⟩ := h.whole hl
  refine ⟨by rw [h1]; rfl, by rw [h3, hl]; rfl, ?_, ?_, q1, q2, h2⟩
  · rw [h4 _ _ (by omega)]; simp [Rw.vals, ← hcl]
  · rw [h1]; simp [Rw.vals, List.getElem?_append, hcl]

open Classical in
set_option maxRecDepth 100000 in
set_option maxHeartbeats 1000000 in
theorem same_any (S S' : Nat → Prop) (r r' : Rw) (hr : r.ok) (hr' : r'.ok) (tv tv' : Value) (w : World) (ht : RowR S w r tv) (ht' : RowR S' w r' tv') :
    Calls Try.prog 21 #[.agg (r.vals tv).toArray, .agg (r'.vals tv').toArray] w fun e w' => e = .returned (.bool (decide (r = r'))) ∧ Below w.heap.size w w' := by
  obtain ⟨q, hq⟩ : ∃ q, q = decide (r = r') := ⟨_, rfl⟩
  rw [← hq]
  have HQ := Lib.hid hq
  have hst := R2.start w 54 54 r r' tv tv'
  obtain ⟨x, m, cap, rfl, t1, t2, t3⟩ := ht
  obtain ⟨x', m', cap', rfl, t1', t2', t3'⟩ := ht'
  go_enter Try.func21, Try.ntmps21
  go_upto_region 1 with fail
  generalize ((w.alloc (.cells (r.vals (.slice x m cap)).toArray 54)).alloc (.cells (r'.vals (.slice x' m' cap')).toArray 54)) = w0 at hst ⊢
  obtain ⟨f0, f1, f2, f3, -⟩ := blk_row hst.b0 hr
  obtain ⟨k0, k1, k2, k3, -⟩ := blk_row hst.b1 hr'
  have hE := equal_any S S' x x' m m' cap cap' r.t r'.t w0 (t1.below hst.bel (fun _ _ h => h)) (t1'.below hst.bel (fun _ _ h => h)) (by omega) (by omega)
  have hc := hr.1
  have hc' := hr'.1
  have H := Lib.hid (And.intro hE hst)
  clear hE hst t1 t1' hq hr hr'
  obtain ⟨is, c, t⟩ := r
  obtain ⟨is', c', t'⟩ := r'
  simp only at f0 f1 f2 f3 k0 k1 k2 k3 hc hc' H HQ
  by_cases h1 : is = is'
  · subst h1
    have hb : (is == is) = true := by simp
    by_cases h2 : c = c'
    · subst h2
      have e : q = decide (t = t') := by rw [HQ.out]; simp
      have HE := Lib.hid e
      clear e
      go_wp2_with fail
      refine H.out.1.mono ?_
      rintro e w1 ⟨rfl, hb1⟩
      have HB := Lib.hid (H.out.2.bel.trans (hb1.mono H.out.2.bel.size))
      clear hb1
      rw [← HE.out]
      go_wp2_with fail
      go_ret
      exact ⟨rfl, HB.out⟩
    · have e : q = false := by rw [HQ.out, decide_eq_false_iff_not, Rw.eq_iff]; simp [h2]
      have HE := Lib.hid e
      clear e
      go_wp2_with fail
      go_ret
      exact ⟨by rw [HE.out]; rfl, H.out.2.bel⟩
  · have e : q = false := by rw [HQ.out, decide_eq_false_iff_not, Rw.eq_iff]; simp [h1]
    have HE := Lib.hid e
    have hb : (is == is') = false := by simpa using h1
    clear e
    go_wp2_with fail
    go_ret
    exact ⟨by rw [HE.out]; rfl, H.out.2.bel⟩

open Classical in
set_option maxRecDepth 100000 in
set_option maxHeartbeats 1000000 in
theorem rsame_any (S S' : Nat → Prop) (r r' : Rw) (hr : r.ok) (hr' : r'.ok) (tv tv' : Value) (w : World) (ht : RowR S w r tv) (ht' : RowR S' w r' tv') :
    Calls Try.prog 29 #[.agg (r.vals tv).toArray, .agg (r'.vals tv').toArray] w fun e w' => e = .returned (.bool (decide (r = r'))) ∧ Below w.heap.size w w' := by
  obtain ⟨q, hq⟩ : ∃ q, q = decide (r = r') := ⟨_, rfl⟩
  rw [← hq]
  have HQ := Lib.hid hq
  have hst := R2.start w 74 74 r r' tv tv'
  obtain ⟨x, m, cap, rfl, t1, t2, t3⟩ := ht
  obtain ⟨x', m', cap', rfl, t1', t2', t3'⟩ := ht'
  unfold maxLen at t3 t3'
  go_enter Try.func29, Try.ntmps29
  go_upto_region 1 with fail
  generalize ((w.alloc (.cells (r.vals (.slice x m cap)).toArray 74)).alloc (.cells (r'.vals (.slice x' m' cap')).toArray 74)) = w0 at hst ⊢
  obtain ⟨f0, f1, f2, f3, -⟩ := blk_row hst.b0 hr
  obtain ⟨k0, k1, k2, k3, -⟩ := blk_row hst.b1 hr'
  have hc := hr.1
  have hc' := hr'.1
  have u1 := t1.below hst.bel (fun _ _ h => h)
  have u1' := t1'.below hst.bel (fun _ _ h => h)
  have hlt : r.t.length = m := t1.1
  have hlt' : r'.t.length = m' := t1'.1
  have H := Lib.hid (And.intro hst (And.intro u1 u1'))
  have hg0 : w.heap.size + 1 < w0.heap.size := by have := hst.sz; omega
  clear hst t1 t1' hq hr hr' u1 u1'
  obtain ⟨is, c, t⟩ := r
  obtain ⟨is', c', t'⟩ := r'
  simp only at f0 f1 f2 f3 k0 k1 k2 k3 hc hc' H HQ hlt hlt'
  by_cases h1 : is = is'
  · subst h1
    have hb : (is != is) = false := by simp
    by_cases h2 : c = c'
    · subst h2
      have e : q = decide (t = t') := by rw [HQ.out]; simp
      have HE := Lib.hid e
      clear e
      by_cases h3 : m = m'
      · subst h3
        go_wp2_with fail
        go_loopw [5] (fun i wr => ∃ k : Nat, k ≤ m ∧ i = .int .i64 k ∧ t.take k = t'.take k ∧ Below w0.heap.size w0 wr) (fun i _ => m - (intOf i).toNat)
        case atStart => exact ⟨0, by omega, rfl, rfl, Below.refl _ _⟩
        case round =>
          obtain ⟨k, hk, rfl, htk, hB⟩ := hrel
          have a3 := (hB.cell (p := ⟨w.heap.size, 56, none⟩) (by show w.heap.size < _; omega)).trans f3
          have b3 := (hB.cell (p := ⟨w.heap.size + 1, 56, none⟩) hg0).trans k3
          by_cases hltk : k < m
          · obtain ⟨b, off, X, rfl, -, hbw, hX, x1, x2, x3⟩ := H.out.2.1.row_ k hltk
            obtain ⟨b', off', Y, rfl, -, hbw', hY, y1, y2, y3⟩ := H.out.2.2.row_ k hltk
            have d := row_below hB (p := ⟨b, off + k * 56, none⟩) hbw 56
            have d' := row_below hB (p := ⟨b', off' + k * 56, none⟩) hbw' 56
            have d1 := d.1.trans x1
            have d2 := d.2.trans x2
            have e1 := d'.1.trans y1
            have e2 := d'.2.trans y2
            clear x1 x2 y1 y2 d d' f0 f1 f2 f3 k0 k1 k2 k3
            by_cases hXY : X = Y
            · subst hXY
              obtain ⟨x, hx1, hx2⟩ := hX
              obtain ⟨y, hy1, hy2⟩ := hY
              have hxy : x = y := Hd.vals_inj.1 (hx2.symm.trans hy2)
              subst hxy
              have HH := Lib.hid (And.intro (take_eq_succ htk hx1 hy1) hB.drew)
              clear hx1 hx2 hy1 hy2 htk hB
              go_wp2
              go_region_held3 (fun w' => w'.cell? ⟨w.heap.size, 56, none⟩ = some (.slice (some ⟨b, off, none⟩) m cap) ∧ w'.cell? ⟨w.heap.size + 1, 56, none⟩ = some (.slice (some ⟨b', off', none⟩) m cap') ∧ hasRow w' ⟨b, off + k * 56, none⟩ 56 = true ∧ rowOf w' ⟨b, off + k * 56, none⟩ 56 = X ∧ hasRow w' ⟨b', off' + k * 56, none⟩ 56 = true ∧ rowOf w' ⟨b', off' + k * 56, none⟩ 56 = X) (first | (simp [*, hasRow_drew, rowOf_drew]; done)) (fail)
              go_wp2
              exact ⟨⟨k + 1, by omega, by go_num, HH.out.1, HH.out.2⟩, by simp [intOf]; omega⟩
            · have hqf : q = false := by
                rw [HE.out, decide_eq_false_iff_not]
                rintro rfl
                obtain ⟨x, hx1, rfl⟩ := hX
                obtain ⟨y, hy1, rfl⟩ := hY
                rw [hx1] at hy1
                cases hy1
                exact hXY rfl
              have HN := Lib.hid hqf
              have HH := Lib.hid (H.out.1.bel.trans ((hB.mono H.out.1.bel.size).drew))
              clear hqf hX hY htk hB
              go_wp2
              go_region_held3 (fun w' => w'.cell? ⟨w.heap.size, 56, none⟩ = some (.slice (some ⟨b, off, none⟩) m cap) ∧ w'.cell? ⟨w.heap.size + 1, 56, none⟩ = some (.slice (some ⟨b', off', none⟩) m cap') ∧ hasRow w' ⟨b, off + k * 56, none⟩ 56 = true ∧ rowOf w' ⟨b, off + k * 56, none⟩ 56 = X ∧ hasRow w' ⟨b', off' + k * 56, none⟩ 56 = true ∧ rowOf w' ⟨b', off' + k * 56, none⟩ 56 = Y) (first | (simp [*, hasRow_drew, rowOf_drew]; done)) (fail)
              go_wp2
              go_ret
              exact ⟨by rw [HN.out]; rfl, HH.out⟩
          · have hkl : k = m := by omega
            subst hkl
            rw [List.take_of_length_le (by omega), List.take_of_length_le (by omega)] at htk
            have hqt : q = true := by rw [HE.out, htk]; simp
            have HH := Lib.hid (And.intro hqt (H.out.1.bel.trans (hB.mono H.out.1.bel.size)))
            clear hqt hB htk f0 f1 f2 f3 k0 k1 k2 k3
            go_wp2
            go_ret
            exact ⟨by rw [HH.out.1]; rfl, HH.out.2⟩
      · have e : q = false := by
          rw [HE.out, decide_eq_false_iff_not]
          rintro rfl
          omega
        have HN := Lib.hid e
        have hne2 : ((m : Int) != (m' : Int)) = true := by simp; omega
        clear e
        go_wp2_with fail
        go_ret
        exact ⟨by rw [HN.out]; rfl, H.out.1.bel⟩
    · have e : q = false := by rw [HQ.out, decide_eq_false_iff_not, Rw.eq_iff]; simp [h2]
      have HE := Lib.hid e
      clear e
      go_wp2_with fail
      go_ret
      exact ⟨by rw [HE.out]; rfl, H.out.1.bel⟩
  · have e : q = false := by rw [HQ.out, decide_eq_false_iff_not, Rw.eq_iff]; simp [h1]
    have HE := Lib.hid e
    have hb : (is != is') = true := by simpa using h1
    clear e
    go_wp2_with fail
    go_ret
    exact ⟨by rw [HE.out]; rfl, H.out.1.bel⟩
end Go.Proofs.Ytopakilglnpinaa
