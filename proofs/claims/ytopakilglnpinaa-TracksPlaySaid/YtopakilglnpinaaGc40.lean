/-
  sennitlaw13.Left, LeftWord: a twin, and its room, is as it was.
-/
import Derived.Test.YtopakilglnpinaaGc29
namespace Go.Proofs.Ytopakilglnpinaa
open Go.RowKit
set_option linter.unusedVariables false
set_option linter.unusedSimpArgs false

open Classical in
set_option maxRecDepth 100000 in
set_option maxHeartbeats 4000000 in
theorem left_any (S S' : Nat → Prop) (r : Rw) (hr : r.ok) (tv tv' : Value) (w : World) (ht : TwR S w r tv) (ht' : RowR S' w r tv') (hlen : r.t.length ≤ 100000) :
    Calls Try.prog 18 #[.agg (r.vals tv).toArray, .agg (r.vals tv').toArray] w fun e w' => e = .returned (.bool true) ∧ Below w.heap.size w w' := by
  have hst := R2.start w 54 54 r r tv tv'
  have hl1 := Rw.len hr tv
  have hl2 := Rw.len hr tv'
  obtain ⟨x, cap, rfl, t1, t2, t3, -⟩ := id ht
  obtain ⟨m, hm⟩ : ∃ m, m = r.t.length := ⟨_, rfl⟩
  rw [← hm] at hlen t2
  unfold maxLen at t3
  have HM := Lib.hid hm
  go_enter Try.func18, Try.ntmps18
  go_upto_region 1 with fail
  generalize ((w.alloc (.cells (r.vals (.slice x r.t.length cap)).toArray 54)).alloc (.cells (r.vals tv').toArray 54)) = w0 at hst ⊢
  have HF : Hid (∀ w' : World, Below w0.heap.size w0 w' → hasRow w' ⟨w.heap.size + 1, 0, none⟩ 57 = true ∧ rowOf w' ⟨w.heap.size + 1, 0, none⟩ 57 = r.vals tv' ∧ TwR S w' r (.slice x r.t.length cap) ∧ RowR S' w' r tv' ∧ Below w.heap.size w w' ∧ w'.cell? ⟨w.heap.size, 56, none⟩ = some (.slice x r.t.length cap)) := Lib.hid fun w' h' => by
    have hs := hst.sz
    obtain ⟨-, -, -, -, q1, q2, -⟩ := blk_row (hst.b1.below h' hst.b1.lt) hr
    obtain ⟨-, -, -, q3, -⟩ := blk_row (hst.b0.below h' hst.b0.lt) hr
    have hB : Below w.heap.size w w' := hst.bel.trans (h'.mono (by omega))
    exact ⟨q1, q2, ht.below hB, ht'.below hB, hB, q3⟩
  obtain ⟨g1, g2, -, -, -, g6⟩ := HF.out w0 (Below.refl _ _)
  obtain ⟨-, -, -, -, f1, f2, -⟩ := blk_row hst.b0 hr
  have hg0 : w.heap.size + 1 < w0.heap.size := by have := hst.sz; omega
  have HC1 := Lib.hid (fun (w' : World) (h' : Below w0.heap.size w0 w') => other_any S r hr (.slice x r.t.length cap) w' (HF.out w' h').2.2.1.row (by omega))
  have HC2 := Lib.hid (fun (w' : World) (h' : Below w0.heap.size w0 w') => other_any S' r hr tv' w' (HF.out w' h').2.2.2.1 (by omega))
  clear hst ht ht' t1 hm
  go_region_law (first
    | (go_simp; go_at_call 16; refine (HC2.out _ HB1.out).mono ?_; rintro e w2 ⟨tv2, rfl, hrow2, hb2⟩; have HB2 := Lib.hid (HB1.out.trans (hb2.mono HB1.out.size)); have HR2 := Lib.hid (And.intro (HR1.out.below hb2) hrow2); clear hrow2 hb2)
    | (go_simp; go_at_call 16; refine (HC1.out _ (Below.refl _ _).drew).mono ?_; rintro e w1 ⟨tv1, rfl, hrow1, hb1⟩; have HB1 := Lib.hid ((Below.refl _ _).drew.trans hb1); obtain ⟨k1, k2, -, -, -, -⟩ := HF.out w1 HB1.out; have HR1 := Lib.hid hrow1; clear hrow1 hb1)
    | (go_simp; go_at_call 29; refine (rsame_any _ _ r r hr hr tv1 tv2 w2 HR2.out.1 HR2.out.2).mono ?_; rintro e w3 ⟨rfl, hb3⟩; rw [decide_eq_true (rfl : r = r)]; have HB3 := Lib.hid (HB2.out.trans (hb3.mono HB2.out.size)); clear hb3))
  all_goals
    obtain ⟨-, -, u3, -, u5, u6⟩ := HF.out w3 HB3.out
    obtain ⟨x', cap', he, u7, -⟩ := u3
    cases he
    have HU := Lib.hid u5
    rw [← HM.out] at u6 u7
    have hx : ∃ b off, x = some ⟨b, off, none⟩ := by
      obtain ⟨b, off, X, hx, -⟩ := u7.row_ m (by omega)
      exact ⟨b, off, hx⟩
    obtain ⟨b, off, rfl⟩ := hx
    have HU7 := Lib.hid u7
    have hcc : ((cap : Nat) : Int) ≤ (cap : Int) := Int.le_refl _
    clear f1 f2 g1 g2 g6 k1 k2 u5 u7
    go_wp2
    go_loopw [6] (fun i wr => ∃ j : Nat, m ≤ j ∧ j ≤ m + 2 ∧ i = .int .i64 j ∧ wr = w3) (fun i _ => m + 2 - (intOf i).toNat)
    case atStart => exact ⟨m, by omega, by omega, rfl, rfl⟩
    case round =>
      obtain ⟨j, hj1, hj2, rfl, rfl⟩ := hrel
      by_cases hlt : j < m + 2
      · have hlt2 : (j : Int) < (m : Int) + 2 := by omega
        have hlt3 : j < cap := by omega
        obtain ⟨b', off', X, hx, -, -, ⟨y, hy, rfl⟩, d1, d2, d3⟩ := HU7.out.row_ j hlt
        cases hx
        have hyk : y = mkH := by
          rw [List.getElem?_append_right (by have := HM.out; omega)] at hy
          have hm' := HM.out
          have : j - r.t.length = 0 ∨ j - r.t.length = 1 := by omega
          rcases this with h | h <;> rw [h] at hy <;> simpa using hy.symm
        rw [hyk, mkH_vals] at d2 d3
        clear hy hyk
        go_wp2
        exact ⟨⟨j + 1, by omega, by omega, by first | go_num | rfl | trivial | simp⟩, by first | (simp [intOf]; omega) | (simp [intOf]; done)⟩
      · have hlt2 : ¬ (j : Int) < (m : Int) + 2 := by omega
        go_wp2
        go_ret
        exact ⟨rfl, HU.out⟩

set_option maxRecDepth 100000 in
set_option maxHeartbeats 4000000 in
theorem leftWord_any (S S' : Nat → Prop) (a a' : Option Addr) (len cap cap' : Nat) (l : List Rw) (w : World) (hrd : RdTs S w a len l) (hm1 : len ≤ cap) (hm2 : cap ≤ maxLen) (hrd' : RdRs S' w a' len l) (hm1' : len ≤ cap') (hm2' : cap' ≤ maxLen)
    (hbt : ∀ r ∈ l, r.t.length ≤ 100000) :
    Calls Try.prog 17 #[.agg #[.slice a len cap], .agg #[.slice a' len cap']] w fun e w' => e = .returned (.bool true) ∧ Below w.heap.size w w' := by
  have hll : l.length = len := hrd.1
  unfold maxLen at hm2 hm2'
  have HR := Lib.hid (And.intro hrd (And.intro hrd' hbt))
  clear hrd hrd' hbt
  have hb0 : Blk ((w.alloc (.cells #[.slice a len cap] 34)).alloc (.cells #[.slice a' len cap'] 34)) w.heap.size 34 #[.slice a len cap] := (Blk.new _ _ _).alloc _
  have hb1 : Blk ((w.alloc (.cells #[.slice a len cap] 34)).alloc (.cells #[.slice a' len cap'] 34)) (w.heap.size + 1) 34 #[.slice a' len cap'] := new1 w _ [Value.slice a' len cap'] _
  have hB0 : Below w.heap.size w ((w.alloc (.cells #[.slice a len cap] 34)).alloc (.cells #[.slice a' len cap'] 34)) := ((Below.refl _ _).alloc (Nat.le_refl _) _).alloc (by simp) _
  have hsz : ((w.alloc (.cells #[.slice a len cap] 34)).alloc (.cells #[.slice a' len cap'] 34)).heap.size = w.heap.size + 1 + 1 := by simp
  go_enter Try.func17, Try.ntmps17
  go_upto_region 1 with fail
  generalize ((w.alloc (.cells #[.slice a len cap] 34)).alloc (.cells #[.slice a' len cap'] 34)) = w0 at hb0 hb1 hB0 hsz ⊢
  have c0 := hb0.cell 0
  have c1 := hb1.cell 0
  simp at c0 c1
  have H0 := Lib.hid (And.intro hb0 (And.intro hb1 (And.intro hB0 hsz)))
  clear hb0 hb1 hB0 hsz
  go_wp2_with fail
  clear c0 c1
  go_loopw [5] (fun i wr => ∃ k : Nat, k ≤ len ∧ i = .int .i64 k ∧ Below w0.heap.size w0 wr) (fun i _ => len - (intOf i).toNat)
  case atStart => exact ⟨0, by omega, rfl, Below.refl _ _⟩
  case round =>
    obtain ⟨k, hk, rfl, hB⟩ := hrel
    have hBw : Below w.heap.size w wr := H0.out.2.2.1.trans (hB.mono H0.out.2.2.1.size)
    have c0 := (H0.out.1.below hB H0.out.1.lt).cell 0
    have c1 := (H0.out.2.1.below hB H0.out.2.1.lt).cell 0
    simp at c0 c1
    by_cases hlt : k < len
    · obtain ⟨r, hv⟩ : ∃ r, l[k]? = some r := ⟨_, List.getElem?_eq_getElem (by omega)⟩
      have hok := HR.out.1.2.1 r (List.mem_of_getElem? hv)
      obtain ⟨b, off, tv, rfl, hS, hbw, h1, h2, h3⟩ := HR.out.1.2.2 k r hv
      obtain ⟨b', off', x', m', cp', rfl, hS', hbw', h1', h2', h3', h4', h5'⟩ := HR.out.2.1.2.2 k r hv
      have d := row_below hBw (p := ⟨b, off + k * 57, none⟩) hbw 57
      have d' := row_below hBw (p := ⟨b', off' + k * 57, none⟩) hbw' 57
      have d1 := d.1.trans h1
      have d2 := d.2.trans h2
      have e1 := d'.1.trans h1'
      have e2 := d'.2.trans h2'
      have hrow' : RowR S' w r (.slice x' m' cp') := ⟨x', m', cp', rfl, h3', h4', h5'⟩
      have HC := Lib.hid (fun (w' : World) (h' : Below wr.heap.size wr w') => left_any S S' r hok tv (.slice x' m' cp') w' (h3.below ((hBw.trans (h'.mono hBw.size)))) (hrow'.below (hBw.trans (h'.mono hBw.size))) (HR.out.2.2 r (List.mem_of_getElem? hv)))
      have HK := Lib.hid (And.intro hB hBw)
      clear d d' h1 h2 h3 h1' h2' h3' hrow' hB hBw hv
      go_wp2
      go_region_law (first
        | (go_simp; go_at_call 18; refine (HC.out _ (Below.refl _ _).drew).mono ?_; rintro e w1 ⟨rfl, hb1⟩; have H1 := Lib.hid ((Below.refl _ _).drew.trans hb1); clear hb1))
      all_goals go_wp2
      all_goals exact ⟨⟨k + 1, by omega, by go_num, HK.out.1.trans (H1.out.mono HK.out.1.size)⟩, by simp [intOf]; omega⟩
    · have hkl : k = len := by omega
      subst hkl
      have H := Lib.hid hBw
      clear hBw hB
      go_wp2
      go_ret
      exact ⟨rfl, H.out⟩
end Go.Proofs.Ytopakilglnpinaa
