/-
  sennitlaw13.SameAll, Left, LeftWord.
-/
import Derived.Test.YtopakilglnpinaaGc29
namespace Go.Proofs.Ytopakilglnpinaa
open Go.RowKit
set_option linter.unusedVariables false
set_option linter.unusedSimpArgs false

open Classical in
set_option maxRecDepth 100000 in
set_option maxHeartbeats 4000000 in
theorem sameAll_any (S S' : Nat → Prop) (a a' : Option Addr) (len cap len' cap' : Nat) (l l' : List Rw) (w : World) (hrd : RdRs S w a len l) (hm1 : len ≤ cap) (hm2 : cap ≤ maxLen) (hrd' : RdRs S' w a' len' l') (hm1' : len' ≤ cap') (hm2' : cap' ≤ maxLen)
    (hbt : ∀ r ∈ l, r.t.length ≤ 100000) :
    Calls Try.prog 13 #[.slice a len cap, .slice a' len' cap'] w fun e w' => e = .returned (.bool (decide (l = l'))) ∧ Below w.heap.size w w' := by
  obtain ⟨q, hq⟩ : ∃ q, q = decide (l = l') := ⟨_, rfl⟩
  rw [← hq]
  have HQ := Lib.hid hq
  have hll : l.length = len := hrd.1
  have hll' : l'.length = len' := hrd'.1
  unfold maxLen at hm2 hm2'
  have HR := Lib.hid (And.intro hrd (And.intro hrd' hbt))
  clear hrd hrd' hbt hq
  go_enter Try.func13, Try.ntmps13
  by_cases hne : len = len'
  · subst hne
    go_wp2_with fail
    go_loopw [5] (fun i wr => ∃ k : Nat, k ≤ len ∧ i = .int .i64 k ∧ l.take k = l'.take k ∧ Below w.heap.size w wr) (fun i _ => len - (intOf i).toNat)
    case atStart => exact ⟨0, by omega, rfl, rfl, Below.refl _ _⟩
    case round =>
      obtain ⟨k, hk, rfl, htk, hB⟩ := hrel
      by_cases hlt : k < len
      · obtain ⟨b, off, x, m, cp, r, rfl, hS, hbw, hv, hok, hrl, hrc1, hr1, hr2, hr3, hr4, hr5, hr6, hr7⟩ := HR.out.1.at_ k hlt
        obtain ⟨b', off', x', m', cp', r', rfl, hS', hbw', hv', hok', hrl', hrc1', hr1', hr2', hr3', hr4', hr5', hr6', hr7'⟩ := HR.out.2.1.at_ k hlt
        have d := row_below hB (p := ⟨b, off + k * 57, none⟩) hbw 57
        have d1 := d.1.trans hr1
        have d2 : rowOf wr ⟨b, off + k * 57, none⟩ 57 = r.vals (.slice x m cp) := d.2.trans hr2
        have hrow : RowR S wr r (.slice x m cp) := ⟨x, m, cp, rfl, hr5.below hB (fun _ _ h => h), hr6, hr7⟩
        have hrow' : RowR S' wr r' (.slice x' m' cp') := ⟨x', m', cp', rfl, hr5'.below hB (fun _ _ h => h), hr6', hr7'⟩
        have HF : Hid (∀ w' : World, Below wr.heap.size wr w' → hasRow w' ⟨b', off' + k * 57, none⟩ 57 = true ∧ rowOf w' ⟨b', off' + k * 57, none⟩ 57 = r'.vals (.slice x' m' cp') ∧ RowR S' w' r' (.slice x' m' cp')) := Lib.hid fun w' h' => by
          have d := row_below (hB.trans (h'.mono hB.size)) (p := ⟨b', off' + k * 57, none⟩) hbw' 57
          exact ⟨d.1.trans hr1', d.2.trans hr2', hrow'.below h'⟩
        obtain ⟨e1, e2, -⟩ := HF.out wr (Below.refl _ _)
        have HC := Lib.hid (fun (w' : World) (h' : Below wr.heap.size wr w') => other_any S r hok (.slice x m cp) w' (hrow.below h') (HR.out.2.2 r (List.mem_of_getElem? hv)))
        have HK := Lib.hid (And.intro hB (And.intro htk (And.intro hv (And.intro hv' (And.intro hok hok')))))
        clear d hr1 hr2 hr3 hr4 hr5 hr6 hr7 hrow hB htk hv hrl hrc1 hr1' hr2' hr3' hr4' hr5' hr6' hr7' hrow' hv' hrl' hrc1'
        have hdec : decide (r = r') = true ∨ (decide (r = r') = false ∧ q = false) := by
          by_cases hrr : r = r'
          · exact .inl (by simp [hrr])
          · refine .inr ⟨by simp [hrr], ?_⟩
            rw [HQ.out, decide_eq_false_iff_not]
            rintro rfl
            have := HK.out.2.2.1.symm.trans HK.out.2.2.2.1
            exact hrr (by injection this)
        obtain ⟨dd, hdd⟩ : ∃ dd, dd = decide (r = r') := ⟨_, rfl⟩
        have HD := Lib.hid hdd
        rw [← hdd] at hdec
        clear hdd
        rcases hdec with hdt | ⟨hdt, hqf⟩
        · have hrr : Hid (r = r') := Lib.hid (by have := HD.out; rw [hdt] at this; simpa using this.symm)
          go_wp2
          go_region_law (first
            | (go_simp; go_at_call 16; refine (HC.out _ (Below.refl _ _).drew).mono ?_; rintro e w1 ⟨tv1, rfl, hrow1, hb1⟩; obtain ⟨g1, g2, g3⟩ := HF.out w1 ((Below.refl _ _).drew.trans hb1); have H1 := Lib.hid (And.intro ((Below.refl _ _).drew.trans hb1) (And.intro hrow1 g3)); clear hrow1 hb1 g3)
            | (go_simp; go_at_call 29; refine (rsame_any _ _ r r' hok hok' tv1 _ w1 H1.out.2.1 H1.out.2.2).mono ?_; rintro e w2 ⟨rfl, hb2⟩; rw [← HD.out]; have H2 := Lib.hid hb2; clear hb2))
          all_goals go_wp2
          all_goals exact ⟨⟨k + 1, by omega, by go_num, take_eq_succ HK.out.2.1 HK.out.2.2.1 (hrr.out ▸ HK.out.2.2.2.1), (HK.out.1.trans (H1.out.1.mono HK.out.1.size)).trans (H2.out.mono (Nat.le_trans HK.out.1.size H1.out.1.size))⟩, by simp [intOf]; omega⟩
        · have HQF := Lib.hid hqf
          clear hqf
          go_wp2
          go_region_law (first
            | (go_simp; go_at_call 16; refine (HC.out _ (Below.refl _ _).drew).mono ?_; rintro e w1 ⟨tv1, rfl, hrow1, hb1⟩; obtain ⟨g1, g2, g3⟩ := HF.out w1 ((Below.refl _ _).drew.trans hb1); have H1 := Lib.hid (And.intro ((Below.refl _ _).drew.trans hb1) (And.intro hrow1 g3)); clear hrow1 hb1 g3)
            | (go_simp; go_at_call 29; refine (rsame_any _ _ r r' hok hok' tv1 _ w1 H1.out.2.1 H1.out.2.2).mono ?_; rintro e w2 ⟨rfl, hb2⟩; rw [← HD.out]; have H2 := Lib.hid hb2; clear hb2))
          all_goals go_wp2
          all_goals go_ret
          all_goals exact ⟨by rw [HQF.out]; rfl, (HK.out.1.trans (H1.out.1.mono HK.out.1.size)).trans (H2.out.mono (Nat.le_trans HK.out.1.size H1.out.1.size))⟩
      · have hkl : k = len := by omega
        subst hkl
        rw [List.take_of_length_le (by omega), List.take_of_length_le (by omega)] at htk
        have hqt : q = true := by rw [HQ.out, htk]; simp
        have H := Lib.hid (And.intro hqt hB)
        clear hqt hB htk
        go_wp2
        go_ret
        exact ⟨by rw [H.out.1]; rfl, H.out.2⟩
  · have hqf : q = false := by
      rw [HQ.out, decide_eq_false_iff_not]
      rintro rfl
      omega
    have H := Lib.hid hqf
    have hne2 : ((len : Int) != (len' : Int)) = true := by simp; omega
    clear hqf
    go_wp2_with fail
    go_ret
    exact ⟨by rw [H.out]; rfl, Below.refl _ _⟩
end Go.Proofs.Ytopakilglnpinaa
