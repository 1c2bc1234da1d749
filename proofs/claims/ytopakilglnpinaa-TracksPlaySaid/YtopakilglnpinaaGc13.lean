/-
  slices.Equal of tables; words.Same, sennitref13.Same.
-/
import Derived.Test.YtopakilglnpinaaGc12
import Derived.Deep.RegionHeld3
namespace Go.Proofs.Ytopakilglnpinaa
open Go.RowKit
set_option linter.unusedVariables false
set_option linter.unusedSimpArgs false

theorem RdHs.row_ {S : Nat → Prop} {w : World} {a : Option Addr} {len : Nat} {l : List Hd} (h : RdHs S w a len l) (k : Nat) (hk : k < len) :
    ∃ b off X, a = some ⟨b, off, none⟩ ∧ S b ∧ b < w.heap.size ∧ (∃ x, l[k]? = some x ∧ X = x.vals) ∧ hasRow w ⟨b, off + k * 56, none⟩ 56 = true ∧ rowOf w ⟨b, off + k * 56, none⟩ 56 = X ∧ okL heldK X = true := by
  obtain ⟨h1, h2, h3⟩ := h
  have hv : l[k]? = some (l[k]'(by omega)) := List.getElem?_eq_getElem _
  obtain ⟨b, off, e, hS, hb, hr1, hr2⟩ := h3 k _ hv
  exact ⟨b, off, _, e, hS, hb, ⟨_, hv, rfl⟩, hr1, hr2, Hd.vals_ok (h2 _ (List.mem_of_getElem? hv))⟩

theorem take_eq_succ {α : Type} {l l' : List α} {k : Nat} {x : α} (h : l.take k = l'.take k) (h1 : l[k]? = some x) (h2 : l'[k]? = some x) : l.take (k + 1) = l'.take (k + 1) := by
  rw [List.take_add_one, List.take_add_one, h, h1, h2]

open Classical in
set_option maxRecDepth 100000 in
set_option maxHeartbeats 1000000 in
theorem equal_any (S S' : Nat → Prop) (a a' : Option Addr) (len len' cap cap' : Nat) (l l' : List Hd) (w : World) (hr : RdHs S w a len l) (hr' : RdHs S' w a' len' l') (hm : len ≤ maxLen) (hm' : len' ≤ maxLen) :
    Calls Try.prog 34 #[.slice a len cap, .slice a' len' cap'] w fun e w' => e = .returned (.bool (decide (l = l'))) ∧ Below w.heap.size w w' := by
  unfold maxLen at hm hm'
  obtain ⟨q, hq⟩ : ∃ q, q = decide (l = l') := ⟨_, rfl⟩
  rw [← hq]
  have HQ := Lib.hid hq
  have HR := Lib.hid (And.intro hr hr')
  have hll : l.length = len := hr.1
  have hll' : l'.length = len' := hr'.1
  clear hq hr hr'
  by_cases hne : len = len'
  · subst hne
    go_enter Try.func34, Try.ntmps34
    go_wp2_with fail
    go_loopw [13] (fun i wr => ∃ k : Nat, k ≤ len ∧ i = .int .i64 k ∧ l.take k = l'.take k ∧ Below w.heap.size w wr) (fun i _ => len - (intOf i).toNat)
    case atStart => exact ⟨0, by omega, rfl, rfl, Below.refl _ _⟩
    case round =>
      obtain ⟨k, hk, rfl, ht, hB⟩ := hrel
      by_cases hlt : k < len
      · obtain ⟨b, off, X, rfl, -, hbw, hX, x1, x2, x3⟩ := HR.out.1.row_ k hlt
        obtain ⟨b', off', Y, rfl, -, hbw', hY, y1, y2, y3⟩ := HR.out.2.row_ k hlt
        have d := row_below hB (p := ⟨b, off + k * 56, none⟩) hbw 56
        have d' := row_below hB (p := ⟨b', off' + k * 56, none⟩) hbw' 56
        have d1 := d.1.trans x1
        have d2 := d.2.trans x2
        have e1 := d'.1.trans y1
        have e2 := d'.2.trans y2
        clear x1 x2 y1 y2 d d'
        by_cases hXY : X = Y
        · subst hXY
          obtain ⟨x, hx1, hx2⟩ := hX
          obtain ⟨y, hy1, hy2⟩ := hY
          have hxy : x = y := Hd.vals_inj.1 (hx2.symm.trans hy2)
          subst hxy
          have H := Lib.hid (And.intro (take_eq_succ ht hx1 hy1) hB.drew)
          clear hx1 hx2 hy1 hy2 ht hB
          go_wp2
          go_region_held3 (fun w' => hasRow w' ⟨b, off + k * 56, none⟩ 56 = true ∧ rowOf w' ⟨b, off + k * 56, none⟩ 56 = X ∧ hasRow w' ⟨b', off' + k * 56, none⟩ 56 = true ∧ rowOf w' ⟨b', off' + k * 56, none⟩ 56 = X) (first | (simp [*, hasRow_drew, rowOf_drew]; done)) (fail)
          go_wp2
          exact ⟨⟨k + 1, by omega, by go_num, H.out.1, H.out.2⟩, by simp [intOf]; omega⟩
        · have hqf : q = false := by
            rw [HQ.out, decide_eq_false_iff_not]
            rintro rfl
            obtain ⟨x, hx1, rfl⟩ := hX
            obtain ⟨y, hy1, rfl⟩ := hY
            rw [hx1] at hy1
            cases hy1
            exact hXY rfl
          have HN := Lib.hid hqf
          have H := Lib.hid (And.intro hX (And.intro hY (And.intro ht hB)))
          clear hqf hX hY ht hB
          go_wp2
          go_region_held3 (fun w' => hasRow w' ⟨b, off + k * 56, none⟩ 56 = true ∧ rowOf w' ⟨b, off + k * 56, none⟩ 56 = X ∧ hasRow w' ⟨b', off' + k * 56, none⟩ 56 = true ∧ rowOf w' ⟨b', off' + k * 56, none⟩ 56 = Y) (first | (simp [*, hasRow_drew, rowOf_drew]; done)) (fail)
          go_wp2
          go_ret
          exact ⟨by rw [HN.out]; rfl, H.out.2.2.2.drew⟩
      · have hkl : k = len := by omega
        subst hkl
        rw [List.take_of_length_le (by omega), List.take_of_length_le (by omega)] at ht
        have hqt : q = true := by rw [HQ.out, ht]; simp
        have H := Lib.hid (And.intro hqt hB)
        clear hqt hB ht
        go_wp2
        go_ret
        exact ⟨by rw [H.out.1]; rfl, H.out.2⟩
  · have hqf : q = false := by
      rw [HQ.out, decide_eq_false_iff_not]
      rintro rfl
      omega
    have HN := Lib.hid hqf
    have hne' : ((len : Int) == (len' : Int)) = false := by simp; omega
    have hne2 : ((len : Int) != (len' : Int)) = true := by simp; omega
    clear hqf
    go_enter Try.func34, Try.ntmps34
    go_wp2_with fail
    go_ret
    exact ⟨by rw [HN.out]; rfl, Below.refl _ _⟩
end Go.Proofs.Ytopakilglnpinaa
