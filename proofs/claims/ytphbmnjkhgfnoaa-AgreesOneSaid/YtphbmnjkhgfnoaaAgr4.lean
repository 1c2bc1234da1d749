/-
  sennitlaw15.Same, sennitlaw15.spoil; sennitref15.has, sennitref15.Table.
-/
import Derived.Test.YtphbmnjkhgfnoaaAgr3
namespace Go.Proofs.Ytphbmnjkhgfnoaa
open Go.RowKit
set_option linter.unusedVariables false
set_option linter.unusedSimpArgs false

set_option maxRecDepth 100000 in
set_option maxHeartbeats 4000000 in
theorem vsame_eq (S S' : Nat → Prop) (a a' : Option Addr) (cap cap' : Nat) (l : List Hd) (w : World) (hr : RdHs S w a l.length l) (hr' : RdHs S' w a' l.length l) (hm : l.length ≤ maxLen) :
    Calls Try.prog 23 #[.slice a l.length cap, .slice a' l.length cap'] w fun e w' => e = .returned (.bool true) ∧ Below w.heap.size w w' := by
  unfold maxLen at hm
  have HR := Lib.hid (And.intro hr hr')
  obtain ⟨len, hll⟩ : ∃ n, n = l.length := ⟨_, rfl⟩
  rw [← hll] at hm ⊢
  clear hr hr'
  go_enter Try.func23, Try.ntmps23
  go_wp2_with fail
  go_loopw [5] (fun i wr => ∃ k : Nat, k ≤ len ∧ i = .int .i64 k ∧ Below w.heap.size w wr) (fun i _ => len - (intOf i).toNat)
  case atStart => exact ⟨0, by omega, rfl, Below.refl _ _⟩
  case round =>
    obtain ⟨k, hk, rfl, hB⟩ := hrel
    by_cases hlt : k < len
    · obtain ⟨b, off, is, n, r, rfl, hS, hbw, hv, hok, hrl, hrc1, hr1, hr2, hr3, hr4, hr5, -⟩ := HR.out.1.at_ k (by omega)
      obtain ⟨b', off', is', n', r', rfl, hS', hbw', hv', hok', hrl', hrc1', hs1, hs2, hs3, hs4, hs5, -⟩ := HR.out.2.at_ k (by omega)
      rw [hv] at hv'
      simp only [Option.some.injEq, Hd.mk.injEq, List.cons.injEq, Value.int.injEq, true_and] at hv'
      obtain ⟨rfl, rfl, rfl⟩ := hv'
      have d := row_below hB (p := ⟨b, off + k * 56 + 1, none⟩) hbw 55
      have d' := row_below hB (p := ⟨b', off' + k * 56 + 1, none⟩) hbw' 55
      have d1 := d.1.trans hr3
      have d2 := d.2.trans hr4
      have e1 := d'.1.trans hs3
      have e2 := d'.2.trans hs4
      have d3 := (hB.cell (p := ⟨b, off + k * 56, none⟩) hbw).trans hr5
      have e3 := (hB.cell (p := ⟨b', off' + k * 56, none⟩) hbw').trans hs5
      obtain ⟨X, hX⟩ : ∃ X, X = Value.int .i64 n :: r := ⟨_, rfl⟩
      rw [← hX] at d2 e2 hok
      have H := Lib.hid hB.drew
      clear d d' hr1 hr2 hr3 hr4 hr5 hs1 hs2 hs3 hs4 hs5 hB hv hX hrl hrc1 hrl' hrc1' hok'
      go_wp2
      go_region_held3 (fun w' => w'.cell? ⟨b, off + k * 56, none⟩ = some (.bool is) ∧ w'.cell? ⟨b', off' + k * 56, none⟩ = some (.bool is) ∧ hasRow w' ⟨b, off + k * 56 + 1, none⟩ 55 = true ∧ rowOf w' ⟨b, off + k * 56 + 1, none⟩ 55 = X ∧ hasRow w' ⟨b', off' + k * 56 + 1, none⟩ 55 = true ∧ rowOf w' ⟨b', off' + k * 56 + 1, none⟩ 55 = X) (first | (simp [*, hasRow_drew, rowOf_drew]; done)) (fail)
      go_wp2
      exact ⟨⟨k + 1, by omega, by go_num, H.out⟩, by simp [intOf]; omega⟩
    · have hkl : k = len := by omega
      subst hkl
      have H := Lib.hid hB
      clear hB
      go_wp2
      go_ret
      exact ⟨rfl, H.out⟩
end Go.Proofs.Ytphbmnjkhgfnoaa
