
/-
  Configs (chapter 4): a copy of a slice of ints.
-/
import Derived.Shelf.Slices.Clone
import Derived.Test.YtopakilglnpinaaGreatDoorBn8
namespace Go.Proofs.YtopakilglnpinaaGreatDoor
open Go.Shelf Go.RowKit
set_option linter.unusedVariables false
set_option linter.unusedSimpArgs false

def clone_ren : Go.Shelf.Ren := ⟨fun | 15 => 61 | n => n, fun | 22 => 22 | 3 => 3 | 4 => 4 | n => n, fun | n => n⟩
theorem cloneL : Lays2.n15 Tryz.prog clone_ren := {
  mixed := by kernel_rfl,
  f15 := Tryz.func61.trans (congrArg some (by kernel_rfl)),
  t3 := Tryz.underlying3,
  a3 := Tryz.isAgg3,
  z3 := Tryz.sizeOf3,
  v3 := Tryz.zeroValue3,
  t4 := Tryz.underlying4,
  a4 := Tryz.isAgg4,
  z4 := Tryz.sizeOf4,
  v4 := Tryz.zeroValue4,
  t22 := Tryz.underlying22,
  a22 := Tryz.isAgg22,
  z22 := Tryz.sizeOf22,
  v22 := Tryz.zeroValue22,
  i3 := infoInt }
theorem newZ_own {zs : List Int} {w w' : World} {v : Value} (h : w'.ownsRow w.heap.size 3 1 v zs.length (ints zs)) (hb : Below w.heap.size w w') : NewZ zs w (.returned v) w' := by
  obtain ⟨-, a, cap, rfl, h1, h2, h3⟩ := own_rdz h
  exact ⟨a, cap, rfl, h1, h2, h3, hb⟩
theorem cloneI_any (S : Nat → Prop) (a : Option Addr) (len cap : Nat) (zs : List Int) (w : World) (h : RdZ S w a len zs) (hbig : len ≤ 1000000) :
    Calls Tryz.prog 61 #[.slice a len cap] w (NewZ zs w) := by
  have hl := h.1
  by_cases h0 : len = 0
  · have hz : zs = [] := List.eq_nil_of_length_eq_zero (by omega)
    subst hz
    subst h0
    cases a with
    | none =>
      refine (Any.slices_Clone_int_nil cloneL 0 cap w).mono ?_
      rintro e w' ⟨rfl, rfl⟩
      exact ⟨none, 0, rfl, RdZ.nil _ _, Nat.le_refl _, Nat.zero_le _, Below.refl _ _⟩
    | some p =>
      refine (Any.slices_Clone_int_zero cloneL p cap w).mono ?_
      rintro e w' ⟨v, rfl, ho, -, hb⟩
      exact newZ_own (zs := []) ho hb
  · obtain ⟨b, off, z, rfl, hS, hb, hz, hc⟩ := h.at_ (k := 0) (by omega)
    refine (Any.slices_Clone_int cloneL b off len cap zs w (by omega) (by omega) ?_).mono ?_
    · intro j hj
      obtain ⟨b2, off2, z2, e2, _, _, hz2, hc2⟩ := h.at_ (k := j) (by omega)
      cases e2
      rw [List.getD, hz2]
      exact hc2
    · rintro e w' ⟨v, rfl, ho, -, hb⟩
      rw [← hl, List.take_length] at ho
      exact newZ_own ho hb
set_option maxRecDepth 100000 in
set_option maxHeartbeats 1000000 in
theorem clipI_any (x : Option Addr) (m cap : Nat) (w : World) (hm1 : m ≤ cap) (hm2 : cap ≤ maxLen) :
    Calls Tryz.prog 60 #[.slice x m cap] w fun e w' => e = .returned (.slice x m m) ∧ w' = w := by
  unfold maxLen at hm2
  have hcc : ((m : Nat) : Int) ≤ (m : Int) := Int.le_refl _
  cases x with
  | none =>
    skip
    go_enter Tryz.func60, Tryz.ntmps60
    go_wp2
    go_ret
    exact ⟨rfl, rfl⟩
  | some p =>
    skip
    go_enter Tryz.func60, Tryz.ntmps60
    go_wp2
    go_ret
    exact ⟨rfl, rfl⟩
end Go.Proofs.YtopakilglnpinaaGreatDoor
