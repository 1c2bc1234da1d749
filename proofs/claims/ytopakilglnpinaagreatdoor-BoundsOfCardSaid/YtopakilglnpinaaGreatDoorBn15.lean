
/-
  math/bits.Mul, laid.
-/
import Derived.Shelf.Bits.Mul64
import Derived.Test.YtopakilglnpinaaGreatDoorBn14
namespace Go.Proofs.YtopakilglnpinaaGreatDoor
open Go.Shelf Go.RowKit
set_option linter.unusedVariables false
set_option linter.unusedSimpArgs false

def mul_ren : Go.Shelf.Ren := ⟨fun | 212 => 64 | 263 => 75 | 264 => 76 | n => n, fun | 46 => 65 | 51 => 45 | 53 => 83 | 146 => 81 | 148 => 84 | n => n, fun | n => n⟩
theorem mulL : Lays.n212 Tryz.prog mul_ren := {
  mixed := by kernel_rfl,
  f212 := Tryz.func64.trans (congrArg some (by kernel_rfl)),
  f263 := Tryz.func75.trans (congrArg some (by kernel_rfl)),
  f264 := Tryz.func76.trans (congrArg some (by kernel_rfl)),
  t46 := Tryz.underlying65,
  a46 := Tryz.isAgg65,
  z46 := Tryz.sizeOf65,
  v46 := Tryz.zeroValue65,
  t51 := Tryz.underlying45,
  a51 := Tryz.isAgg45,
  z51 := Tryz.sizeOf45,
  v51 := Tryz.zeroValue45,
  t53 := Tryz.underlying83,
  a53 := Tryz.isAgg83,
  z53 := Tryz.sizeOf83,
  v53 := Tryz.zeroValue83,
  t146 := Tryz.underlying81,
  a146 := Tryz.isAgg81,
  z146 := Tryz.sizeOf81,
  v146 := Tryz.zeroValue81,
  t148 := Tryz.underlying84,
  a148 := Tryz.isAgg84,
  z148 := Tryz.sizeOf84,
  v148 := Tryz.zeroValue84 }
theorem mul_any (x y : Nat) (hx : x < 18446744073709551616) (hy : y < 18446744073709551616) (w : World) :
    Calls Tryz.prog 64 #[.int .u64 x, .int .u64 y] w fun e w' => e = .returned (.tuple #[.int .u64 ((x * y / 18446744073709551616 : Nat) : Int), .int .u64 ((x * y % 18446744073709551616 : Nat) : Int)]) ∧ w' = w := Any.bits_Mul mulL x y hx hy w
theorem mul1_any (y : Nat) (hy : y ≤ 16) (w : World) : Calls Tryz.prog 64 #[.int .u64 1, .int .u64 y] w fun e w' => e = .returned (.tuple #[.int .u64 0, .int .u64 y]) ∧ w' = w := by
  refine (mul_any 1 y (by omega) (by omega) w).mono ?_
  rintro e w' ⟨rfl, rfl⟩
  have h1 : 1 * y / 18446744073709551616 = 0 := by omega
  have h2 : 1 * y % 18446744073709551616 = y := by omega
  rw [h1, h2]
  exact ⟨rfl, rfl⟩
end Go.Proofs.YtopakilglnpinaaGreatDoor
