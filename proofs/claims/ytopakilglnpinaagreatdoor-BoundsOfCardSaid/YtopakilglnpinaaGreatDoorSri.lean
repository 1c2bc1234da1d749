
/-
  slices.Sort at []int, laid off the shelf: its contract.
-/
import Derived.Shelf.SortM.Plain
import Derived.Shelf.SortM.SortNone
import Derived.Ground.SlgmProg
import Derived.Test.YtopakilglnpinaaGreatDoorBn4
import Derived.Test.YtopakilglnpinaaGreatDoorProg
namespace Go.Proofs.YtopakilglnpinaaGreatDoor
open Go.Shelf Go.Sort Go.RowKit
set_option linter.unusedVariables false
set_option linter.unusedSimpArgs false

def sortI_ren : Go.Shelf.Ren := ⟨fun | 5 => 83 | 8 => 87 | 7 => 86 | 19 => 96 | 20 => 97 | 10 => 88 | 11 => 89 | 12 => 90 | 13 => 91 | 14 => 92 | 15 => 93 | 16 => 68 | 17 => 94 | 18 => 95 | 30 => 98 | 31 => 99 | 32 => 100 | 33 => 101 | 34 => 102 | 35 => 81 | 40 => 103 | n => n, fun | 23 => 22 | 25 => 3 | 3 => 3 | 32 => 65 | 22 => 22 | 0 => 0 | 44 => 45 | 46 => 83 | 4 => 4 | 36 => 96 | 35 => 95 | 41 => 100 | 5 => 5 | 9 => 9 | 53 => 104 | 57 => 108 | 63 => 110 | 64 => 111 | n => n, fun | n => n⟩
theorem sortI : Go.Proofs.SlLaysM.n5 Tryz.prog sortI_ren := {
  mixed := by kernel_rfl,
  f5 := ⟨Tryz.f83.name, by decide, Tryz.func83.trans (congrArg some (by kernel_rfl))⟩,
  f7 := ⟨Tryz.f86.name, by decide, Tryz.func86.trans (congrArg some (by kernel_rfl))⟩,
  f8 := Tryz.func87.trans (congrArg some (by kernel_rfl)),
  f10 := ⟨Tryz.f88.name, by decide, Tryz.func88.trans (congrArg some (by kernel_rfl))⟩,
  f11 := ⟨Tryz.f89.name, by decide, Tryz.func89.trans (congrArg some (by kernel_rfl))⟩,
  f12 := ⟨Tryz.f90.name, by decide, Tryz.func90.trans (congrArg some (by kernel_rfl))⟩,
  f13 := ⟨Tryz.f91.name, by decide, Tryz.func91.trans (congrArg some (by kernel_rfl))⟩,
  f14 := ⟨Tryz.f92.name, by decide, Tryz.func92.trans (congrArg some (by kernel_rfl))⟩,
  f15 := ⟨Tryz.f93.name, by decide, Tryz.func93.trans (congrArg some (by kernel_rfl))⟩,
  f16 := ⟨Tryz.f68.name, by decide, Tryz.func68.trans (congrArg some (by kernel_rfl))⟩,
  f17 := ⟨Tryz.f94.name, by decide, Tryz.func94.trans (congrArg some (by kernel_rfl))⟩,
  f18 := ⟨Tryz.f95.name, by decide, Tryz.func95.trans (congrArg some (by kernel_rfl))⟩,
  f19 := Tryz.func96.trans (congrArg some (by kernel_rfl)),
  f20 := Tryz.func97.trans (congrArg some (by kernel_rfl)),
  f30 := ⟨Tryz.f98.name, by decide, Tryz.func98.trans (congrArg some (by kernel_rfl))⟩,
  f31 := Tryz.func99.trans (congrArg some (by kernel_rfl)),
  f32 := Tryz.func100.trans (congrArg some (by kernel_rfl)),
  f33 := ⟨Tryz.f101.name, by decide, Tryz.func101.trans (congrArg some (by kernel_rfl))⟩,
  f34 := ⟨Tryz.f102.name, by decide, Tryz.func102.trans (congrArg some (by kernel_rfl))⟩,
  f35 := ⟨Tryz.f81.name, by decide, Tryz.func81.trans (congrArg some (by kernel_rfl))⟩,
  f40 := ⟨Tryz.f103.name, by decide, Tryz.func103.trans (congrArg some (by kernel_rfl))⟩,
  t0 := Tryz.underlying0,
  a0 := Tryz.isAgg0,
  z0 := Tryz.sizeOf0,
  v0 := Tryz.zeroValue0,
  t3 := Tryz.underlying3,
  a3 := Tryz.isAgg3,
  z3 := Tryz.sizeOf3,
  v3 := Tryz.zeroValue3,
  t4 := Tryz.underlying4,
  a4 := Tryz.isAgg4,
  z4 := Tryz.sizeOf4,
  v4 := Tryz.zeroValue4,
  t5 := Tryz.underlying5,
  a5 := Tryz.isAgg5,
  z5 := Tryz.sizeOf5,
  v5 := Tryz.zeroValue5,
  t9 := Tryz.underlying9,
  a9 := Tryz.isAgg9,
  z9 := Tryz.sizeOf9,
  v9 := Tryz.zeroValue9,
  t22 := Tryz.underlying22,
  a22 := Tryz.isAgg22,
  z22 := Tryz.sizeOf22,
  v22 := Tryz.zeroValue22,
  t23 := Tryz.underlying22,
  a23 := Tryz.isAgg22,
  z23 := Tryz.sizeOf22,
  v23 := Tryz.zeroValue22,
  t25 := Tryz.underlying3,
  a25 := Tryz.isAgg3,
  z25 := Tryz.sizeOf3,
  v25 := Tryz.zeroValue3,
  t32 := Tryz.underlying65,
  a32 := Tryz.isAgg65,
  z32 := Tryz.sizeOf65,
  v32 := Tryz.zeroValue65,
  t35 := Tryz.underlying95,
  a35 := Tryz.isAgg95,
  z35 := Tryz.sizeOf95,
  v35 := Tryz.zeroValue95,
  t36 := Tryz.underlying96,
  a36 := Tryz.isAgg96,
  z36 := Tryz.sizeOf96,
  v36 := Tryz.zeroValue96,
  t41 := Tryz.underlying100,
  a41 := Tryz.isAgg100,
  z41 := Tryz.sizeOf100,
  v41 := Tryz.zeroValue100,
  t44 := Tryz.underlying45,
  a44 := Tryz.isAgg45,
  z44 := Tryz.sizeOf45,
  v44 := Tryz.zeroValue45,
  t46 := Tryz.underlying83,
  a46 := Tryz.isAgg83,
  z46 := Tryz.sizeOf83,
  v46 := Tryz.zeroValue83,
  t53 := Tryz.underlying104,
  a53 := Tryz.isAgg104,
  z53 := Tryz.sizeOf104,
  v53 := Tryz.zeroValue104,
  t57 := Tryz.underlying108,
  a57 := Tryz.isAgg108,
  z57 := Tryz.sizeOf108,
  v57 := Tryz.zeroValue108,
  t63 := Tryz.underlying110,
  a63 := Tryz.isAgg110,
  z63 := Tryz.sizeOf110,
  v63 := Tryz.zeroValue110,
  t64 := Tryz.underlying111,
  a64 := Tryz.isAgg111,
  z64 := Tryz.sizeOf111,
  v64 := Tryz.zeroValue111 }
def srt (l : List Int) : List Int := l.mergeSort fun x y => decide (x ≤ y)
theorem srt_perm (l : List Int) : (srt l).Perm l := List.mergeSort_perm _ _
theorem srt_len (l : List Int) : (srt l).length = l.length := (srt_perm l).length_eq
theorem sorti_some (blk off cap : Nat) (zs : List Int) (w : World) (hH : Holds (Value.int .i64) w blk off zs.toArray) (hblk : blk < w.heap.size) (hsz : zs.length < 4611686018427387904) :
    Calls Tryz.prog 83 #[.slice (some ⟨blk, off, none⟩) zs.length cap] w fun e w' => e = .returned (.tuple #[]) ∧ ∃ n os, w' = grow (Go.Sort.putRow (Value.int .i64) (Sort.ahead w n) blk off (srt zs).toArray) os := AnyM.slices_Sort_int sortI blk off cap zs w hH hblk hsz
theorem sorti_none (p : Option Addr) (cap : Nat) (w : World) : Calls Tryz.prog 83 #[.slice p 0 cap] w fun e w' => e = .returned (.tuple #[]) ∧ w' = w := AnyM.slices_Sort_int_none sortI p cap w
end Go.Proofs.YtopakilglnpinaaGreatDoor
