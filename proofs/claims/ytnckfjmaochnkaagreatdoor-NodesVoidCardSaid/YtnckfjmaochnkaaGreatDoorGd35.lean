/-
  math/bits.Mul, laid. slices.Repeat of one int.
-/
import Derived.Shelf.Bits.Mul64
import Derived.Test.YtnckfjmaochnkaaGreatDoorGd34
import Derived.Laws.CopyOwn
import Derived.Laws.IdiomCopy
import Derived.Deep.RegionHeld3
import Derived.Test.YtnckfjmaochnkaaGreatDoorGd32
namespace Go.Proofs.YtnckfjmaochnkaaGreatDoor
open Go.Shelf Go.RowKit
set_option linter.unusedVariables false
set_option linter.unusedSimpArgs false

def mul_ren : Go.Shelf.Ren := ⟨fun | 212 => 132 | 263 => 182 | 264 => 183 | n => n, fun | 46 => 221 | 51 => 38 | 53 => 293 | 146 => 336 | 148 => 338 | n => n, fun | n => n⟩
theorem mulL : Lays.n212 Tryz.prog mul_ren := {
  mixed := by kernel_rfl,
  f212 := Tryz.func132.trans (congrArg some (by kernel_rfl)),
  f263 := Tryz.func182.trans (congrArg some (by kernel_rfl)),
  f264 := Tryz.func183.trans (congrArg some (by kernel_rfl)),
  t46 := Tryz.underlying221,
  a46 := Tryz.isAgg221,
  z46 := Tryz.sizeOf221,
  v46 := Tryz.zeroValue221,
  t51 := Tryz.underlying38,
  a51 := Tryz.isAgg38,
  z51 := Tryz.sizeOf38,
  v51 := Tryz.zeroValue38,
  t53 := Tryz.underlying293,
  a53 := Tryz.isAgg293,
  z53 := Tryz.sizeOf293,
  v53 := Tryz.zeroValue293,
  t146 := Tryz.underlying336,
  a146 := Tryz.isAgg336,
  z146 := Tryz.sizeOf336,
  v146 := Tryz.zeroValue336,
  t148 := Tryz.underlying338,
  a148 := Tryz.isAgg338,
  z148 := Tryz.sizeOf338,
  v148 := Tryz.zeroValue338 }
theorem mul_any (x y : Nat) (hx : x < 18446744073709551616) (hy : y < 18446744073709551616) (w : World) :
    Calls Tryz.prog 132 #[.int .u64 x, .int .u64 y] w fun e w' => e = .returned (.tuple #[.int .u64 ((x * y / 18446744073709551616 : Nat) : Int), .int .u64 ((x * y % 18446744073709551616 : Nat) : Int)]) ∧ w' = w := Any.bits_Mul mulL x y hx hy w
theorem mul1_any (y : Nat) (hy : y ≤ 16) (w : World) : Calls Tryz.prog 132 #[.int .u64 1, .int .u64 y] w fun e w' => e = .returned (.tuple #[.int .u64 0, .int .u64 y]) ∧ w' = w := by
  refine (mul_any 1 y (by omega) (by omega) w).mono ?_
  rintro e w' ⟨rfl, rfl⟩
  have h1 : 1 * y / 18446744073709551616 = 0 := by omega
  have h2 : 1 * y % 18446744073709551616 = y := by omega
  rw [h1, h2]
  exact ⟨rfl, rfl⟩
end Go.Proofs.YtnckfjmaochnkaaGreatDoor
namespace Go.Proofs.YtnckfjmaochnkaaGreatDoor
open Go.RowKit
set_option linter.unusedVariables false
set_option linter.unusedSimpArgs false

theorem mk_intB : MakeOk Tryz.prog 23 3 [.int .i64 0] := ⟨Tryz.underlying23, by kernel_rfl, by decide⟩
@[go_sem ↓] theorem ms_intB (ρ : Operand → Value) (d : Option Tmp) (x y : Operand) (ty : TypeId) (s : String) (af : Array Edge) (g : Option (Nat × Bool)) (w : World) (h : madeOk (ρ x) (ρ y) = true) :
    (execOp ρ { dst := d, op := .makeSlice 23 x y, type := ty, pos := s, after := af, guard := g }).run Tryz.prog w =
      .ok (.value (.slice (some ⟨w.heap.size, 0, none⟩) (lenV (ρ x)) (lenV (ρ x)))) (w.alloc (.cells (zrep [.int .i64 0] (lenV (ρ x))).toArray 3)) := exec_make mk_intB ρ d x y ty s af g w h
/-- k times x, then zeros, N in all -/
def fillL (N k : Nat) (x : Int) : List Value := List.replicate k (.int .i64 x) ++ List.replicate (N - k) (.int .i64 0)
theorem fillL_len {N k : Nat} {x : Int} (h : k ≤ N) : (fillL N k x).length = N := by simp [fillL]; omega
theorem fillL_more {N k m : Nat} {x : Int} (h : k + m ≤ N) : (fillL N k x).take k ++ (List.replicate m (Value.int .i64 x) ++ (fillL N k x).drop (k + m)) = fillL N (k + m) x := by
  simp only [fillL]
  rw [List.take_left' (by simp), ← List.append_assoc, List.replicate_append_replicate, List.drop_append, List.drop_eq_nil_of_le (by simp), List.nil_append, List.drop_replicate]
  congr 2
  simp
  omega
theorem zrep0 (N : Nat) (x : Int) : zrep [.int .i64 0] N = fillL N 0 x := by
  simp [fillL, zrep, List.flatMap_singleton']
/-- Repeat's slice: a block of its own, whole -/
def RepP (N : Nat) (x : Int) (w : World) (e : Ending) (w' : World) : Prop := e = .returned (.slice (some ⟨w.heap.size, 0, none⟩) N N) ∧ Blk w' w.heap.size 3 (ints (List.replicate N x)).toArray ∧ Below w.heap.size w w'
set_option maxRecDepth 100000 in
set_option maxHeartbeats 2000000 in
theorem repeat_any (bb : Nat) (x : Int) (N : Nat) (h4 : 4 ≤ N) (h16 : N ≤ 16) (w : World) (hbb : bb < w.heap.size) (hc : w.cell? ⟨bb, 0, none⟩ = some (.int .i64 x)) :
    Calls Tryz.prog 72 #[.slice (some ⟨bb, 0, none⟩) 1 1, .int .i64 N] w (RepP N x w) := by
  have HM := Lib.hid (mul1_any N h16 w)
  have h0 : (0 : Int) ≤ N := by omega
  have hb9 : decide ((9223372036854775807 : Int) < N) = false := by simp; omega
  have hmk : madeOk (.int .i64 (N : Int)) (.int .i64 (N : Int)) = true := by simp [madeOk]; omega
  have hln : lenV (.int .i64 (N : Int)) = N := by simp [lenV]
  have hi : IntKind.i64.wrap (N : Int) = N := IntWalk.i64_in _ (by omega)
  have hB : Below w.heap.size w (w.alloc (.cells (zrep [.int .i64 0] N).toArray 3)) := (Below.refl _ _).alloc (Nat.le_refl _) _
  have hK : Blk (w.alloc (.cells (zrep [.int .i64 0] N).toArray 3)) w.heap.size 3 (fillL N 0 x).toArray := by rw [zrep0 N x]; exact Blk.new _ _ _
  have hc1 := (hB.cell (p := ⟨bb, 0, none⟩) hbb).trans hc
  have HK := Lib.hid (And.intro hB (And.intro hK hc1))
  clear hB hK hc1
  go_enter Tryz.func72, Tryz.ntmps72
  go_upto_region 4 with fail
  (with_reducible refine HM.out.mono ?_)
  rintro e w' ⟨rfl, rfl⟩
  go_upto_region 7 with fail
  generalize w'.alloc (.cells (zrep [.int .i64 0] N).toArray 3) = w0 at HK ⊢
  have hcp : ∃ w1, (Builtin.copy_ #[23, 23] 3 #[.slice (some ⟨w'.heap.size, 0, none⟩) N N, .slice (some ⟨bb, 0, none⟩) 1 1]).run Tryz.prog w0 = .ok (.int .i64 1) w1 ∧ Hid (Below w'.heap.size w' w1 ∧ Blk w1 w'.heap.size 3 (fillL N 1 x).toArray) := by
    have h := run_copy_row (P := Tryz.prog) w0 23 23 3 3 w'.heap.size 0 N N ⟨bb, 0, none⟩ 1 1 _ 3 [.int .i64 x] Tryz.underlying23 (by kernel_rfl) HK.out.2.1 (Nat.min_eq_left (show 1 ≤ N by omega)).symm (by intro j v hv; match j, hv with | 0, hv => { simp at hv; subst hv; exact HK.out.2.2 } | j + 1, hv => { simp at hv }) (by simp only [List.length_cons, List.length_nil, List.size_toArray, fillL_len (Nat.zero_le N)]; omega) (by simp [Value.oneCell'])
    refine ⟨_, h, Lib.hid ⟨below_setRow HK.out.1 (Nat.le_refl _) _, ?_⟩⟩
    have h2 := setRow_heap w0 w'.heap.size _ ((fillL N 0 x).toArray.toList.take 0 ++ [Value.int .i64 x] ++ (fillL N 0 x).toArray.toList.drop (0 + [Value.int .i64 x].length)).toArray 3 _ HK.out.2.1
    have h3 := fillL_more (N := N) (k := 0) (m := 1) (x := x) (by omega)
    refine h2.trans ?_
    simp only [List.append_assoc]
    rw [show [Value.int .i64 x] = List.replicate 1 (Value.int .i64 x) from rfl, List.length_replicate, h3]
  obtain ⟨w1, hcp, HW⟩ := hcp
  clear HK
  go_wp2_with fail
  go_loopw [8] (fun i wr => ∃ k : Nat, 1 ≤ k ∧ k ≤ N ∧ i = .int .i64 k ∧ Hid (Below w'.heap.size w' wr ∧ Blk wr w'.heap.size 3 (fillL N k x).toArray)) (fun i _ => N - (intOf i).toNat)
  case atStart => exact ⟨1, by omega, by omega, rfl, HW⟩
  case round =>
    obtain ⟨k, hk1, hk, rfl, HR⟩ := hrel
    clear hcp HW
    by_cases hlt : k < N
    · have hlt' : (k : Int) < N := by omega
      have hk0 : (0 : Int) ≤ k := by omega
      have hkN : (k : Int) ≤ N := by omega
      have hkl : IntKind.i64.wrap (k : Int) = k := IntWalk.i64_in _ (by omega)
      go_upto_region 9 with fail
      have hif : (if N = k then some (⟨w'.heap.size, 0, none⟩ : Addr) else some ⟨w'.heap.size, k, none⟩) = some ⟨w'.heap.size, k, none⟩ := if_neg (by omega)
      obtain ⟨m, hm⟩ : ∃ m, Hid (m = Nat.min k (N - k)) := ⟨_, Lib.hid rfl⟩
      have hcp : ∃ w1, (Builtin.copy_ #[23, 23] 3 #[.slice (some ⟨w'.heap.size, k, none⟩) (N - k) (N - k), .slice (some ⟨w'.heap.size, 0, none⟩) k N]).run Tryz.prog wr.drew = .ok (.int .i64 m) w1 ∧ Hid (Below w'.heap.size w' w1 ∧ Blk w1 w'.heap.size 3 (fillL N (k + m) x).toArray) := by
        have hmk2 : m ≤ k := by rw [hm.out]; exact Nat.min_le_left _ _
        have hmn : m ≤ N - k := by rw [hm.out]; exact Nat.min_le_right _ _
        have hd : Blk wr.drew w'.heap.size 3 (fillL N k x).toArray := HR.out.2
        have h := run_copy_row (P := Tryz.prog) wr.drew 23 23 3 3 w'.heap.size k (N - k) (N - k) ⟨w'.heap.size, 0, none⟩ k N _ 3 (List.replicate m (Value.int .i64 x)) Tryz.underlying23 (by kernel_rfl) hd (by rw [List.length_replicate, hm.out]) (by
          intro j v hv
          obtain ⟨hj, rfl⟩ := List.getElem?_eq_some_iff.1 hv
          have hj2 : j < m := by simpa using hj
          rw [add_at, Nat.zero_add, hd.cell j]
          simp only [fillL, List.getElem?_toArray, List.getElem_replicate]
          rw [List.getElem?_append_left (by simp; omega), List.getElem?_replicate, if_pos (by omega)]) (by rw [List.length_replicate, List.size_toArray, fillL_len hk]; omega) (by intro v hv; rw [List.eq_of_mem_replicate hv]; rfl)
        rw [List.length_replicate] at h
        refine ⟨_, h, Lib.hid ⟨below_setRow HR.out.1.drew (Nat.le_refl _) _, ?_⟩⟩
        have h2 := setRow_heap wr.drew w'.heap.size _ ((fillL N k x).toArray.toList.take k ++ List.replicate m (Value.int .i64 x) ++ (fillL N k x).toArray.toList.drop (k + m)).toArray 3 _ hd
        refine h2.trans ?_
        have h3 := fillL_more (N := N) (k := k) (m := m) (x := x) (by omega)
        simp only [List.append_assoc]
        rw [h3]
      obtain ⟨w1, hcp, HW1⟩ := hcp
      have hkm : IntKind.i64.wrap ((k : Int) + m) = ((k + m : Nat) : Int) := by
        have hmk2 : m ≤ k := by rw [hm.out]; exact Nat.min_le_left _ _
        rw [IntWalk.i64_in _ (by omega)]
        omega
      have hmp : 1 ≤ m ∧ k + m ≤ N := by
        have h1 := hm.out
        have h2 : Nat.min k (N - k) ≤ N - k := Nat.min_le_right _ _
        have h3 : Nat.min k (N - k) = k ∨ Nat.min k (N - k) = N - k := by rcases Nat.le_total k (N - k) with hh | hh; exact .inl (Nat.min_eq_left hh); exact .inr (Nat.min_eq_right hh)
        omega
      have HMP := Lib.hid hmp
      clear hmp
      go_region_held3 (fun w'' => True)
        (trivial)
        (fail)
      go_wp2_with fail
      go_roundw
      case rel => exact ⟨k + m, by have := HMP.out; omega, HMP.out.2, by simp, HW1⟩
      case measure => have := HMP.out; simp [intOf]; omega
    · obtain rfl : k = N := by omega
      go_wp2_with fail
      go_ret
      have hf : fillL k k x = ints (List.replicate k x) := by simp [fillL, ints]
      exact ⟨rfl, by rw [← hf]; exact HR.out.2, HR.out.1⟩
end Go.Proofs.YtnckfjmaochnkaaGreatDoor
