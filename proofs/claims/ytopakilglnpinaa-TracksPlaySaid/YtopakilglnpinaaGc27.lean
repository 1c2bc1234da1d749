/-
  A table whole: appended onto a slice of the call's own; made with room.
-/
import Derived.Test.YtopakilglnpinaaGc11
namespace Go.Proofs.Ytopakilglnpinaa
open Go.RowKit
set_option linter.unusedVariables false
set_option linter.unusedSimpArgs false

/-- make with room -/
def roomOk : Value → Value → Bool
  | .int .i64 n, .int .i64 m => decide (n = 0) && decide (0 ≤ m) && decide (m ≤ 1048576)
  | _, _ => false
@[go_sem] theorem roomOk_nat (n : Nat) : roomOk (.int .i64 0) (.int .i64 (n : Int)) = decide (n ≤ 1048576) := by
  simp [roomOk]; omega
theorem exec_room {P : Program} {t e : TypeId} {z : List Value} (hM : MakeOk P t e z) (ρ : Operand → Value) (d : Option Tmp) (x y : Operand) (ty : TypeId) (s : String) (af : Array Edge) (g : Option (Nat × Bool)) (w : World)
    (h : roomOk (ρ x) (ρ y) = true) : (execOp ρ { dst := d, op := .makeSlice t x y, type := ty, pos := s, after := af, guard := g }).run P w =
      .ok (.value (.slice (some ⟨w.heap.size, 0, none⟩) 0 (lenV (ρ y)))) (w.alloc (.cells (zrep z (lenV (ρ y))).toArray e)) := by
  obtain ⟨ht, hi, hz⟩ := hM
  generalize hx : ρ x = vx at h ⊢
  generalize hy : ρ y = vy at h
  unfold roomOk at h
  split at h
  · rename_i n m
    simp only [Bool.and_eq_true, decide_eq_true_eq] at h
    obtain ⟨⟨rfl, h0⟩, h1⟩ := h
    cases hie : P.info? e with
    | none => simp [hie] at hi
    | some i =>
      simp only [hie, Option.map_some, Option.some.injEq, Prod.mk.injEq, decide_eq_true_eq] at hi
      obtain ⟨hs, hb, hzz⟩ := hi
      cases hzv : i.zero with
      | none => simp [hzv] at hzz
      | some v =>
        simp [hzv] at hzz
        obtain ⟨N, rfl⟩ : ∃ N : Nat, m = N := ⟨m.toNat, by omega⟩
        have hbn : i.bytes * N ≤ 65536 * 1048576 := Nat.mul_le_mul hb (by omega)
        have hbz : (i.bytes : Int) * (N : Int) ≤ 281474976710656 := by
          have : ((i.bytes * N : Nat) : Int) ≤ 65536 * 1048576 := by omega
          rw [Int.natCast_mul] at this
          omega
        have hvs : v.cells.size = z.length := by rw [← hzz]; simp
        have harr : madeCells v.cells ((N : Int).toNat * i.size) = (zrep z N).toArray := by
          rw [Int.toNat_natCast, hs]
          apply Array.ext'
          apply List.ext_getElem?
          intro j
          by_cases hj : j < N * z.length
          · have hm : j % z.length < v.cells.size := by rw [hvs]; exact Nat.mod_lt _ hz
            have e1 : (zrep z N)[j]? = v.cells[j % z.length]? := by rw [zrep_at hz N j hj, ← hzz]; simp
            rw [show (zrep z N).toArray.toList = zrep z N from rfl, e1]
            simp only [madeCells, Array.toList_map, List.getElem?_map, Array.toList_range, List.getElem?_range hj, Option.map_some, hvs]
            rw [getElem!_pos v.cells _ hm, Array.getElem?_eq_getElem hm]
          · have e1 : (zrep z N)[j]? = none := List.getElem?_eq_none (by rw [len_zrep]; omega)
            rw [show (zrep z N).toArray.toList = zrep z N from rfl, e1]
            simp [madeCells]; omega
        have := run_make (P := P) w t e i v ht hie hzv .i64 .i64 0 N (by omega) (by omega) hbz (by omega)
        rw [harr] at this
        simp [execOp, hx, hy, this, lenV]
  · cases h
@[go_sem ↓] theorem ms_room (ρ : Operand → Value) (d : Option Tmp) (x y : Operand) (ty : TypeId) (s : String) (af : Array Edge) (g : Option (Nat × Bool)) (w : World) (h : roomOk (ρ x) (ρ y) = true) :
    (execOp ρ { dst := d, op := .makeSlice 52 x y, type := ty, pos := s, after := af, guard := g }).run Try.prog w =
      .ok (.value (.slice (some ⟨w.heap.size, 0, none⟩) 0 (lenV (ρ y)))) (w.alloc (.cells (zrep heldZ (lenV (ρ y))).toArray 90)) := exec_room mk_held ρ d x y ty s af g w h
@[go_sem ↓] theorem bs_held2 (ρ : Operand → Value) (d : Option Tmp) (x y : Operand) (ty : TypeId) (s : String) (af : Array Edge) (g : Option (Nat × Bool)) (w : World) (h : lenC (ρ x) 56 = true) (h' : lenC (ρ y) 56 = true) :
    (execOp ρ { dst := d, op := .buildSlice 52 2 #[(0, x), (1, y)], type := ty, pos := s, after := af, guard := g }).run Try.prog w = .ok (.value (.slice (some ⟨w.heap.size, 0, none⟩) 2 2)) (w.alloc (.cells (cellsL (ρ x) ++ cellsL (ρ y)).toArray 90)) := by
  have := exec_bslice (n := 56) Try.underlying52 (by kernel_rfl) ρ d 2 [x, y] #[(0, x), (1, y)] ty s af g w (by simp [iparts]) rfl (by omega) (by omega) (by simp [h, h'])
  simpa using this
end Go.Proofs.Ytopakilglnpinaa
