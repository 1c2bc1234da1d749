
/-
  Slices that are made whole; blocks that hold a list of held things.
-/
import Derived.Test.YtopakilglnpinaaGreatDoorBld
namespace Go.Proofs.YtopakilglnpinaaGreatDoor
open Go.RowKit
set_option linter.unusedVariables false
set_option linter.unusedSimpArgs false

/-! ### make([]T, n) -/
def lenV : Value → Nat
  | .int _ n => n.toNat
  | _ => 0
@[go_sem] theorem lenV_nat (k : IntKind) (n : Nat) : lenV (.int k (n : Int)) = n := by simp [lenV]
def madeOk : Value → Value → Bool
  | .int .i64 n, .int .i64 m => decide (n = m) && decide (0 ≤ n) && decide (n ≤ 1048576)
  | _, _ => false
@[go_sem] theorem madeOk_nat (n : Nat) : madeOk (.int .i64 (n : Int)) (.int .i64 (n : Int)) = decide (n ≤ 1048576) := by
  simp [madeOk]; omega
def zrep (z : List Value) (n : Nat) : List Value := (List.replicate n z).flatten
theorem len_zrep (z : List Value) (n : Nat) : (zrep z n).length = n * z.length := by simp [zrep]
theorem zrep_at {z : List Value} (hz : 0 < z.length) : ∀ (n j : Nat), j < n * z.length → (zrep z n)[j]? = z[j % z.length]?
  | 0, j, h => by simp at h
  | n + 1, j, h => by
    rw [zrep, List.replicate_succ, List.flatten_cons]
    by_cases hj : j < z.length
    · rw [List.getElem?_append_left hj, Nat.mod_eq_of_lt hj]
    · rw [List.getElem?_append_right (by omega)]
      have hs : (n + 1) * z.length = n * z.length + z.length := Nat.succ_mul _ _
      have h1 := zrep_at hz n (j - z.length) (by omega)
      rw [zrep] at h1
      rw [h1]
      rw [← Nat.mod_eq_sub_mod (by omega)]
def MakeOk (P : Program) (t e : TypeId) (z : List Value) : Prop :=
  P.underlying t = some (.slice e) ∧ (P.info? e).map (fun i => (i.size, decide (i.bytes ≤ 65536), i.zero.map fun v => v.cells.toList)) = some (z.length, true, some z) ∧ 0 < z.length
theorem exec_make {P : Program} {t e : TypeId} {z : List Value} (hM : MakeOk P t e z) (ρ : Operand → Value) (d : Option Tmp) (x y : Operand) (ty : TypeId) (s : String) (af : Array Edge) (g : Option (Nat × Bool)) (w : World)
    (h : madeOk (ρ x) (ρ y) = true) : (execOp ρ { dst := d, op := .makeSlice t x y, type := ty, pos := s, after := af, guard := g }).run P w =
      .ok (.value (.slice (some ⟨w.heap.size, 0, none⟩) (lenV (ρ x)) (lenV (ρ x)))) (w.alloc (.cells (zrep z (lenV (ρ x))).toArray e)) := by
  obtain ⟨ht, hi, hz⟩ := hM
  generalize hx : ρ x = vx at h ⊢
  generalize hy : ρ y = vy at h
  unfold madeOk at h
  split at h
  · rename_i n m
    simp only [Bool.and_eq_true, decide_eq_true_eq] at h
    obtain ⟨⟨rfl, h0⟩, h1⟩ := h
    cases hie : P.info? e with
    | none => simp [hie] at hi
    | some i =>
      simp only [hie, Option.map_some, Option.some.injEq, Prod.mk.injEq, decide_eq_true_eq] at hi
      obtain ⟨hs, hb, hzz⟩ := hi
      cases hzv : i.zero with
      | none => simp [hzv] at hzz
      | some v =>
        simp [hzv] at hzz
        obtain ⟨N, rfl⟩ : ∃ N : Nat, n = N := ⟨n.toNat, by omega⟩
        have hbn : i.bytes * N ≤ 65536 * 1048576 := Nat.mul_le_mul hb (by omega)
        have hbz : (i.bytes : Int) * (N : Int) ≤ 281474976710656 := by
          have : ((i.bytes * N : Nat) : Int) ≤ 65536 * 1048576 := by omega
          rw [Int.natCast_mul] at this
          omega
        have hvs : v.cells.size = z.length := by rw [← hzz]; simp
        have harr : madeCells v.cells ((N : Int).toNat * i.size) = (zrep z N).toArray := by
          rw [Int.toNat_natCast, hs]
          apply Array.ext'
          apply List.ext_getElem?
          intro j
          by_cases hj : j < N * z.length
          · have hm : j % z.length < v.cells.size := by rw [hvs]; exact Nat.mod_lt _ hz
            have e1 : (zrep z N)[j]? = v.cells[j % z.length]? := by rw [zrep_at hz N j hj, ← hzz]; simp
            rw [show (zrep z N).toArray.toList = zrep z N from rfl, e1]
            simp only [madeCells, Array.toList_map, List.getElem?_map, Array.toList_range, List.getElem?_range hj, Option.map_some, hvs]
            rw [getElem!_pos v.cells _ hm, Array.getElem?_eq_getElem hm]
          · have e1 : (zrep z N)[j]? = none := List.getElem?_eq_none (by rw [len_zrep]; omega)
            rw [show (zrep z N).toArray.toList = zrep z N from rfl, e1]
            simp [madeCells]; omega
        have := run_make (P := P) w t e i v ht hie hzv .i64 .i64 N N (by omega) (by omega) hbz (by omega)
        rw [harr] at this
        simp [execOp, hx, hy, this, lenV]
  · cases h

/-! ### at these types -/
/-! ### blocks that hold a list of held things -/
def flatH (l : List Hd) : List Value := l.flatMap Hd.vals
theorem flatH_rep (n : Nat) : zrep heldZ n = flatH (List.replicate n hd0) := by
  induction n with
  | zero => rfl
  | succ n ih => rw [zrep, List.replicate_succ, List.flatten_cons, List.replicate_succ, flatH, List.flatMap_cons, hd0_vals, ← zrep, ih, flatH]
theorem len_flatH {l : List Hd} (h : ∀ x ∈ l, x.ok) : (flatH l).length = l.length * 56 := by
  unfold flatH
  induction l with
  | nil => rfl
  | cons x l ih =>
    rw [List.flatMap_cons, List.length_append, Hd.vals_len (h x (by simp)), ih (fun y hy => h y (by simp [hy])), List.length_cons, Nat.succ_mul, Nat.add_comm]
theorem flatH_at {l : List Hd} (h : ∀ x ∈ l, x.ok) {k j : Nat} {x : Hd} (hk : l[k]? = some x) (hj : j < 56) : (flatH l)[k * 56 + j]? = x.vals[j]? := by
  unfold flatH
  induction l generalizing k with
  | nil => simp at hk
  | cons y l ih =>
    have hy := Hd.vals_len (h y (by simp))
    rw [List.flatMap_cons]
    cases k with
    | zero =>
      simp at hk
      subst hk
      rw [List.getElem?_append_left (by omega)]
      congr 1; omega
    | succ k =>
      rw [List.getElem?_append_right (by omega), hy, show (k + 1) * 56 + j - 56 = k * 56 + j from by omega]
      exact ih (fun z hz => h z (by simp [hz])) (by simpa using hk)
theorem flatH_append (l l' : List Hd) : flatH (l ++ l') = flatH l ++ flatH l' := by simp [flatH]
theorem flatH_set {l : List Hd} (h : ∀ x ∈ l, x.ok) {k : Nat} (hk : k < l.length) (x : Hd) (hx : x.ok) : spl (flatH l) (k * 56) x.vals = flatH (l.set k x) := by
  induction l generalizing k with
  | nil => simp at hk
  | cons y l ih =>
    have hy := Hd.vals_len (h y (by simp))
    have hxl := Hd.vals_len hx
    cases k with
    | zero =>
      simp only [Nat.zero_mul, List.set_cons_zero, flatH, List.flatMap_cons, spl, List.take_zero, List.nil_append, Nat.zero_add, hxl]
      rw [← hy, List.drop_left]
    | succ k =>
      have := ih (fun z hz => h z (by simp [hz])) (k := k) (by simpa using hk)
      simp only [List.set_cons_succ, flatH, List.flatMap_cons] at this ⊢
      rw [← this]
      unfold spl
      rw [show (k + 1) * 56 = y.vals.length + k * 56 from by omega, List.take_append, List.drop_append]
      simp [Nat.add_sub_cancel_left, List.take_of_length_le (show y.vals.length ≤ y.vals.length + k * 56 by omega), Nat.add_assoc]
theorem ok_set {l : List Hd} (h : ∀ x ∈ l, x.ok) (k : Nat) {x : Hd} (hx : x.ok) : ∀ y ∈ l.set k x, y.ok := fun y hy => by
  rcases List.mem_or_eq_of_mem_set hy with hy | hy
  · exact h y hy
  · rw [hy]; exact hx
theorem RdHs.of_blk {w : World} {g : Nat} {t : TypeId} {l : List Hd} {r : List Value} (hb : Blk w g t (flatH l ++ r).toArray) (h : ∀ x ∈ l, x.ok) : RdHs (· = g) w (some ⟨g, 0, none⟩) l.length l := by
  refine ⟨rfl, h, fun k x hx => ⟨g, 0, rfl, rfl, hb.lt, ?_⟩⟩
  have hk : k < l.length := (List.getElem?_eq_some_iff.1 hx).1
  have hxl := Hd.vals_len (h x (List.mem_of_getElem? hx))
  have h2 := row_of_cells (w := w) (p := ⟨g, 0 + k * 56, none⟩) (l := x.vals) (fun j v hv => by
    have hj : j < 56 := by rw [← hxl]; exact (List.getElem?_eq_some_iff.1 hv).1
    rw [add_at, hb.cell]
    have hlt : 0 + k * 56 + j < (flatH l).length := by
      rw [len_flatH h]
      have : (k + 1) * 56 ≤ l.length * 56 := Nat.mul_le_mul_right _ (by omega)
      omega
    simp only [List.getElem?_toArray]
    rw [List.getElem?_append_left hlt, show 0 + k * 56 + j = k * 56 + j from by omega, flatH_at h hx hj, hv])
  rwa [hxl] at h2
end Go.Proofs.YtopakilglnpinaaGreatDoor
