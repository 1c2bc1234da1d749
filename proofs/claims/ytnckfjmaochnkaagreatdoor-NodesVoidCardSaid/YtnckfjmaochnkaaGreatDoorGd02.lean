/-
  Cells, rows and words as lists of one-cell values; the walk's laws at their types.
-/
import Derived.Test.YtnckfjmaochnkaaGreatDoorRows
import Derived.Test.YtnckfjmaochnkaaGreatDoorGd01
namespace Go.Proofs.YtnckfjmaochnkaaGreatDoor
open Go.RowKit
set_option linter.unusedVariables false
set_option linter.unusedSimpArgs false

/-! ### new blocks -/
def zeroIs (P : Program) (t : TypeId) (z : List Value) : Prop := (P.info? t).map (fun i => i.zero.map fun v => v.cells.toList) = some (some z)
theorem run_zero {P : Program} {t : TypeId} {z : List Value} (h : zeroIs P t z) (w : World) : ∃ v, (zeroValue t).run P w = .ok v w ∧ v.cells = z.toArray := by
  unfold zeroIs at h
  cases hi : P.info? t with
  | none => simp [hi] at h
  | some i =>
    cases hz : i.zero with
    | none => simp [hi, hz] at h
    | some v =>
      simp [hi, hz] at h
      exact ⟨v, by simp [zeroValue, typeInfo, hi, hz], by rw [← h]⟩
theorem exec_alloc {P : Program} {t : TypeId} {z : List Value} (hz : zeroIs P t z) (ρ : Operand → Value) (d : Option Tmp) (ty : TypeId) (s : String) (af : Array Edge) (g : Option (Nat × Bool)) (w : World) :
    (execOp ρ { dst := d, op := .alloc t, type := ty, pos := s, after := af, guard := g }).run P w = .ok (.value (.pointer (some ⟨w.heap.size, 0, none⟩))) (w.alloc (.cells z.toArray t)) := by
  obtain ⟨v, h1, h2⟩ := run_zero hz w
  simp [execOp, Instr.alloc, h1, newVar, newRow, h2, newObj, Sem.run]

@[go_sem] theorem canPut_new (w : World) (l : List Value) (t : TypeId) (i n : Nat) : canPut (w.alloc (.cells l.toArray t)) ⟨w.heap.size, i, none⟩ n = decide (i + n ≤ l.length) := by
  unfold canPut
  rw [heap_alloc_new]
  simp
theorem setRow_new (w : World) (a b : Array Value) (t : TypeId) : (w.alloc (.cells a t)).setRow w.heap.size b = w.alloc (.cells b t) := by
  have : ∀ (f : Obj → Obj) (o : Obj), (w.heap.push o).modify w.heap.size f = w.heap.push (f o) := by
    intro f o
    apply Array.ext (by simp)
    intro i h1 h2
    rw [Array.getElem_modify, Array.getElem_push, Array.getElem_push]
    by_cases hi : i < w.heap.size
    · simp only [hi, dif_pos, if_neg (Nat.ne_of_gt hi)]
    · have : w.heap.size = i := by simp at h2; omega
      simp [hi, this]
  show ({ w with heap := (w.heap.push _).modify _ _ } : World) = { w with heap := w.heap.push _ }
  rw [this]
theorem putRow_new_at (w : World) (z l : List Value) (t : TypeId) (i : Nat) : putRow (w.alloc (.cells z.toArray t)) ⟨w.heap.size, i, none⟩ l = w.alloc (.cells (z.take i ++ l ++ z.drop (i + l.length)).toArray t) := by
  unfold putRow
  simp only [heap_alloc_new, setRow_new]
@[go_sem] theorem putRow_new (w : World) (z l : List Value) (t : TypeId) (h : z.length = l.length) : putRow (w.alloc (.cells z.toArray t)) ⟨w.heap.size, 0, none⟩ l = w.alloc (.cells l.toArray t) := by
  rw [putRow_new_at]; simp [← h]
@[go_sem] theorem canPut_alloc (w : World) (o : Obj) (p : Addr) (n : Nat) (h : p.block < w.heap.size) : canPut (w.alloc o) p n = canPut w p n := by
  simp [canPut, Below.heap_alloc w o _ h]
theorem setRow_alloc (w : World) (o : Obj) (g : Nat) (cs : Array Value) (h : g < w.heap.size) : (w.alloc o).setRow g cs = (w.setRow g cs).alloc o := by
  have : ∀ f : Obj → Obj, (w.heap.push o).modify g f = (w.heap.modify g f).push o := by
    intro f
    apply Array.ext (by simp)
    intro i h1 h2
    rw [Array.getElem_modify, Array.getElem_push, Array.getElem_push]
    simp only [Array.size_modify]
    by_cases hi : i < w.heap.size
    · simp only [hi, dif_pos, Array.getElem_modify]
    · simp only [hi, dif_neg, not_false_eq_true]
      rw [if_neg (by omega)]
  show ({ w with heap := (w.heap.push o).modify g _ } : World) = { w with heap := (w.heap.modify g _).push o }
  rw [this]
@[go_sem] theorem putRow_alloc (w : World) (o : Obj) (p : Addr) (l : List Value) (h : p.block < w.heap.size) : putRow (w.alloc o) p l = (putRow w p l).alloc o := by
  unfold putRow
  rw [Below.heap_alloc w o _ h]
  split
  · rw [setRow_alloc _ _ _ _ h]
  · rfl
@[go_sem] theorem canPut_drew (w : World) (p : Addr) (n : Nat) : canPut w.drew p n = canPut w p n := (rfl)
@[go_sem] theorem canPut_drewN (w : World) (k : Nat) (p : Addr) (n : Nat) : canPut (w.drewN k) p n = canPut w p n := (rfl)
@[go_sem] theorem putRow_drew (w : World) (p : Addr) (l : List Value) : putRow w.drew p l = (putRow w p l).drew := by
  have e : w.drew.heap = w.heap := rfl
  unfold putRow; rw [e]; split <;> rfl
@[go_sem] theorem putRow_drewN (w : World) (k : Nat) (p : Addr) (l : List Value) : putRow (w.drewN k) p l = (putRow w p l).drewN k := by
  have e : (w.drewN k).heap = w.heap := rfl
  unfold putRow; rw [e]; split <;> rfl
theorem setRow_block (w : World) (g k : Nat) (cs : Array Value) (h : k ≠ g) : (w.setRow g cs).heap[k]? = w.heap[k]? := setRow_other w g k cs h
theorem putRow_other (w : World) (p : Addr) (l : List Value) (k : Nat) (h : k ≠ p.block) : (putRow w p l).heap[k]? = w.heap[k]? := by
  unfold putRow; split
  · exact setRow_block _ _ _ _ h
  · rfl
@[simp] theorem size_putRow (w : World) (p : Addr) (l : List Value) : (putRow w p l).heap.size = w.heap.size := by
  unfold putRow; split <;> simp
theorem Blk.put {w : World} {g : Nat} {t : TypeId} {z : List Value} (h : Blk w g t z.toArray) (i : Nat) (l : List Value) : Blk (putRow w ⟨g, i, none⟩ l) g t (z.take i ++ l ++ z.drop (i + l.length)).toArray := by
  unfold Blk at h ⊢
  simp only [putRow, h]
  exact setRow_heap w g _ _ t _ h
theorem Chg.put {S : Nat → Prop} {a w : World} (h : Chg S a w) {p : Addr} (hp : S p.block ∨ a.heap.size ≤ p.block) (l : List Value) : Chg S a (putRow w p l) :=
  ⟨by unfold putRow; split <;> exact h.os, by unfold putRow; split <;> exact h.tape, by unfold putRow; split <;> exact h.output, by have := h.size; simp; omega,
   fun k hk hn => (putRow_other _ _ _ _ (by rintro rfl; rcases hp with hp | hp; exact hn hp; omega)).trans (h.block k hk hn)⟩
theorem Below.put {B : Nat} {a w : World} (h : Below B a w) {p : Addr} (hp : B ≤ p.block) (l : List Value) : Below B a (putRow w p l) :=
  h.trans ⟨by unfold putRow; split <;> rfl, by unfold putRow; split <;> rfl, by unfold putRow; split <;> rfl, by simp, fun k hk => putRow_other _ _ _ _ (by omega)⟩

/-- what a known block is good for in a walk -/
theorem Blk.rules {w : World} {g : Nat} {t : TypeId} {l : List Value} (h : Blk w g t l.toArray) :
    (∀ i, w.cell? ⟨g, i, none⟩ = l[i]?) ∧ (∀ i, w.frozen? ⟨g, i, none⟩ = false) ∧ (∀ i n, hasRow w ⟨g, i, none⟩ n = (n == 0 || decide (i + n ≤ l.length))) ∧
    (∀ i n, i + n ≤ l.length → rowOf w ⟨g, i, none⟩ n = (l.drop i).take n) ∧ (∀ i n, canPut w ⟨g, i, none⟩ n = decide (i + n ≤ l.length)) := by
  have hc : ∀ i, w.cell? ⟨g, i, none⟩ = l[i]? := fun i => by rw [h.cell i]; simp
  refine ⟨hc, h.frozen, fun i n => ?_, fun i n hn => ?_, fun i n => ?_⟩
  · by_cases h0 : n = 0
    · subst h0; simp [hasRow]
    · by_cases hin : i + n ≤ l.length
      · rw [show (n == 0 || decide (i + n ≤ l.length)) = true from by simp [hin]]
        rw [hasRow_iff]
        intro j hj
        rw [add_at, hc]
        simp; omega
      · rw [show (n == 0 || decide (i + n ≤ l.length)) = false from by simp [hin, h0]]
        rw [Bool.eq_false_iff]
        intro hh
        have := hasRow_iff.1 hh (n - 1) (by omega)
        rw [add_at, hc] at this
        simp at this
        omega
  · apply List.ext_getElem?
    intro j
    by_cases hj : j < n
    · have hx : i + j < l.length := by omega
      simp [rowOf, hj, add_at, hc, List.getElem?_take, List.getElem?_drop, List.getElem?_eq_getElem hx]
    · rw [List.getElem?_eq_none (by rw [length_rowOf]; omega), List.getElem?_take, if_neg hj]
  · unfold Blk at h
    simp [canPut, h]

/-! ### the cells of api.Cell -/
def saidK : List Kd := [.b, .i .i64, .i .u8, .i .u8, .i .u32, .i .u32]
def viewK : List Kd := [.b, .b, .b, .b, .b, .b, .b, .b] ++ (List.replicate 8 (.i .u8) ++ (List.replicate 8 (.i .u8) ++ (List.replicate 8 (.i .u16) ++ ([.b, .b, .b, .b, .b, .b, .b, .b] ++ [.i .i8, .i .u8]))))
def cellK : List Kd := .i .i64 :: (saidK ++ (saidK ++ viewK))
def heldK : List Kd := .b :: cellK
def saidZ : List Value := [.bool false, .int .i64 0, .int .u8 0, .int .u8 0, .int .u32 0, .int .u32 0]
def viewZ : List Value := List.replicate 8 (.bool false) ++ (List.replicate 8 (.int .u8 0) ++ (List.replicate 8 (.int .u8 0) ++ (List.replicate 8 (.int .u16 0) ++ (List.replicate 8 (.bool false) ++ [.int .i8 0, .int .u8 0]))))
def cellZ : List Value := .int .i64 0 :: (saidZ ++ (saidZ ++ viewZ))
def heldZ : List Value := .bool false :: cellZ
theorem cellZ_ok : okL cellK cellZ = true := by kernel_rfl
theorem heldZ_ok : okL heldK heldZ = true := by kernel_rfl
theorem len_cellK : cellK.length = 55 := by kernel_rfl
theorem len_heldK : heldK.length = 56 := by kernel_rfl
@[go_sem] theorem len_cellZ : cellZ.length = 55 := by kernel_rfl
@[go_sem] theorem len_heldZ : heldZ.length = 56 := by kernel_rfl
theorem okL_held (b : Bool) (c : List Value) : okL heldK (.bool b :: c) = okL cellK c := by simp [heldK, okL, okK]

/-- what is held of a node: is it there, its cell -/
structure Hd where
  is : Bool
  c : List Value
def Hd.vals (h : Hd) : List Value := .bool h.is :: h.c
def Hd.ok (h : Hd) : Prop := okL cellK h.c = true
def hd0 : Hd := ⟨false, cellZ⟩
theorem hd0_ok : hd0.ok := cellZ_ok
theorem hd0_vals : hd0.vals = heldZ := rfl
theorem Hd.ok_len {h : Hd} (hk : h.ok) : h.c.length = 55 := (okL_len hk).trans len_cellK
theorem Hd.vals_len {h : Hd} (hk : h.ok) : h.vals.length = 56 := by simp [Hd.vals, Hd.ok_len hk]
theorem Hd.vals_ok {h : Hd} (hk : h.ok) : okL heldK h.vals = true := by rw [Hd.vals, okL_held]; exact hk
theorem Hd.vals_inj {h h' : Hd} : h.vals = h'.vals ↔ h = h' := by cases h; cases h'; simp [Hd.vals]
theorem cell_age {c : List Value} (h : okL cellK c = true) : ∃ n r, c = .int .i64 n :: r ∧ -9223372036854775808 ≤ n ∧ n ≤ 9223372036854775807 := by
  cases c with
  | nil => simp [cellK, okL] at h
  | cons v r =>
    simp only [cellK, okL, Bool.and_eq_true] at h
    cases v <;> simp [okK] at h
    obtain ⟨⟨rfl, hw⟩, _⟩ := h
    exact ⟨_, r, rfl, by simpa [Lit.wf, IntKind.min, IntKind.max, IntKind.signed, IntKind.bits] using hw⟩
def ageL : List Value → Int
  | .int _ n :: _ => n
  | _ => 0

/-! ### the walk's laws at these types -/
@[go_sem ↓] theorem ld_cell (ρ : Operand → Value) (d : Option Tmp) (x : Operand) (ty : TypeId) (s : String) (af : Array Edge) (g : Option (Nat × Bool)) (w : World) (h : hasRowV w 55 (ρ x) = true) :
    (execOp ρ { dst := d, op := .load 116 x, type := ty, pos := s, after := af, guard := g }).run Tryz.prog w = .ok (.value (.agg (rowV w 55 (ρ x)).toArray)) w := exec_load (by kernel_rfl) ρ d x ty s af g w h
@[go_sem ↓] theorem ld_held (ρ : Operand → Value) (d : Option Tmp) (x : Operand) (ty : TypeId) (s : String) (af : Array Edge) (g : Option (Nat × Bool)) (w : World) (h : hasRowV w 56 (ρ x) = true) :
    (execOp ρ { dst := d, op := .load 152 x, type := ty, pos := s, after := af, guard := g }).run Tryz.prog w = .ok (.value (.agg (rowV w 56 (ρ x)).toArray)) w := exec_load (by kernel_rfl) ρ d x ty s af g w h
@[go_sem ↓] theorem ld_row (ρ : Operand → Value) (d : Option Tmp) (x : Operand) (ty : TypeId) (s : String) (af : Array Edge) (g : Option (Nat × Bool)) (w : World) (h : hasRowV w 57 (ρ x) = true) :
    (execOp ρ { dst := d, op := .load 118 x, type := ty, pos := s, after := af, guard := g }).run Tryz.prog w = .ok (.value (.agg (rowV w 57 (ρ x)).toArray)) w := exec_load (by kernel_rfl) ρ d x ty s af g w h
@[go_sem ↓] theorem st_cell (ρ : Operand → Value) (d : Option Tmp) (x y : Operand) (ty : TypeId) (s : String) (af : Array Edge) (g : Option (Nat × Bool)) (w : World) (h1 : okAgg 55 (ρ y) = true) (h2 : canPutV w 55 (ρ x) = true) :
    (execOp ρ { dst := d, op := .store 116 x y, type := ty, pos := s, after := af, guard := g }).run Tryz.prog w = .ok .skip (putV w (ρ x) (ρ y)) := exec_store (by kernel_rfl) ρ d x y ty s af g w h1 h2
@[go_sem ↓] theorem st_held (ρ : Operand → Value) (d : Option Tmp) (x y : Operand) (ty : TypeId) (s : String) (af : Array Edge) (g : Option (Nat × Bool)) (w : World) (h1 : okAgg 56 (ρ y) = true) (h2 : canPutV w 56 (ρ x) = true) :
    (execOp ρ { dst := d, op := .store 152 x y, type := ty, pos := s, after := af, guard := g }).run Tryz.prog w = .ok .skip (putV w (ρ x) (ρ y)) := exec_store (by kernel_rfl) ρ d x y ty s af g w h1 h2
@[go_sem ↓] theorem st_row (ρ : Operand → Value) (d : Option Tmp) (x y : Operand) (ty : TypeId) (s : String) (af : Array Edge) (g : Option (Nat × Bool)) (w : World) (h1 : okAgg 57 (ρ y) = true) (h2 : canPutV w 57 (ρ x) = true) :
    (execOp ρ { dst := d, op := .store 118 x y, type := ty, pos := s, after := af, guard := g }).run Tryz.prog w = .ok .skip (putV w (ρ x) (ρ y)) := exec_store (by kernel_rfl) ρ d x y ty s af g w h1 h2
@[go_sem ↓] theorem al_cell (ρ : Operand → Value) (d : Option Tmp) (ty : TypeId) (s : String) (af : Array Edge) (g : Option (Nat × Bool)) (w : World) :
    (execOp ρ { dst := d, op := .alloc 116, type := ty, pos := s, after := af, guard := g }).run Tryz.prog w = .ok (.value (.pointer (some ⟨w.heap.size, 0, none⟩))) (w.alloc (.cells cellZ.toArray 116)) := exec_alloc (by unfold zeroIs; kernel_rfl) ρ d ty s af g w
@[go_sem ↓] theorem al_held (ρ : Operand → Value) (d : Option Tmp) (ty : TypeId) (s : String) (af : Array Edge) (g : Option (Nat × Bool)) (w : World) :
    (execOp ρ { dst := d, op := .alloc 152, type := ty, pos := s, after := af, guard := g }).run Tryz.prog w = .ok (.value (.pointer (some ⟨w.heap.size, 0, none⟩))) (w.alloc (.cells heldZ.toArray 152)) := exec_alloc (by unfold zeroIs; kernel_rfl) ρ d ty s af g w
def rowZ : List Value := .bool false :: (cellZ ++ [.slice none 0 0])
@[go_sem] theorem len_rowZ : rowZ.length = 57 := by kernel_rfl
@[go_sem ↓] theorem al_row (ρ : Operand → Value) (d : Option Tmp) (ty : TypeId) (s : String) (af : Array Edge) (g : Option (Nat × Bool)) (w : World) :
    (execOp ρ { dst := d, op := .alloc 118, type := ty, pos := s, after := af, guard := g }).run Tryz.prog w = .ok (.value (.pointer (some ⟨w.heap.size, 0, none⟩))) (w.alloc (.cells rowZ.toArray 118)) := exec_alloc (by unfold zeroIs; kernel_rfl) ρ d ty s af g w
@[go_sem ↓] theorem eq_cell (ρ : Operand → Value) (ds : Option Tmp) (x y : Operand) (t' ty : TypeId) (s : String) (af : Array Edge) (g : Option (Nat × Bool)) (w : World) (h1 : okV cellK (ρ x) = true) (h2 : okV cellK (ρ y) = true) :
    (execOp ρ { dst := ds, op := .binOp .eql 116 x y t', type := ty, pos := s, after := af, guard := g }).run Tryz.prog w = .ok (.value (.bool (eqV (ρ x) (ρ y)))) w := exec_eql (d := 6) (by kernel_rfl) (by omega) (by kernel_rfl) (by kernel_rfl) ρ ds x y t' ty s af g w h1 h2
@[go_sem ↓] theorem ne_cell (ρ : Operand → Value) (ds : Option Tmp) (x y : Operand) (t' ty : TypeId) (s : String) (af : Array Edge) (g : Option (Nat × Bool)) (w : World) (h1 : okV cellK (ρ x) = true) (h2 : okV cellK (ρ y) = true) :
    (execOp ρ { dst := ds, op := .binOp .neq 116 x y t', type := ty, pos := s, after := af, guard := g }).run Tryz.prog w = .ok (.value (.bool (!eqV (ρ x) (ρ y)))) w := exec_neq (d := 6) (by kernel_rfl) (by omega) (by kernel_rfl) (by kernel_rfl) ρ ds x y t' ty s af g w h1 h2
@[go_sem ↓] theorem eq_held (ρ : Operand → Value) (ds : Option Tmp) (x y : Operand) (t' ty : TypeId) (s : String) (af : Array Edge) (g : Option (Nat × Bool)) (w : World) (h1 : okV heldK (ρ x) = true) (h2 : okV heldK (ρ y) = true) :
    (execOp ρ { dst := ds, op := .binOp .eql 152 x y t', type := ty, pos := s, after := af, guard := g }).run Tryz.prog w = .ok (.value (.bool (eqV (ρ x) (ρ y)))) w := exec_eql (d := 6) (by kernel_rfl) (by omega) (by kernel_rfl) (by kernel_rfl) ρ ds x y t' ty s af g w h1 h2
@[go_sem ↓] theorem ne_held (ρ : Operand → Value) (ds : Option Tmp) (x y : Operand) (t' ty : TypeId) (s : String) (af : Array Edge) (g : Option (Nat × Bool)) (w : World) (h1 : okV heldK (ρ x) = true) (h2 : okV heldK (ρ y) = true) :
    (execOp ρ { dst := ds, op := .binOp .neq 152 x y t', type := ty, pos := s, after := af, guard := g }).run Tryz.prog w = .ok (.value (.bool (!eqV (ρ x) (ρ y)))) w := exec_neq (d := 6) (by kernel_rfl) (by omega) (by kernel_rfl) (by kernel_rfl) ρ ds x y t' ty s af g w h1 h2
/-! ### slices of held things -/
/-- A slice that reads as a list of held things, in blocks of S. -/
def RdHs (S : Nat → Prop) (w : World) (a : Option Addr) (len : Nat) (l : List Hd) : Prop :=
  l.length = len ∧ (∀ h ∈ l, h.ok) ∧ ∀ k h, l[k]? = some h → ∃ b off, a = some ⟨b, off, none⟩ ∧ S b ∧ b < w.heap.size ∧ hasRow w ⟨b, off + k * 56, none⟩ 56 = true ∧ rowOf w ⟨b, off + k * 56, none⟩ 56 = h.vals
theorem RdHs.keep {S : Nat → Prop} {w w' : World} {a : Option Addr} {len : Nat} {l : List Hd} (h : RdHs S w a len l) (hs : w.heap.size ≤ w'.heap.size) (hk : ∀ b, S b → b < w.heap.size → w'.heap[b]? = w.heap[b]?) : RdHs S w' a len l :=
  ⟨h.1, h.2.1, fun k x hx => by
    obtain ⟨b, off, e, hS, hb, h1, h2⟩ := h.2.2 k x hx
    have := row_block (n := 56) (p := ⟨b, off + k * 56, none⟩) (hk b hS hb)
    exact ⟨b, off, e, hS, by omega, this.1.trans h1, this.2.trans h2⟩⟩
theorem RdHs.mono {S S' : Nat → Prop} {w : World} {a : Option Addr} {len : Nat} {l : List Hd} (h : RdHs S w a len l) (hs : ∀ b, b < w.heap.size → S b → S' b) : RdHs S' w a len l :=
  ⟨h.1, h.2.1, fun k x hx => by
    obtain ⟨b, off, e, hS, hb, h1, h2⟩ := h.2.2 k x hx
    exact ⟨b, off, e, hs b hb hS, hb, h1, h2⟩⟩
theorem RdHs.below {S : Nat → Prop} {w w' : World} {B : Nat} {a : Option Addr} {len : Nat} {l : List Hd} (h : RdHs S w a len l) (hb : Below B w w') (hB : ∀ b, S b → b < w.heap.size → b < B) : RdHs S w' a len l :=
  h.keep hb.size fun b hS hlt => hb.block b (hB b hS hlt)
theorem RdHs.chg {S S' : Nat → Prop} {w w' : World} {a : Option Addr} {len : Nat} {l : List Hd} (h : RdHs S w a len l) (hc : Chg S' w w') (hd : ∀ b, b < w.heap.size → S b → ¬ S' b) : RdHs S w' a len l :=
  h.keep hc.size fun b hS hlt => hc.block b hlt (hd b hlt hS)
/-- what a walk needs of place k -/
theorem RdHs.at_ {S : Nat → Prop} {w : World} {a : Option Addr} {len : Nat} {l : List Hd} (h : RdHs S w a len l) (k : Nat) (hk : k < len) :
    ∃ b off is n r, a = some ⟨b, off, none⟩ ∧ S b ∧ b < w.heap.size ∧ l[k]? = some ⟨is, .int .i64 n :: r⟩ ∧ okL cellK (.int .i64 n :: r) = true ∧ r.length = 54 ∧ r.all cell1 = true ∧
      hasRow w ⟨b, off + k * 56, none⟩ 56 = true ∧ rowOf w ⟨b, off + k * 56, none⟩ 56 = .bool is :: .int .i64 n :: r ∧
      hasRow w ⟨b, off + k * 56 + 1, none⟩ 55 = true ∧ rowOf w ⟨b, off + k * 56 + 1, none⟩ 55 = .int .i64 n :: r ∧
      w.cell? ⟨b, off + k * 56, none⟩ = some (.bool is) ∧ w.cell? ⟨b, off + k * 56 + 1, none⟩ = some (.int .i64 n) ∧ -9223372036854775808 ≤ n ∧ n ≤ 9223372036854775807 := by
  obtain ⟨h1, h2, h3⟩ := h
  have hv : l[k]? = some (l[k]'(by omega)) := List.getElem?_eq_getElem _
  obtain ⟨b, off, e, hS, hb, hr1, hr2⟩ := h3 k _ hv
  have ho := h2 _ (List.mem_of_getElem? hv)
  generalize l[k]'(by omega) = x at hv hr2 ho
  obtain ⟨is, c⟩ := x
  obtain ⟨n, r, hc, hn1, hn2⟩ := cell_age ho
  simp only at hc
  subst hc
  have hlen := Hd.ok_len ho
  simp only [List.length_cons] at hlen
  have hp := row_part hr1 hr2 1 55 (by omega)
  refine ⟨b, off, is, n, r, e, hS, hb, hv, ho, by omega, by simpa [cell1] using okL_cell1 ho, hr1, hr2, hp.1, ?_, ?_, ?_, hn1, hn2⟩
  · rw [hp.2]; simp [Hd.vals, List.take_of_length_le, hlen]
  · have := row_cell hr1 hr2 0 (by omega)
    simpa [Hd.vals] using this
  · have := row_cell hr1 hr2 1 (by omega)
    simpa [Hd.vals] using this
end Go.Proofs.YtnckfjmaochnkaaGreatDoor
