
/-
  Memory by rows of cells: values of many cells (structs, arrays) are read, stored, made and compared as lists. Laws over any program.
-/
import Derived.Test.YtopakilglnpinaaGreatDoorB
import Derived.WalkKit
namespace Go.Proofs.YtopakilglnpinaaGreatDoor
open Go.RowKit
set_option linter.unusedVariables false
set_option linter.unusedSimpArgs false

/-! ### rows of cells -/
/-- are there n cells from p on? -/
def hasRow (w : World) (p : Addr) (n : Nat) : Bool := (List.range n).all fun j => (w.cell? (p.add j)).isSome
/-- the n cells from p on -/
def rowOf (w : World) (p : Addr) (n : Nat) : List Value := (List.range n).map fun j => (w.cell? (p.add j)).getD undef
def hasRowV (w : World) (n : Nat) : Value → Bool
  | .pointer (some p) => hasRow w p n
  | _ => false
def rowV (w : World) (n : Nat) : Value → List Value
  | .pointer (some p) => rowOf w p n
  | _ => []
@[go_sem] theorem hasRowV_ptr (w : World) (n : Nat) (p : Addr) : hasRowV w n (.pointer (some p)) = hasRow w p n := (rfl)
@[go_sem] theorem rowV_ptr (w : World) (n : Nat) (p : Addr) : rowV w n (.pointer (some p)) = rowOf w p n := (rfl)

theorem add_at (b off : Nat) (j : Nat) : (⟨b, off, none⟩ : Addr).add j = ⟨b, off + j, none⟩ := by unfold Addr.add; split <;> simp_all
theorem hasRow_iff {w : World} {p : Addr} {n : Nat} : hasRow w p n = true ↔ ∀ j, j < n → (w.cell? (p.add j)).isSome = true := by
  simp [hasRow]
theorem length_rowOf (w : World) (p : Addr) (n : Nat) : (rowOf w p n).length = n := by simp [rowOf]
theorem rowOf_at {w : World} {p : Addr} {n : Nat} (h : hasRow w p n = true) (j : Nat) (hj : j < n) : w.cell? (p.add j) = (rowOf w p n)[j]? := by
  have h1 := hasRow_iff.1 h j hj
  obtain ⟨v, hv⟩ := Option.isSome_iff_exists.1 h1
  simp [rowOf, hj, hv]
theorem row_of_cells {w : World} {p : Addr} {l : List Value} (h : ∀ j v, l[j]? = some v → w.cell? (p.add j) = some v) : hasRow w p l.length = true ∧ rowOf w p l.length = l := by
  refine ⟨hasRow_iff.2 fun j hj => by rw [h j _ (List.getElem?_eq_getElem hj)]; rfl, ?_⟩
  apply List.ext_getElem?
  intro j
  by_cases hj : j < l.length
  · have := h j _ (List.getElem?_eq_getElem hj)
    simp [rowOf, hj, this]
  · rw [List.getElem?_eq_none (by rw [length_rowOf]; omega), List.getElem?_eq_none (by omega)]
/-- a part of a row -/
theorem row_part {w : World} {b off n : Nat} {l : List Value} (h : hasRow w ⟨b, off, none⟩ n = true) (he : rowOf w ⟨b, off, none⟩ n = l) (i m : Nat) (hm : i + m ≤ n) :
    hasRow w ⟨b, off + i, none⟩ m = true ∧ rowOf w ⟨b, off + i, none⟩ m = (l.drop i).take m := by
  have hl : l.length = n := by rw [← he, length_rowOf]
  have h2 := row_of_cells (w := w) (p := ⟨b, off + i, none⟩) (l := (l.drop i).take m) (fun j v hv => by
    rw [add_at]
    rw [List.getElem?_take] at hv
    split at hv
    · rename_i hjm
      rw [List.getElem?_drop] at hv
      have := rowOf_at h (i + j) (by omega)
      rw [he, add_at] at this
      rw [show off + i + j = off + (i + j) from by omega, this, hv]
    · cases hv)
  have hlen : ((l.drop i).take m).length = m := by rw [List.length_take, List.length_drop]; omega
  rwa [hlen] at h2
theorem row_cell {w : World} {b off n : Nat} {l : List Value} (h : hasRow w ⟨b, off, none⟩ n = true) (he : rowOf w ⟨b, off, none⟩ n = l) (i : Nat) (hi : i < n) : w.cell? ⟨b, off + i, none⟩ = l[i]? := by
  have := rowOf_at h i hi
  rwa [he, add_at] at this
theorem hasRow_congr {w w' : World} {p : Addr} {n : Nat} (h : ∀ j, w'.cell? (p.add j) = w.cell? (p.add j)) : hasRow w' p n = hasRow w p n ∧ rowOf w' p n = rowOf w p n := by
  simp [hasRow, rowOf, h]
theorem block_add (p : Addr) (j : Nat) : (p.add j).block = p.block := by unfold Addr.add; split <;> rfl
theorem row_block {w w' : World} {p : Addr} {n : Nat} (h : w'.heap[p.block]? = w.heap[p.block]?) : hasRow w' p n = hasRow w p n ∧ rowOf w' p n = rowOf w p n :=
  hasRow_congr fun j => World.cell?_of_block (by rw [block_add]; exact h)
theorem row_below {B : Nat} {w w' : World} (hb : Below B w w') {p : Addr} (hp : p.block < B) (n : Nat) : hasRow w' p n = hasRow w p n ∧ rowOf w' p n = rowOf w p n := row_block (hb.block _ hp)
theorem row_chg {S : Nat → Prop} {w w' : World} (hc : Chg S w w') {p : Addr} (hp : p.block < w.heap.size) (hn : ¬ S p.block) (n : Nat) : hasRow w' p n = hasRow w p n ∧ rowOf w' p n = rowOf w p n := row_block (hc.block _ hp hn)
@[go_sem] theorem hasRow_drew (w : World) (p : Addr) (n : Nat) : hasRow w.drew p n = hasRow w p n := (rfl)
@[go_sem] theorem rowOf_drew (w : World) (p : Addr) (n : Nat) : rowOf w.drew p n = rowOf w p n := (rfl)
@[go_sem] theorem hasRow_drewN (w : World) (k : Nat) (p : Addr) (n : Nat) : hasRow (w.drewN k) p n = hasRow w p n := (rfl)
@[go_sem] theorem rowOf_drewN (w : World) (k : Nat) (p : Addr) (n : Nat) : rowOf (w.drewN k) p n = rowOf w p n := (rfl)
@[go_sem] theorem hasRow_alloc (w : World) (o : Obj) (p : Addr) (n : Nat) (h : p.block < w.heap.size) : hasRow (w.alloc o) p n = hasRow w p n := (row_block (Below.heap_alloc w o _ h)).1
@[go_sem] theorem rowOf_alloc (w : World) (o : Obj) (p : Addr) (n : Nat) (h : p.block < w.heap.size) : rowOf (w.alloc o) p n = rowOf w p n := (row_block (Below.heap_alloc w o _ h)).2
@[go_sem] theorem hasRow_new (w : World) (l : List Value) (t : TypeId) (i n : Nat) (h : i + n ≤ l.length) : hasRow (w.alloc (.cells l.toArray t)) ⟨w.heap.size, i, none⟩ n = true := by
  rw [hasRow_iff]
  intro j hj
  rw [add_at, World.cell?_alloc_new]
  simp; omega
@[go_sem] theorem rowOf_new (w : World) (l : List Value) (t : TypeId) (i n : Nat) (h : i + n ≤ l.length) : rowOf (w.alloc (.cells l.toArray t)) ⟨w.heap.size, i, none⟩ n = (l.drop i).take n := by
  apply List.ext_getElem?
  intro j
  by_cases hj : j < n
  · have hx : i + j < l.length := by omega
    simp [rowOf, hj, add_at, World.cell?_alloc_new, List.getElem?_take, List.getElem?_drop, List.getElem?_eq_getElem hx]
  · rw [List.getElem?_eq_none (by rw [length_rowOf]; omega), List.getElem?_take, if_neg hj]

/-! ### a load of many cells -/
/-- a type of n cells that is a struct or an array -/
def aggOf (P : Program) (t : TypeId) (n : Nat) : Bool :=
  (match P.underlying t with | some (.struct _) => true | some (.array _ _) => true | _ => false) && (match P.info? t with | some i => i.size == n | none => false)
theorem run_isAgg {P : Program} {t : TypeId} {n : Nat} (h : aggOf P t n = true) (w : World) : (isAgg t).run P w = .ok true w := by
  unfold aggOf at h
  cases hu : P.underlying t with
  | none => simp [hu] at h
  | some d => cases d <;> simp [hu] at h <;> simp [isAgg, run_underlying hu]
theorem run_sizeAgg {P : Program} {t : TypeId} {n : Nat} (h : aggOf P t n = true) (w : World) : (sizeOf t).run P w = .ok n w := by
  unfold aggOf at h
  cases hi : P.info? t with
  | none => simp [hi] at h
  | some i => simp [hi] at h; simp [sizeOf, typeInfo, hi, h.2]
theorem run_load_row {P : Program} {t : TypeId} {n : Nat} (hT : aggOf P t n = true) {w : World} {p : Addr} (h : hasRow w p n = true) : (loadVar t p).run P w = .ok (.agg (rowOf w p n).toArray) w := by
  have h1 := run_loadCells_list (P := P) w p (rowOf w p n) (fun j v hv => by
    have hj : j < n := by have := (List.getElem?_eq_some_iff.1 hv).1; rwa [length_rowOf] at this
    rw [rowOf_at h j hj, hv])
  rw [length_rowOf] at h1
  simp [loadVar, run_isAgg hT, run_sizeAgg hT, h1]
theorem exec_load {P : Program} {t : TypeId} {n : Nat} (hT : aggOf P t n = true) (ρ : Operand → Value) (d : Option Tmp) (x : Operand) (ty : TypeId) (s : String) (af : Array Edge) (g : Option (Nat × Bool)) (w : World)
    (h : hasRowV w n (ρ x) = true) : (execOp ρ { dst := d, op := .load t x, type := ty, pos := s, after := af, guard := g }).run P w = .ok (.value (.agg (rowV w n (ρ x)).toArray)) w := by
  generalize hv : ρ x = v at h ⊢
  cases v with
  | pointer a =>
    cases a with
    | none => simp [hasRowV] at h
    | some p =>
      simp only [hasRowV] at h
      simp [execOp, hv, Instr.loadAt, Instr.sureAddr, run_load_row hT h, rowV]
  | _ => simp [hasRowV] at h

/-! ### values of one cell; a store of many cells -/
def cell1 : Value → Bool
  | .agg _ => false
  | .tuple _ => false
  | _ => true
@[go_sem] theorem cell1_bool (b : Bool) : cell1 (.bool b) = true := (rfl)
@[go_sem] theorem cell1_int (k : IntKind) (n : Int) : cell1 (.int k n) = true := (rfl)
@[go_sem] theorem cell1_slice (a : Option Addr) (n c : Nat) : cell1 (.slice a n c) = true := (rfl)
theorem cell1_one {v : Value} (h : cell1 v = true) : v.oneCell' = true := by cases v <;> first | rfl | simp [cell1] at h
/-- may a row of n cells be stored from p on? -/
def canPut (w : World) (p : Addr) (n : Nat) : Bool :=
  match w.heap[p.block]? with
  | some (.cells cur _ (0, 0)) => p.spot.isNone && decide (p.off + n ≤ cur.size)
  | _ => false
/-- a row of cells stored from p on -/
def putRow (w : World) (p : Addr) (l : List Value) : World :=
  match w.heap[p.block]? with
  | some (.cells cur _ _) => w.setRow p.block (cur.toList.take p.off ++ l ++ cur.toList.drop (p.off + l.length)).toArray
  | _ => w
def okAgg (n : Nat) : Value → Bool
  | .agg cs => cs.size == n && cs.all cell1
  | _ => false
def canPutV (w : World) (n : Nat) : Value → Bool
  | .pointer (some p) => canPut w p n
  | _ => false
def putV (w : World) : Value → Value → World
  | .pointer (some p), .agg cs => putRow w p cs.toList
  | _, _ => w
@[go_sem] theorem canPutV_ptr (w : World) (n : Nat) (p : Addr) : canPutV w n (.pointer (some p)) = canPut w p n := (rfl)
@[go_sem] theorem putV_ptr (w : World) (p : Addr) (l : List Value) : putV w (.pointer (some p)) (.agg l.toArray) = putRow w p l := (rfl)
@[go_sem] theorem okAgg_list (n : Nat) (l : List Value) : okAgg n (.agg l.toArray) = (l.length == n && l.all cell1) := by simp [okAgg]
theorem exec_store {P : Program} {t : TypeId} {n : Nat} (hT : aggOf P t n = true) (ρ : Operand → Value) (d : Option Tmp) (x y : Operand) (ty : TypeId) (s : String) (af : Array Edge) (g : Option (Nat × Bool)) (w : World)
    (h1 : okAgg n (ρ y) = true) (h2 : canPutV w n (ρ x) = true) :
    (execOp ρ { dst := d, op := .store t x y, type := ty, pos := s, after := af, guard := g }).run P w = .ok .skip (putV w (ρ x) (ρ y)) := by
  generalize hx : ρ x = vx at h2 ⊢
  generalize hy : ρ y = vy at h1 ⊢
  cases vy with
  | agg cs =>
    cases vx with
    | pointer a =>
      cases a with
      | none => simp [canPutV] at h2
      | some p =>
        simp only [canPutV, canPut] at h2
        split at h2
        · rename_i cur e hg
          obtain ⟨pb, po, psp⟩ := p
          simp only [Bool.and_eq_true, Option.isNone_iff_eq_none, decide_eq_true_eq] at h2
          obtain ⟨rfl, hle⟩ := h2
          simp only [okAgg, Bool.and_eq_true, beq_iff_eq] at h1
          obtain ⟨hsz, hall⟩ := h1
          subst hsz
          have h1' : ∀ u ∈ cs.toList, u.oneCell' = true := fun u hu => cell1_one (by
            obtain ⟨i, hi, rfl⟩ := Array.getElem_of_mem (Array.mem_toList_iff.1 hu)
            exact (Array.all_eq_true.1 hall) i hi)
          have hst := run_storeCells_at P pb po e cs.toList 0 cur w hg (by simp; omega) h1'
          simp only [Nat.add_zero] at hst
          have hadd : (⟨pb, po, none⟩ : Addr) = ⟨pb, po, none⟩ := rfl
          have hcs : Value.cells (.agg cs) = cs := rfl
          simp [execOp, hx, hy, Instr.storeAt, Instr.sureAddr, storeVar, run_sizeAgg hT, hcs, putV, putRow, hg]
          simp at hst
          rw [hst]
          simp
        · cases h2
    | _ => simp [canPutV] at h2
  | _ => simp [okAgg] at h1
end Go.Proofs.YtopakilglnpinaaGreatDoor
