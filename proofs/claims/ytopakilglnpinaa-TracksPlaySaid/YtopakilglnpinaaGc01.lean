/-
  Small words for memory: a block known whole, a world in which some blocks alone have changed. Plain lemmas, no program in sight. Memory by rows of cells: values of many cells (structs, arrays) are read, stored, made and compared as lists. Laws over any program.
-/
import Derived.Below
import Derived.Laws.OwnMore
import Derived.Laws.Rows
import Derived.Deep.Draws
import Derived.Lib.Hide
import Derived.Deep.Slices
import Derived.ChangeOld
import Derived.ProofKit
import Derived.WalkKit
namespace Go.Proofs.Ytopakilglnpinaa
open Go.RowKit
set_option linter.unusedVariables false
set_option linter.unusedSimpArgs false

def Blk (w : World) (g : Nat) (t : TypeId) (cs : Array Value) : Prop := w.heap[g]? = some (.cells cs t (0, 0))

section
variable {w w' : World} {g : Nat} {t : TypeId} {cs : Array Value}
theorem Blk.lt (h : Blk w g t cs) : g < w.heap.size := by
  rcases Nat.lt_or_ge g w.heap.size with hlt | hge
  · exact hlt
  · unfold Blk at h; rw [Array.getElem?_eq_none hge] at h; cases h
theorem Blk.cell (h : Blk w g t cs) (i : Nat) : w.cell? ⟨g, i, none⟩ = cs[i]? := cell_of_row w g i cs t (0, 0) h
theorem Blk.frozen (h : Blk w g t cs) (i : Nat) : w.frozen? ⟨g, i, none⟩ = false := by
  unfold Blk at h
  simp [World.frozen?, h]
theorem Blk.new (w : World) (t : TypeId) (cs : Array Value) : Blk (w.alloc (.cells cs t)) w.heap.size t cs := heap_alloc_new w _
theorem Blk.drew (h : Blk w g t cs) : Blk w.drew g t cs := h
theorem Blk.drewN (h : Blk w g t cs) (n : Nat) : Blk (w.drewN n) g t cs := h
theorem Blk.alloc (h : Blk w g t cs) (o : Obj) : Blk (w.alloc o) g t cs := (Below.heap_alloc w o g h.lt).trans h
theorem Blk.set_ (h : Blk w g t cs) (i : Nat) (u : Value) : Blk (w.setCell ⟨g, i, none⟩ u) g t (cs.setIfInBounds i u) := by
  unfold Blk at h ⊢
  simp [World.setCell, Array.getElem?_modify, h]
theorem Blk.far (h : Blk w g t cs) {p : Addr} (hp : g ≠ p.block) (u : Value) : Blk (w.setCell p u) g t cs := (Below.heap_setCell w p u g hp).trans h
theorem Blk.below {B : Nat} (h : Blk w g t cs) (hb : Below B w w') (hg : g < B) : Blk w' g t cs := (hb.block g hg).trans h
theorem Blk.ne_ {g' : Nat} {t' : TypeId} {cs' : Array Value} (h : Blk w g t cs) (h' : Blk w g' t' cs') (hne : t ≠ t') : g ≠ g' := by
  rintro rfl
  unfold Blk at h h'
  rw [h] at h'
  injection h' with h'
  injection h' with _ ht
  exact hne ht
end

/-- Of what was there, the blocks in S alone may have changed. -/
structure Chg (S : Nat → Prop) (w w' : World) : Prop where
  os : w'.os = w.os
  tape : w'.tape = w.tape
  output : w'.output = w.output
  size : w.heap.size ≤ w'.heap.size
  block : ∀ k, k < w.heap.size → ¬ S k → w'.heap[k]? = w.heap[k]?

section
variable {S S' : Nat → Prop} {a b c w w' : World}
theorem Chg.refl (S : Nat → Prop) (w : World) : Chg S w w := ⟨rfl, rfl, rfl, Nat.le_refl _, fun _ _ _ => rfl⟩
theorem Chg.trans (h : Chg S a b) (k : Chg S b c) : Chg S a c :=
  ⟨k.os.trans h.os, k.tape.trans h.tape, k.output.trans h.output, Nat.le_trans h.size k.size,
   fun i hi hs => (k.block i (Nat.lt_of_lt_of_le hi h.size) hs).trans (h.block i hi hs)⟩
theorem Chg.mono (h : Chg S a b) (hs : ∀ k, k < a.heap.size → S k → S' k) : Chg S' a b :=
  ⟨h.os, h.tape, h.output, h.size, fun k hk hn => h.block k hk fun hS => hn (hs k hk hS)⟩
theorem Chg.drew (h : Chg S a w) : Chg S a w.drew := ⟨h.os, h.tape, h.output, h.size, h.block⟩
theorem Chg.drewN (h : Chg S a w) (n : Nat) : Chg S a (w.drewN n) := ⟨h.os, h.tape, h.output, h.size, h.block⟩
theorem Chg.alloc (h : Chg S a w) (o : Obj) : Chg S a (w.alloc o) :=
  ⟨h.os, h.tape, h.output, by have := h.size; simp; omega, fun k hk hn => (Below.heap_alloc _ _ _ (by have := h.size; omega)).trans (h.block k hk hn)⟩
theorem Chg.setCell (h : Chg S a w) {p : Addr} (hp : S p.block ∨ a.heap.size ≤ p.block) (u : Value) : Chg S a (w.setCell p u) :=
  ⟨h.os, h.tape, h.output, by have := h.size; simp; omega, fun k hk hn => (Below.heap_setCell _ _ _ _ (by rintro rfl; rcases hp with hp | hp; exact hn hp; omega)).trans (h.block k hk hn)⟩
theorem Chg.set_at {g : Nat} (h : Chg (· = g) a w) (i : Nat) (u : Value) : Chg (· = g) a (w.setCell ⟨g, i, none⟩ u) := h.setCell (.inl rfl) u
theorem Chg.set_new (h : Chg S a w) {p : Addr} (hp : a.heap.size ≤ p.block) (u : Value) : Chg S a (w.setCell p u) := h.setCell (.inr hp) u
theorem Chg.of_below (h : Below a.heap.size a b) (S : Nat → Prop) : Chg S a b := ⟨h.os, h.tape, h.output, h.size, fun k hk _ => h.block k hk⟩
theorem Chg.below {B : Nat} (h : Chg S a b) (hB : B ≤ a.heap.size) (hs : ∀ k, S k → B ≤ k) : Below B a b :=
  ⟨h.os, h.tape, h.output, h.size, fun k hk => h.block k (by omega) fun hS => by have := hs k hS; omega⟩
theorem Blk.chg {g : Nat} {t : TypeId} {cs : Array Value} (h : Blk a g t cs) (hc : Chg S a b) (hn : ¬ S g) : Blk b g t cs := (hc.block g h.lt hn).trans h
theorem Chg.cell (hc : Chg S a b) {p : Addr} (hp : p.block < a.heap.size) (hn : ¬ S p.block) : b.cell? p = a.cell? p := World.cell?_of_block (hc.block p.block hp hn)
theorem Chg.frozen (hc : Chg S a b) {p : Addr} (hp : p.block < a.heap.size) (hn : ¬ S p.block) : b.frozen? p = a.frozen? p := World.frozen?_of_block (hc.block p.block hp hn)
end

/-- A slice of one-cell elements that reads as a list of values. -/
def Rd1 (w : World) (a : Option Addr) (len : Nat) (vs : List Value) : Prop :=
  vs.length = len ∧ ∀ k v, vs[k]? = some v → ∃ b off, a = some ⟨b, off, none⟩ ∧ w.cell? ⟨b, off + k, none⟩ = some v

theorem Rd1.below {w w' : World} {a : Option Addr} {len : Nat} {vs : List Value} (h : Rd1 w a len vs) (hb : Below w.heap.size w w') : Rd1 w' a len vs :=
  ⟨h.1, fun k v hk => by
    obtain ⟨b, off, e, hc⟩ := h.2 k v hk
    exact ⟨b, off, e, (hb.cell (p := ⟨b, off + k, none⟩) (World.block_lt_of_cell? w _ hc)).trans hc⟩⟩

theorem Rd1.open_ {H : Type} {enc : TypeId × Value → H} {P : Program} {w : World} {spare : Nat → Bool} {held : Bool} {t e : TypeId} {a : Option Addr} {len cap : Nat} {d : DataW H} {pl : List MemPlace}
    (ht : P.underlying t = some (.slice e)) (hc : P.cellsOf e = 1) (h : DataW.Trod enc P w 0 spare held t (.slice a len cap) d pl) :
    ∃ vs, Rd1 w a len vs ∧ len ≤ maxLen ∧ ∀ v ∈ vs, ∃ y n, DataW.trod enc P w 0 spare held n e [v] = some y := by
  obtain ⟨fuel, hf⟩ := h
  rcases Deep.open_slice1 ht hc hf with ⟨hcs, _⟩ | ⟨x, l, c, m, n, V, D, Pl, hcs, _, hl, hm, hmm, _, hx⟩
  · simp [Value.cells] at hcs
    obtain ⟨rfl, rfl, rfl⟩ := hcs
    exact ⟨[], ⟨rfl, by simp⟩, by simp, by simp⟩
  · simp [Value.cells] at hcs
    obtain ⟨rfl, rfl, rfl⟩ := hcs
    have hle : len ≤ m := by rw [hmm]; split <;> omega
    refine ⟨(List.range len).map V, ⟨by simp, fun k v hk => ?_⟩, by omega, fun v hv => ?_⟩
    · rw [List.getElem?_map, Option.map_eq_some_iff] at hk
      obtain ⟨k', hk', rfl⟩ := hk
      have hlt : k < len := by
        rcases Nat.lt_or_ge k len with h | h
        · exact h
        · rw [List.getElem?_eq_none (by simpa using h)] at hk'; cases hk'
      rw [List.getElem?_range hlt] at hk'
      · cases hk'
        obtain ⟨b, off, spot⟩ := x
        have h1 := (hx k (by omega)).1
        have hs : spot = none := by
          have := World.cell?_spot (hx 0 (by omega)).1
          simpa [Addr.add] using this
        subst hs
        refine ⟨b, off, rfl, ?_⟩
        have ha : (⟨b, off, none⟩ : Addr).add k = ⟨b, off + k, none⟩ := by unfold Addr.add; split <;> simp_all
        rwa [ha] at h1
    · simp at hv
      obtain ⟨i, hi, rfl⟩ := hv
      exact ⟨_, _, (hx i (by omega)).2⟩
end Go.Proofs.Ytopakilglnpinaa
namespace Go.Proofs.Ytopakilglnpinaa
open Go.RowKit
set_option linter.unusedVariables false
set_option linter.unusedSimpArgs false

/-! ### rows of cells -/
/-- are there n cells from p on? -/
def hasRow (w : World) (p : Addr) (n : Nat) : Bool := (List.range n).all fun j => (w.cell? (p.add j)).isSome
/-- the n cells from p on -/
def rowOf (w : World) (p : Addr) (n : Nat) : List Value := (List.range n).map fun j => (w.cell? (p.add j)).getD undef
def hasRowV (w : World) (n : Nat) : Value → Bool
  | .pointer (some p) => hasRow w p n
  | _ => false
def rowV (w : World) (n : Nat) : Value → List Value
  | .pointer (some p) => rowOf w p n
  | _ => []
@[go_sem] theorem hasRowV_ptr (w : World) (n : Nat) (p : Addr) : hasRowV w n (.pointer (some p)) = hasRow w p n := (rfl)
@[go_sem] theorem rowV_ptr (w : World) (n : Nat) (p : Addr) : rowV w n (.pointer (some p)) = rowOf w p n := (rfl)

theorem add_at (b off : Nat) (j : Nat) : (⟨b, off, none⟩ : Addr).add j = ⟨b, off + j, none⟩ := by unfold Addr.add; split <;> simp_all
theorem hasRow_iff {w : World} {p : Addr} {n : Nat} : hasRow w p n = true ↔ ∀ j, j < n → (w.cell? (p.add j)).isSome = true := by
  simp [hasRow]
theorem length_rowOf (w : World) (p : Addr) (n : Nat) : (rowOf w p n).length = n := by simp [rowOf]
theorem rowOf_at {w : World} {p : Addr} {n : Nat} (h : hasRow w p n = true) (j : Nat) (hj : j < n) : w.cell? (p.add j) = (rowOf w p n)[j]? := by
  have h1 := hasRow_iff.1 h j hj
  obtain ⟨v, hv⟩ := Option.isSome_iff_exists.1 h1
  simp [rowOf, hj, hv]
theorem row_of_cells {w : World} {p : Addr} {l : List Value} (h : ∀ j v, l[j]? = some v → w.cell? (p.add j) = some v) : hasRow w p l.length = true ∧ rowOf w p l.length = l := by
  refine ⟨hasRow_iff.2 fun j hj => by rw [h j _ (List.getElem?_eq_getElem hj)]; rfl, ?_⟩
  apply List.ext_getElem?
  intro j
  by_cases hj : j < l.length
  · have := h j _ (List.getElem?_eq_getElem hj)
    simp [rowOf, hj, this]
  · rw [List.getElem?_eq_none (by rw [length_rowOf]; omega), List.getElem?_eq_none (by omega)]
/-- a part of a row -/
theorem row_part {w : World} {b off n : Nat} {l : List Value} (h : hasRow w ⟨b, off, none⟩ n = true) (he : rowOf w ⟨b, off, none⟩ n = l) (i m : Nat) (hm : i + m ≤ n) :
    hasRow w ⟨b, off + i, none⟩ m = true ∧ rowOf w ⟨b, off + i, none⟩ m = (l.drop i).take m := by
  have hl : l.length = n := by rw [← he, length_rowOf]
  have h2 := row_of_cells (w := w) (p := ⟨b, off + i, none⟩) (l := (l.drop i).take m) (fun j v hv => by
    rw [add_at]
    rw [List.getElem?_take] at hv
    split at hv
    · rename_i hjm
      rw [List.getElem?_drop] at hv
      have := rowOf_at h (i + j) (by omega)
      rw [he, add_at] at this
      rw [show off + i + j = off + (i + j) from by omega, this, hv]
    · cases hv)
  have hlen : ((l.drop i).take m).length = m := by rw [List.length_take, List.length_drop]; omega
  rwa [hlen] at h2
theorem row_cell {w : World} {b off n : Nat} {l : List Value} (h : hasRow w ⟨b, off, none⟩ n = true) (he : rowOf w ⟨b, off, none⟩ n = l) (i : Nat) (hi : i < n) : w.cell? ⟨b, off + i, none⟩ = l[i]? := by
  have := rowOf_at h i hi
  rwa [he, add_at] at this
theorem hasRow_congr {w w' : World} {p : Addr} {n : Nat} (h : ∀ j, w'.cell? (p.add j) = w.cell? (p.add j)) : hasRow w' p n = hasRow w p n ∧ rowOf w' p n = rowOf w p n := by
  simp [hasRow, rowOf, h]
theorem block_add (p : Addr) (j : Nat) : (p.add j).block = p.block := by unfold Addr.add; split <;> rfl
theorem row_block {w w' : World} {p : Addr} {n : Nat} (h : w'.heap[p.block]? = w.heap[p.block]?) : hasRow w' p n = hasRow w p n ∧ rowOf w' p n = rowOf w p n :=
  hasRow_congr fun j => World.cell?_of_block (by rw [block_add]; exact h)
theorem row_below {B : Nat} {w w' : World} (hb : Below B w w') {p : Addr} (hp : p.block < B) (n : Nat) : hasRow w' p n = hasRow w p n ∧ rowOf w' p n = rowOf w p n := row_block (hb.block _ hp)
theorem row_chg {S : Nat → Prop} {w w' : World} (hc : Chg S w w') {p : Addr} (hp : p.block < w.heap.size) (hn : ¬ S p.block) (n : Nat) : hasRow w' p n = hasRow w p n ∧ rowOf w' p n = rowOf w p n := row_block (hc.block _ hp hn)
@[go_sem] theorem hasRow_drew (w : World) (p : Addr) (n : Nat) : hasRow w.drew p n = hasRow w p n := (rfl)
@[go_sem] theorem rowOf_drew (w : World) (p : Addr) (n : Nat) : rowOf w.drew p n = rowOf w p n := (rfl)
@[go_sem] theorem hasRow_drewN (w : World) (k : Nat) (p : Addr) (n : Nat) : hasRow (w.drewN k) p n = hasRow w p n := (rfl)
@[go_sem] theorem rowOf_drewN (w : World) (k : Nat) (p : Addr) (n : Nat) : rowOf (w.drewN k) p n = rowOf w p n := (rfl)
@[go_sem] theorem hasRow_alloc (w : World) (o : Obj) (p : Addr) (n : Nat) (h : p.block < w.heap.size) : hasRow (w.alloc o) p n = hasRow w p n := (row_block (Below.heap_alloc w o _ h)).1
@[go_sem] theorem rowOf_alloc (w : World) (o : Obj) (p : Addr) (n : Nat) (h : p.block < w.heap.size) : rowOf (w.alloc o) p n = rowOf w p n := (row_block (Below.heap_alloc w o _ h)).2
@[go_sem] theorem hasRow_new (w : World) (l : List Value) (t : TypeId) (i n : Nat) (h : i + n ≤ l.length) : hasRow (w.alloc (.cells l.toArray t)) ⟨w.heap.size, i, none⟩ n = true := by
  rw [hasRow_iff]
  intro j hj
  rw [add_at, World.cell?_alloc_new]
  simp; omega
@[go_sem] theorem rowOf_new (w : World) (l : List Value) (t : TypeId) (i n : Nat) (h : i + n ≤ l.length) : rowOf (w.alloc (.cells l.toArray t)) ⟨w.heap.size, i, none⟩ n = (l.drop i).take n := by
  apply List.ext_getElem?
  intro j
  by_cases hj : j < n
  · have hx : i + j < l.length := by omega
    simp [rowOf, hj, add_at, World.cell?_alloc_new, List.getElem?_take, List.getElem?_drop, List.getElem?_eq_getElem hx]
  · rw [List.getElem?_eq_none (by rw [length_rowOf]; omega), List.getElem?_take, if_neg hj]

/-! ### a load of many cells -/
/-- a type of n cells that is a struct or an array -/
def aggOf (P : Program) (t : TypeId) (n : Nat) : Bool :=
  (match P.underlying t with | some (.struct _) => true | some (.array _ _) => true | _ => false) && (match P.info? t with | some i => i.size == n | none => false)
theorem run_isAgg {P : Program} {t : TypeId} {n : Nat} (h : aggOf P t n = true) (w : World) : (isAgg t).run P w = .ok true w := by
  unfold aggOf at h
  cases hu : P.underlying t with
  | none => simp [hu] at h
  | some d => cases d <;> simp [hu] at h <;> simp [isAgg, run_underlying hu]
theorem run_sizeAgg {P : Program} {t : TypeId} {n : Nat} (h : aggOf P t n = true) (w : World) : (sizeOf t).run P w = .ok n w := by
  unfold aggOf at h
  cases hi : P.info? t with
  | none => simp [hi] at h
  | some i => simp [hi] at h; simp [sizeOf, typeInfo, hi, h.2]
theorem run_load_row {P : Program} {t : TypeId} {n : Nat} (hT : aggOf P t n = true) {w : World} {p : Addr} (h : hasRow w p n = true) : (loadVar t p).run P w = .ok (.agg (rowOf w p n).toArray) w := by
  have h1 := run_loadCells_list (P := P) w p (rowOf w p n) (fun j v hv => by
    have hj : j < n := by have := (List.getElem?_eq_some_iff.1 hv).1; rwa [length_rowOf] at this
    rw [rowOf_at h j hj, hv])
  rw [length_rowOf] at h1
  simp [loadVar, run_isAgg hT, run_sizeAgg hT, h1]
theorem exec_load {P : Program} {t : TypeId} {n : Nat} (hT : aggOf P t n = true) (ρ : Operand → Value) (d : Option Tmp) (x : Operand) (ty : TypeId) (s : String) (af : Array Edge) (g : Option (Nat × Bool)) (w : World)
    (h : hasRowV w n (ρ x) = true) : (execOp ρ { dst := d, op := .load t x, type := ty, pos := s, after := af, guard := g }).run P w = .ok (.value (.agg (rowV w n (ρ x)).toArray)) w := by
  generalize hv : ρ x = v at h ⊢
  cases v with
  | pointer a =>
    cases a with
    | none => simp [hasRowV] at h
    | some p =>
      simp only [hasRowV] at h
      simp [execOp, hv, Instr.loadAt, Instr.sureAddr, run_load_row hT h, rowV]
  | _ => simp [hasRowV] at h

/-! ### values of one cell; a store of many cells -/
def cell1 : Value → Bool
  | .agg _ => false
  | .tuple _ => false
  | _ => true
@[go_sem] theorem cell1_bool (b : Bool) : cell1 (.bool b) = true := (rfl)
@[go_sem] theorem cell1_int (k : IntKind) (n : Int) : cell1 (.int k n) = true := (rfl)
@[go_sem] theorem cell1_slice (a : Option Addr) (n c : Nat) : cell1 (.slice a n c) = true := (rfl)
theorem cell1_one {v : Value} (h : cell1 v = true) : v.oneCell' = true := by cases v <;> first | rfl | simp [cell1] at h
/-- may a row of n cells be stored from p on? -/
def canPut (w : World) (p : Addr) (n : Nat) : Bool :=
  match w.heap[p.block]? with
  | some (.cells cur _ (0, 0)) => p.spot.isNone && decide (p.off + n ≤ cur.size)
  | _ => false
/-- a row of cells stored from p on -/
def putRow (w : World) (p : Addr) (l : List Value) : World :=
  match w.heap[p.block]? with
  | some (.cells cur _ _) => w.setRow p.block (cur.toList.take p.off ++ l ++ cur.toList.drop (p.off + l.length)).toArray
  | _ => w
def okAgg (n : Nat) : Value → Bool
  | .agg cs => cs.size == n && cs.all cell1
  | _ => false
def canPutV (w : World) (n : Nat) : Value → Bool
  | .pointer (some p) => canPut w p n
  | _ => false
def putV (w : World) : Value → Value → World
  | .pointer (some p), .agg cs => putRow w p cs.toList
  | _, _ => w
@[go_sem] theorem canPutV_ptr (w : World) (n : Nat) (p : Addr) : canPutV w n (.pointer (some p)) = canPut w p n := (rfl)
@[go_sem] theorem putV_ptr (w : World) (p : Addr) (l : List Value) : putV w (.pointer (some p)) (.agg l.toArray) = putRow w p l := (rfl)
@[go_sem] theorem okAgg_list (n : Nat) (l : List Value) : okAgg n (.agg l.toArray) = (l.length == n && l.all cell1) := by simp [okAgg]
theorem exec_store {P : Program} {t : TypeId} {n : Nat} (hT : aggOf P t n = true) (ρ : Operand → Value) (d : Option Tmp) (x y : Operand) (ty : TypeId) (s : String) (af : Array Edge) (g : Option (Nat × Bool)) (w : World)
    (h1 : okAgg n (ρ y) = true) (h2 : canPutV w n (ρ x) = true) :
    (execOp ρ { dst := d, op := .store t x y, type := ty, pos := s, after := af, guard := g }).run P w = .ok .skip (putV w (ρ x) (ρ y)) := by
  generalize hx : ρ x = vx at h2 ⊢
  generalize hy : ρ y = vy at h1 ⊢
  cases vy with
  | agg cs =>
    cases vx with
    | pointer a =>
      cases a with
      | none => simp [canPutV] at h2
      | some p =>
        simp only [canPutV, canPut] at h2
        split at h2
        · rename_i cur e hg
          obtain ⟨pb, po, psp⟩ := p
          simp only [Bool.and_eq_true, Option.isNone_iff_eq_none, decide_eq_true_eq] at h2
          obtain ⟨rfl, hle⟩ := h2
          simp only [okAgg, Bool.and_eq_true, beq_iff_eq] at h1
          obtain ⟨hsz, hall⟩ := h1
          subst hsz
          have h1' : ∀ u ∈ cs.toList, u.oneCell' = true := fun u hu => cell1_one (by
            obtain ⟨i, hi, rfl⟩ := Array.getElem_of_mem (Array.mem_toList_iff.1 hu)
            exact (Array.all_eq_true.1 hall) i hi)
          have hst := run_storeCells_at P pb po e cs.toList 0 cur w hg (by simp; omega) h1'
          simp only [Nat.add_zero] at hst
          have hadd : (⟨pb, po, none⟩ : Addr) = ⟨pb, po, none⟩ := rfl
          have hcs : Value.cells (.agg cs) = cs := rfl
          simp [execOp, hx, hy, Instr.storeAt, Instr.sureAddr, storeVar, run_sizeAgg hT, hcs, putV, putRow, hg]
          simp at hst
          rw [hst]
          simp
        · cases h2
    | _ => simp [canPutV] at h2
  | _ => simp [okAgg] at h1
end Go.Proofs.Ytopakilglnpinaa
