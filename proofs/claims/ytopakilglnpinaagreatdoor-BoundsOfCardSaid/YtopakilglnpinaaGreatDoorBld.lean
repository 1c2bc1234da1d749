
/-
  Structs built out of parts, and appends onto a slice of the call's own, by rows of cells.
-/
import Derived.Test.YtopakilglnpinaaGreatDoorCel
import Derived.OwnWalk
import Derived.Deep.AppendLies
namespace Go.Proofs.YtopakilglnpinaaGreatDoor
open Go.RowKit
set_option linter.unusedVariables false
set_option linter.unusedSimpArgs false

/-! ### a struct is built -/
def cellsL (v : Value) : List Value := v.cells.toList
@[go_sem] theorem cellsL_bool (b : Bool) : cellsL (.bool b) = [.bool b] := (rfl)
@[go_sem] theorem cellsL_int (k : IntKind) (n : Int) : cellsL (.int k n) = [.int k n] := (rfl)
@[go_sem] theorem cellsL_slice (a : Option Addr) (n c : Nat) : cellsL (.slice a n c) = [.slice a n c] := (rfl)
@[go_sem] theorem cellsL_agg (l : List Value) : cellsL (.agg l.toArray) = l := (rfl)
def lenC (v : Value) (n : Nat) : Bool := (cellsL v).length == n
@[go_sem] theorem lenC_bool (b : Bool) : lenC (.bool b) 1 = true := (rfl)
@[go_sem] theorem lenC_int (k : IntKind) (n : Int) : lenC (.int k n) 1 = true := (rfl)
@[go_sem] theorem lenC_slice (a : Option Addr) (n c : Nat) : lenC (.slice a n c) 1 = true := (rfl)
@[go_sem] theorem lenC_agg (l : List Value) (n : Nat) : lenC (.agg l.toArray) n = (l.length == n) := (rfl)

/-- z, with l from off on -/
def spl (z : List Value) (off : Nat) (l : List Value) : List Value := z.take off ++ l ++ z.drop (off + l.length)
theorem spl_get {z l : List Value} {off : Nat} (h : off + l.length ≤ z.length) (k : Nat) : (spl z off l)[k]? = if k < off then z[k]? else if k < off + l.length then l[k - off]? else z[k]? := by
  unfold spl
  by_cases h1 : k < off
  · rw [if_pos h1, List.getElem?_append_left (by simp; omega), List.getElem?_append_left (by simp; omega), List.getElem?_take, if_pos h1]
  · rw [if_neg h1]
    by_cases h2 : k < off + l.length
    · rw [if_pos h2, List.getElem?_append_left (by simp; omega), List.getElem?_append_right (by simp; omega)]
      congr 1
      simp; omega
    · rw [if_neg h2, List.getElem?_append_right (by simp; omega), List.getElem?_drop]
      congr 1
      simp; omega
theorem foldl_set (l : List Value) : ∀ (cs : Array Value) (off j : Nat), off + j + l.length ≤ cs.size →
    ((l.zipIdx j).foldl (fun cs (c, j) => cs.setIfInBounds (off + j) c) cs) = (spl cs.toList (off + j) l).toArray := by
  induction l with
  | nil => intro cs off j h; simp [spl]
  | cons v l ih =>
    intro cs off j h
    simp only [List.zipIdx_cons, List.foldl_cons]
    simp only [List.length_cons] at h
    rw [ih _ off (j + 1) (by simp; omega)]
    congr 1
    apply List.ext_getElem?
    intro k
    rw [spl_get (by simp; omega), spl_get (by simp; omega)]
    simp only [Array.toList_setIfInBounds, List.length_cons, List.getElem?_set, Array.length_toList]
    rcases Nat.lt_trichotomy k (off + j) with hk | hk | hk
    · rw [if_pos (by omega), if_neg (by omega), if_pos hk]
    · subst hk
      rw [if_pos (by omega), if_pos rfl, if_pos (by omega), if_neg (by omega), if_pos (by omega), Nat.sub_self]
      rfl
    · rw [if_neg (show ¬ k < off + (j + 1) by omega), if_neg (show ¬ off + j = k by omega), if_neg (show ¬ k < off + j by omega)]
      by_cases h2 : k < off + (j + 1) + l.length
      · rw [if_pos h2, if_pos (by omega), show k - (off + j) = (k - (off + (j + 1))) + 1 from by omega, List.getElem?_cons_succ]
      · rw [if_neg h2, if_neg (by omega)]
theorem fill_one (place : Nat → Option (Nat × Nat)) (z : List Value) (i off size : Nat) (v : Value) (rest : List (Nat × Value)) (hp : place i = some (off, size)) (hv : (cellsL v).length = size) (hz : off + size ≤ z.length) :
    Instr.fill place z.toArray ((i, v) :: rest) = Instr.fill place (spl z off (cellsL v)).toArray rest := by
  have h1 : v.cells.size = size := by simpa [cellsL] using hv
  rw [Instr.fill, hp]
  simp only []
  rw [if_neg (by simp [h1]; omega)]
  congr 1
  have := foldl_set v.cells.toList z.toArray off 0 (by simp [h1]; omega)
  rw [← Array.foldl_toList, Array.toList_zipIdx]
  simpa [cellsL] using this
theorem fill_nil (place : Nat → Option (Nat × Nat)) (z : List Value) : Instr.fill place z.toArray [] = some z.toArray := rfl
theorem len_spl {z l : List Value} {off : Nat} (h : off + l.length ≤ z.length) : (spl z off l).length = z.length := by simp [spl]; omega
theorem spl_two {z a b : List Value} (h : z.length = a.length + b.length) : spl (spl z 0 a) a.length b = a ++ b := by
  apply List.ext_getElem?
  intro k
  rw [spl_get (by rw [len_spl (by omega)]; omega), spl_get (by omega), List.getElem?_append]
  by_cases h1 : k < a.length
  · rw [if_pos h1, if_pos h1, if_neg (by omega), if_pos (by omega), Nat.sub_zero]
  · rw [if_neg h1, if_neg h1]
    by_cases h2 : k < a.length + b.length
    · rw [if_pos h2]
    · rw [if_neg h2, if_neg (by omega), if_neg (by omega), List.getElem?_eq_none (by omega), List.getElem?_eq_none (by omega)]
theorem spl_three {z a b c : List Value} (h : z.length = a.length + b.length + c.length) : spl (spl (spl z 0 a) a.length b) (a.length + b.length) c = a ++ b ++ c := by
  have l1 : (spl z 0 a).length = z.length := len_spl (by omega)
  have l2 : (spl (spl z 0 a) a.length b).length = z.length := (len_spl (by omega)).trans l1
  apply List.ext_getElem?
  intro k
  rw [spl_get (by omega), spl_get (by omega), spl_get (by omega), List.getElem?_append, List.length_append, List.getElem?_append]
  by_cases h1 : k < a.length
  · rw [if_pos (by omega), if_pos h1, if_neg (by omega), if_pos (by omega), if_pos (by omega), if_pos h1, Nat.sub_zero]
  · by_cases h2 : k < a.length + b.length
    · rw [if_pos h2, if_neg h1, if_pos h2, if_pos h2, if_neg h1]
    · rw [if_neg h2, if_neg h2]
      by_cases h3 : k < a.length + b.length + c.length
      · rw [if_pos h3, if_neg h2]
      · rw [if_neg h3, if_neg h1, if_neg h2, if_neg (by omega), if_neg (by omega), List.getElem?_eq_none (by omega), List.getElem?_eq_none (by omega)]

/-- what 'build' wants of a struct's type: its zero cells, its fields' places -/
def buildT (P : Program) (t : TypeId) (z : List Value) (pl : List (Nat × Nat)) : Prop :=
  (P.info? t).map (fun i => i.zero.map fun v => v.cells.toList) = some (some z) ∧
  (P.underlying t).bind (fun d => match d with | .struct fs => fs.toList.mapM (fun f => (P.info? f.type).map fun i => (f.offset, i.size)) | _ => none) = some pl
theorem built_of {P : Program} {t : TypeId} {z : List Value} {pl : List (Nat × Nat)} (h : buildT P t z pl) (parts : List (Nat × Value)) : P.built t parts = Instr.fill (pl.toArray[·]?) z.toArray parts := by
  obtain ⟨h1, h2⟩ := h
  unfold Program.built
  cases hi : P.info? t with
  | none => simp [hi] at h1
  | some i =>
    cases hz : i.zero with
    | none => simp [hi, hz] at h1
    | some v =>
      simp [hi, hz] at h1
      cases hu : P.underlying t with
      | none => simp [hu] at h2
      | some d =>
        cases d <;> simp [hu] at h2
        simp only [h2, hz]
        congr 1
        rw [← h1]
theorem exec_build {P : Program} {t : TypeId} {cells : List Value} (ρ : Operand → Value) (d : Option Tmp) (parts : Array (Nat × Operand)) (ty : TypeId) (s : String) (af : Array Edge) (g : Option (Nat × Bool)) (w : World)
    (h : P.built t (parts.map fun (i, x) => (i, ρ x)).toList = some cells.toArray) :
    (execOp ρ { dst := d, op := .build t parts, type := ty, pos := s, after := af, guard := g }).run P w = .ok (.value (.agg cells.toArray)) w := by
  simp [execOp, run_build w t _ _ h]
theorem exec_build0 {P : Program} {t : TypeId} {z : List Value} {pl : List (Nat × Nat)} (hb : buildT P t z pl) (ρ : Operand → Value) (d : Option Tmp) (ty : TypeId) (s : String) (af : Array Edge) (g : Option (Nat × Bool)) (w : World) :
    (execOp ρ { dst := d, op := .build t #[], type := ty, pos := s, after := af, guard := g }).run P w = .ok (.value (.agg z.toArray)) w :=
  exec_build ρ d _ ty s af g w (by rw [built_of hb]; simp [fill_nil])
theorem exec_build1 {P : Program} {t : TypeId} {z : List Value} {pl : List (Nat × Nat)} (hb : buildT P t z pl) {i off sz : Nat} (hp : pl[i]? = some (off, sz)) (hz : off + sz ≤ z.length) (ρ : Operand → Value) (d : Option Tmp) (x : Operand) (ty : TypeId) (s : String) (af : Array Edge) (g : Option (Nat × Bool)) (w : World) (h : lenC (ρ x) sz = true) :
    (execOp ρ { dst := d, op := .build t #[(i, x)], type := ty, pos := s, after := af, guard := g }).run P w = .ok (.value (.agg (spl z off (cellsL (ρ x))).toArray)) w :=
  exec_build ρ d _ ty s af g w (by
    rw [built_of hb]
    simp only [List.map_toArray, List.map_cons, List.map_nil]
    rw [fill_one _ z i off sz _ _ (by simpa using hp) (by simpa [lenC] using h) hz, fill_nil])
theorem exec_build2 {P : Program} {t : TypeId} {z : List Value} {pl : List (Nat × Nat)} {s0 s1 : Nat} (hb : buildT P t z pl) (h0 : pl[0]? = some (0, s0)) (h1 : pl[1]? = some (s0, s1)) (hz : s0 + s1 = z.length) (ρ : Operand → Value) (d : Option Tmp) (x y : Operand) (ty : TypeId) (s : String) (af : Array Edge) (g : Option (Nat × Bool)) (w : World)
    (hx : lenC (ρ x) s0 = true) (hy : lenC (ρ y) s1 = true) :
    (execOp ρ { dst := d, op := .build t #[(0, x), (1, y)], type := ty, pos := s, after := af, guard := g }).run P w = .ok (.value (.agg (cellsL (ρ x) ++ cellsL (ρ y)).toArray)) w :=
  exec_build ρ d _ ty s af g w (by
    rw [built_of hb]
    have hx' : (cellsL (ρ x)).length = s0 := by simpa [lenC] using hx
    have hy' : (cellsL (ρ y)).length = s1 := by simpa [lenC] using hy
    simp only [List.map_toArray, List.map_cons, List.map_nil]
    rw [fill_one _ z 0 0 s0 _ _ (by simpa using h0) hx' (by omega), fill_one _ _ 1 s0 s1 _ _ (by simpa using h1) hy' (by rw [len_spl (by omega)]; omega), fill_nil]
    have := spl_two (z := z) (a := cellsL (ρ x)) (b := cellsL (ρ y)) (by omega)
    rw [hx'] at this
    rw [this])
/-- the first two of three fields -/
theorem exec_build2of {P : Program} {t : TypeId} {z z2 : List Value} {pl : List (Nat × Nat)} {s0 s1 : Nat} (hb : buildT P t z pl) (h0 : pl[0]? = some (0, s0)) (h1 : pl[1]? = some (s0, s1)) (hz : s0 + s1 + z2.length = z.length) (hz2 : z.drop (s0 + s1) = z2) (ρ : Operand → Value) (d : Option Tmp) (x y : Operand) (ty : TypeId) (s : String) (af : Array Edge) (g : Option (Nat × Bool)) (w : World)
    (hx : lenC (ρ x) s0 = true) (hy : lenC (ρ y) s1 = true) :
    (execOp ρ { dst := d, op := .build t #[(0, x), (1, y)], type := ty, pos := s, after := af, guard := g }).run P w = .ok (.value (.agg (cellsL (ρ x) ++ (cellsL (ρ y) ++ z2)).toArray)) w :=
  exec_build ρ d _ ty s af g w (by
    rw [built_of hb]
    have hx' : (cellsL (ρ x)).length = s0 := by simpa [lenC] using hx
    have hy' : (cellsL (ρ y)).length = s1 := by simpa [lenC] using hy
    simp only [List.map_toArray, List.map_cons, List.map_nil]
    rw [fill_one _ z 0 0 s0 _ _ (by simpa using h0) hx' (by omega), fill_one _ _ 1 s0 s1 _ _ (by simpa using h1) hy' (by rw [len_spl (by omega)]; omega), fill_nil]
    have h1 : spl (spl z 0 (cellsL (ρ x))) s0 (cellsL (ρ y)) = cellsL (ρ x) ++ cellsL (ρ y) ++ z.drop (s0 + s1) := by rw [← hx', ← hy']; simp [spl]
    rw [h1, hz2, List.append_assoc])
theorem exec_build3 {P : Program} {t : TypeId} {z : List Value} {pl : List (Nat × Nat)} {s0 s1 s2 : Nat} (hb : buildT P t z pl) (h0 : pl[0]? = some (0, s0)) (h1 : pl[1]? = some (s0, s1)) (h2 : pl[2]? = some (s0 + s1, s2)) (hz : s0 + s1 + s2 = z.length) (ρ : Operand → Value) (d : Option Tmp) (x y u : Operand) (ty : TypeId) (s : String) (af : Array Edge) (g : Option (Nat × Bool)) (w : World)
    (hx : lenC (ρ x) s0 = true) (hy : lenC (ρ y) s1 = true) (hu : lenC (ρ u) s2 = true) :
    (execOp ρ { dst := d, op := .build t #[(0, x), (1, y), (2, u)], type := ty, pos := s, after := af, guard := g }).run P w = .ok (.value (.agg (cellsL (ρ x) ++ (cellsL (ρ y) ++ cellsL (ρ u))).toArray)) w :=
  exec_build ρ d _ ty s af g w (by
    rw [built_of hb]
    have hx' : (cellsL (ρ x)).length = s0 := by simpa [lenC] using hx
    have hy' : (cellsL (ρ y)).length = s1 := by simpa [lenC] using hy
    have hu' : (cellsL (ρ u)).length = s2 := by simpa [lenC] using hu
    simp only [List.map_toArray, List.map_cons, List.map_nil]
    rw [fill_one _ z 0 0 s0 _ _ (by simpa using h0) hx' (by omega), fill_one _ _ 1 s0 s1 _ _ (by simpa using h1) hy' (by rw [len_spl (by omega)]; omega),
      fill_one _ _ 2 (s0 + s1) s2 _ _ (by simpa using h2) hu' (by rw [len_spl (by rw [len_spl (by omega)]; omega), len_spl (by omega)]; omega), fill_nil]
    have := spl_three (z := z) (a := cellsL (ρ x)) (b := cellsL (ρ y)) (c := cellsL (ρ u)) (by omega)
    rw [hx', hy', List.append_assoc] at this
    rw [this])

/-! ### a slice is built, all its elements given -/
def iparts (ρ : Operand → Value) : Nat → List Operand → List (Nat × Value)
  | _, [] => []
  | i, x :: xs => (i, ρ x) :: iparts ρ (i + 1) xs
theorem fill_all (n : Nat) (ρ : Operand → Value) : ∀ (xs : List Operand) (i : Nat) (z : List Value), (∀ x ∈ xs, lenC (ρ x) n = true) → (i + xs.length) * n ≤ z.length →
    Instr.fill (fun i => some (i * n, n)) z.toArray (iparts ρ i xs) = some (spl z (i * n) (xs.flatMap fun x => cellsL (ρ x))).toArray
  | [], i, z, _, _ => by simp [iparts, spl, fill_nil]
  | x :: xs, i, z, h, hz => by
    have hx : (cellsL (ρ x)).length = n := by simpa [lenC] using h x (by simp)
    have hrest : (xs.flatMap fun x => cellsL (ρ x)).length = xs.length * n := by
      have h' : ∀ y ∈ xs, lenC (ρ y) n = true := fun y hy => h y (by simp [hy])
      clear h hz hx
      induction xs with
      | nil => simp
      | cons y ys ih =>
        have hy : (cellsL (ρ y)).length = n := by simpa [lenC] using h' y (by simp)
        rw [List.flatMap_cons, List.length_append, hy, ih (fun v hv => h' v (by simp [hv])), List.length_cons, Nat.succ_mul, Nat.add_comm]
    simp only [List.length_cons] at hz
    have e1 : (i + (xs.length + 1)) * n = i * n + n + xs.length * n := by rw [Nat.add_mul, Nat.succ_mul]; omega
    have e2 : (i + 1) * n = i * n + n := Nat.succ_mul _ _
    have e3 : (i + 1 + xs.length) * n = i * n + n + xs.length * n := by rw [Nat.add_mul, e2]
    rw [iparts, fill_one _ z i (i * n) n _ _ rfl hx (by omega), fill_all n ρ xs (i + 1) _ (fun y hy => h y (by simp [hy])) (by rw [len_spl (by omega)]; omega)]
    congr 2
    apply List.ext_getElem?
    intro k
    have l1 : (spl z (i * n) (cellsL (ρ x))).length = z.length := len_spl (by omega)
    rw [spl_get (by rw [l1, hrest]; omega), spl_get (by omega), spl_get (by rw [List.flatMap_cons, List.length_append, hrest]; omega), List.flatMap_cons, List.length_append, hrest, hx, e2]
    by_cases h1 : k < i * n
    · rw [if_pos (by omega), if_pos h1, if_pos h1]
    · by_cases h2 : k < i * n + n
      · rw [if_pos h2, if_neg h1, if_pos h2, if_neg h1, if_pos (by omega), List.getElem?_append_left (by omega)]
      · rw [if_neg h2]
        by_cases h3 : k < i * n + n + xs.length * n
        · rw [if_pos h3, if_neg h1, if_pos (by omega), List.getElem?_append_right (by omega), hx]
          congr 1; omega
        · rw [if_neg h3, if_neg h1, if_neg (by omega), if_neg h1, if_neg (by omega)]
theorem exec_bslice {P : Program} {t e : TypeId} {n : Nat} (ht : P.underlying t = some (.slice e)) (he : (P.info? e).map (fun i => (i.size, i.zero.map fun v => v.cells.size)) = some (n, some n)) (ρ : Operand → Value) (d : Option Tmp) (k : Nat) (xs : List Operand) (parts : Array (Nat × Operand)) (ty : TypeId) (s : String) (af : Array Edge) (g : Option (Nat × Bool)) (w : World)
    (hp : (parts.map fun (i, x) => (i, ρ x)).toList = iparts ρ 0 xs) (hk : xs.length = k) (hn0 : 0 < k * n) (hn : k * n ≤ 16777216) (hx : ∀ x ∈ xs, lenC (ρ x) n = true) :
    (execOp ρ { dst := d, op := .buildSlice t k parts, type := ty, pos := s, after := af, guard := g }).run P w =
      .ok (.value (.slice (some ⟨w.heap.size, 0, none⟩) k k)) (w.alloc (.cells (xs.flatMap fun x => cellsL (ρ x)).toArray e)) := by
  cases hi : P.info? e with
  | none => simp [hi] at he
  | some i =>
    cases hz : i.zero with
    | none => simp [hi, hz] at he
    | some v =>
      simp [hi, hz] at he
      obtain ⟨h1, h2⟩ := he
      have hlen : (xs.flatMap fun x => cellsL (ρ x)).length = k * n := by
        rw [← hk]
        clear hp hk hn hn0
        induction xs with
        | nil => simp
        | cons y ys ih =>
          have hy : (cellsL (ρ y)).length = n := by simpa [lenC] using hx y (by simp)
          rw [List.flatMap_cons, List.length_append, hy, ih (fun v hv => hx v (by simp [hv])), List.length_cons, Nat.succ_mul, Nat.add_comm]
      have key : ∀ z : List Value, z.length = k * n → Instr.fill (fun i => some (i * n, n)) z.toArray (parts.map fun (i, x) => (i, ρ x)).toList = some (xs.flatMap fun x => cellsL (ρ x)).toArray := by
        intro z hzl
        rw [hp, fill_all n ρ xs 0 z hx (by rw [Nat.zero_add, hk]; omega)]
        congr 2
        apply List.ext_getElem?
        intro j
        rw [spl_get (by omega)]
        simp only [Nat.zero_mul, Nat.not_lt_zero, if_false, Nat.zero_add, Nat.sub_zero]
        by_cases h : j < (xs.flatMap fun x => cellsL (ρ x)).length
        · rw [if_pos h]
        · rw [if_neg h, List.getElem?_eq_none (by omega), List.getElem?_eq_none (by omega)]
      have hpl : (parts.map fun (i, x) => (i, ρ x)).toList = parts.toList.map fun (i, x) => (i, ρ x) := by simp
      rw [hpl] at key
      have h0 : ¬ k * n = 0 := by omega
      have h0' : ¬ k * n > 16777216 := by omega
      have hk2 := fun c : Array Value => key ((List.range (k * n)).map fun x => c[x % c.size]!) (by simp)
      have hk3 : ∀ c : Array Value, Instr.fill (fun i => some (i * n, n)) ((Array.range (k * n)).map fun x => c[x % c.size]!) (parts.toList.map fun (i, x) => (i, ρ x)) = some (xs.flatMap fun x => cellsL (ρ x)).toArray := fun c => by
        rw [← hk2 c]; congr 1; apply Array.ext'; simp
      simp [execOp, Instr.buildSlice, run_underlying ht, sizeOf, typeInfo, hi, h1, h0, h0', zeroValue, hz, newRow, newObj, Sem.run, hk3]

/-! ### at these types -/
def cellR : List Value := saidZ ++ (saidZ ++ viewZ)
@[go_sem] theorem len_cellR : cellR.length = 54 := by kernel_rfl
theorem cellZ_cons : cellZ = .int .i64 0 :: cellR := rfl
theorem cellR_cell1 : cellR.all cell1 = true := by kernel_rfl
@[go_sem] theorem cellZ_cell1 : cellZ.all cell1 = true := by kernel_rfl
theorem cellR_ok (n : Int) (h : (Lit.int .i64 n).wf = true) : okL cellK (.int .i64 n :: cellR) = true := by
  have : okL (saidK ++ (saidK ++ viewK)) cellR = true := by kernel_rfl
  simp [cellK, okL, okK, h, this]
section
variable (ρ : Operand → Value) (d : Option Tmp) (x y u : Operand) (ty : TypeId) (s : String) (af : Array Edge) (g : Option (Nat × Bool)) (w : World)
end

/-! ### appends -/
/-- a slice's type, its element's -/
def AppOk (P : Program) (t e : TypeId) (size : Nat) : Prop :=
  P.underlying t = some (.slice e) ∧ ∃ i z, P.info? e = some i ∧ i.zero = some z ∧ i.size = size ∧ i.bytes ≤ 1024 ∧ z.cells.size = size ∧ 0 < size
theorem appOk_of {P : Program} {t e : TypeId} {size : Nat} (h1 : P.underlying t = some (.slice e)) (h2 : (match P.info? e with | some i => (match i.zero with | some z => i.size == size && decide (i.bytes ≤ 1024) && z.cells.size == size && decide (0 < size) | none => false) | none => false) = true) : AppOk P t e size := by
  refine ⟨h1, ?_⟩
  cases hi : P.info? e with
  | none => simp [hi] at h2
  | some i =>
    cases hz : i.zero with
    | none => simp [hi, hz] at h2
    | some z =>
      simp [hi, hz] at h2
      exact ⟨i, z, rfl, hz, h2.1.1.1, h2.1.1.2, h2.1.2, h2.2⟩
theorem wpList_app {P : Program} {t e : TypeId} {size : Nat} (hA : AppOk P t e size) {w : World} {ops : Array Oper} {rest : List Oper} {o : Oper} {a : Act} {Q : Exit → Act → World → Prop} (hgd : o.guard = none) (s x : Operand)
    (ho : o.op = .call { callee := .builtin .append, args := #[s, x], argTypes := #[t, t] })
    (base : Nat) (v : Value) (n : Nat) (xs : List Value) (hs : a.eval s = v) (hown : w.ownsRow base e size v n xs)
    (ad : Addr) (m c : Nat) (news : List Value) (hx : a.eval x = .slice (some ad) m c) (hl : news.length = m * size) (hr : hasRow w ad (m * size) = true) (hre : rowOf w ad (m * size) = news) (h1 : news.all cell1 = true)
    (hn : n + m ≤ 1000000000) (hbase : base ≤ w.heap.size)
    (h : ∀ v' w', w'.ownsRow base e size v' (n + m) (xs ++ news) → w.grownBy w' v.ownBlock → wpList P ops Q rest (a.put o.dst v') w') : wpList P ops Q (o :: rest) a w := by
  obtain ⟨ht, i, z, hi, hz, hsize, hby, hzs, hsz⟩ := hA
  refine wpList_append_own w hgd s x t ho base e i z size i.bytes ht hi hz hsize rfl hzs hsz v n xs hs hown ad m c news hx hl (fun j u hu => ?_) (fun u hu => cell1_one (List.all_eq_true.1 h1 u hu)) (by simp only [maxLen]; omega) ?_ hbase (fun v' w' h2 h3 _ => h v' w' h2 h3)
  · have hj : j < m * size := by rw [← hl]; exact (List.getElem?_eq_some_iff.1 hu).1
    rw [rowOf_at hr j hj, hre, hu]
  · exact Nat.le_trans (Nat.mul_le_mul hn hby) (by omega)
/-- the same at a step of a region that draws its order -/
theorem step_app {P : Program} {t e : TypeId} {size : Nat} (hA : AppOk P t e size) {w : World} {ops : Array Oper} {o : Oper} {a : Act} {K : Act → World → Prop} {Q : Exit → Act → World → Prop} {E : Prop} (hgd : o.guard = none) (s x : Operand)
    (ho : o.op = .call { callee := .builtin .append, args := #[s, x], argTypes := #[t, t] })
    (base : Nat) (v : Value) (n : Nat) (xs : List Value) (hs : a.eval s = v) (hown : w.ownsRow base e size v n xs)
    (ad : Addr) (m c : Nat) (news : List Value) (hx : a.eval x = .slice (some ad) m c) (hl : news.length = m * size) (hr : hasRow w ad (m * size) = true) (hre : rowOf w ad (m * size) = news) (h1 : news.all cell1 = true)
    (hm : 0 < m) (hn : n + m ≤ 1000000000) (hbase : base ≤ w.heap.size)
    (h : ∀ g cap w', w'.ownsRow base e size (.slice (some ⟨g, 0, none⟩) (n + m) cap) (n + m) (xs ++ news) → w.grownBy w' v.ownBlock → K (a.put o.dst (.slice (some ⟨g, 0, none⟩) (n + m) cap)) w') :
    if Region.wanted o (yielded ops a.tmps) = true then Oper.wp P o a w K Q else E := by
  obtain ⟨ht, i, z, hi, hz, hsize, hby, hzs, hsz⟩ := hA
  refine step_append_lies w hgd s x t ho base e i z size i.bytes ht hi hz hsize rfl hzs hsz v n xs hs hown ad m c news hx hl (fun j u hu => ?_) (fun u hu => cell1_one (List.all_eq_true.1 h1 u hu)) hm (by simp only [maxLen]; omega) ?_ hbase w.heap.size rfl (fun g cap w' h2 h3 _ _ => h g cap w' h2 h3)
  · have hj : j < m * size := by rw [← hl]; exact (List.getElem?_eq_some_iff.1 hu).1
    rw [rowOf_at hr j hj, hre, hu]
  · exact Nat.le_trans (Nat.mul_le_mul hn hby) (by omega)
theorem row_grown {w w' : World} {row : Option Nat} (hg : w.grownBy w' row) {p : Addr} (hp : p.block < w.heap.size) (hn : some p.block ≠ row) (n : Nat) : hasRow w' p n = hasRow w p n ∧ rowOf w' p n = rowOf w p n := row_block (hg.block _ hp hn)
theorem own_ne {w : World} {base : Nat} {e : TypeId} {size : Nat} {v : Value} {n : Nat} {xs : List Value} (h : w.ownsRow base e size v n xs) {b : Nat} (hb : b < base) : some b ≠ v.ownBlock := fun he => by have := (h.lt b he.symm).1; omega
/-- what is owned reads as a list of held things -/
theorem RdHs.of_own {w : World} {base : Nat} {e : TypeId} {v : Value} {n : Nat} {l : List Hd} (h : w.ownsRow base e 56 v n (l.flatMap Hd.vals)) (hk : ∀ x ∈ l, x.ok) :
    ∃ a cap, v = .slice a n cap ∧ RdHs (base ≤ ·) w a n l ∧ n ≤ cap ∧ cap ≤ maxLen := by
  have hlen : l.length = n := by
    have h1 := h.1
    have h2 : (l.flatMap Hd.vals).length = l.length * 56 := by
      clear h h1
      induction l with
      | nil => rfl
      | cons x l ih =>
        rw [List.flatMap_cons, List.length_append, Hd.vals_len (hk x (by simp)), ih (fun y hy => hk y (by simp [hy]))]
        simp [Nat.succ_mul, Nat.add_comm]
    omega
  rcases h.2 with ⟨rfl, rfl⟩ | ⟨g, cap, cur, rfl, hb, hg, hnc, hcm, hcs, htake⟩
  · have : l = [] := List.eq_nil_of_length_eq_zero hlen
    subst this
    exact ⟨none, 0, rfl, ⟨rfl, by simp, by simp⟩, Nat.le_refl _, by simp⟩
  · refine ⟨_, cap, rfl, ⟨hlen, hk, fun k x hx => ?_⟩, hnc, hcm⟩
    have hglt : g < w.heap.size := by
      rcases Nat.lt_or_ge g w.heap.size with h' | h'
      · exact h'
      · rw [Array.getElem?_eq_none h'] at hg; cases hg
    refine ⟨g, 0, rfl, hb, hglt, ?_⟩
    have hkl : k < l.length := (List.getElem?_eq_some_iff.1 hx).1
    have hxl := Hd.vals_len (hk x (List.mem_of_getElem? hx))
    have key : ∀ j, j < 56 → w.cell? ⟨g, 0 + k * 56 + j, none⟩ = x.vals[j]? := by
      intro j hj
      have hin : k * 56 + j < n * 56 := by
        have : (k + 1) * 56 ≤ n * 56 := Nat.mul_le_mul_right _ (by omega)
        omega
      rw [cell_of_row w g _ cur e (0, 0) hg, show 0 + k * 56 + j = k * 56 + j from by omega]
      have e1 : cur[k * 56 + j]? = (cur.toList.take (n * 56))[k * 56 + j]? := by rw [List.getElem?_take, if_pos hin]; simp
      rw [e1, htake]
      clear e1 htake h hg hcs
      clear hlen hin hnc
      induction l generalizing k with
      | nil => simp at hkl
      | cons y l ih =>
        have hy := Hd.vals_len (hk y (by simp))
        rw [List.flatMap_cons]
        cases k with
        | zero =>
          simp at hx
          subst hx
          rw [List.getElem?_append_left (by omega)]
          congr 1; omega
        | succ k =>
          rw [List.getElem?_append_right (by omega), hy, show (k + 1) * 56 + j - 56 = k * 56 + j from by omega]
          exact ih (fun z hz => hk z (by simp [hz])) k (by simpa using hx) (by simpa using hkl)
    have h2 := row_of_cells (w := w) (p := ⟨g, 0 + k * 56, none⟩) (l := x.vals) (fun j v hv => by
      rw [add_at, key j (by rw [← hxl]; exact (List.getElem?_eq_some_iff.1 hv).1), hv])
    rwa [hxl] at h2
end Go.Proofs.YtopakilglnpinaaGreatDoor
