/-
  '==' on values of flat types (bools and integers, structs and arrays of these): as the lists of their cells. Over any program. Cells, rows and words as lists of one-cell values; the walk's laws at their types.
-/
import Derived.Test.YtopakilglnpinaaGc01
import Derived.ChangeKeysEq
import Derived.Test.YtopakilglnpinaaRows
namespace Go.Proofs.Ytopakilglnpinaa
open Go.RowKit
set_option linter.unusedVariables false
set_option linter.unusedSimpArgs false

/-- kinds of one-cell values -/
inductive Kd where
  | b
  | i (k : IntKind)
def okK : Kd → Value → Bool
  | .b, .bool _ => true
  | .i k, .int k' n => k == k' && (Lit.int k n).wf
  | _, _ => false
def okL : List Kd → List Value → Bool
  | [], [] => true
  | k :: ks, v :: vs => okK k v && okL ks vs
  | _, _ => false

theorem okL_len : ∀ {ks : List Kd} {l : List Value}, okL ks l = true → l.length = ks.length
  | [], [], _ => rfl
  | k :: ks, v :: vs, h => by simp [okL] at h; simp [okL_len h.2]
  | [], _ :: _, h => by simp [okL] at h
  | _ :: _, [], h => by simp [okL] at h
theorem okL_append {ks ks' : List Kd} {l l' : List Value} : okL ks l = true → okL ks' l' = true → okL (ks ++ ks') (l ++ l') = true := by
  intro h h'
  induction ks generalizing l with
  | nil => cases l with | nil => simpa using h' | cons v vs => simp [okL] at h
  | cons k ks ih =>
    cases l with
    | nil => simp [okL] at h
    | cons v vs => simp [okL] at h ⊢; exact ⟨h.1, ih h.2⟩
theorem okL_split {ks ks' : List Kd} {l : List Value} (h : okL (ks ++ ks') l = true) : okL ks (l.take ks.length) = true ∧ okL ks' (l.drop ks.length) = true := by
  induction ks generalizing l with
  | nil => exact ⟨by simp [okL], by simpa using h⟩
  | cons k ks ih =>
    cases l with
    | nil => simp [okL] at h
    | cons v vs =>
      simp [okL] at h
      have := ih h.2
      simp [okL, h.1, this]
theorem okK_cell1 {k : Kd} {v : Value} (h : okK k v = true) : cell1 v = true := by cases k <;> cases v <;> first | rfl | simp [okK] at h
theorem okL_cell1 : ∀ {ks : List Kd} {l : List Value}, okL ks l = true → l.all cell1 = true
  | [], [], _ => rfl
  | k :: ks, v :: vs, h => by
    simp [okL] at h
    rw [List.all_cons, okK_cell1 h.1, okL_cell1 h.2]; rfl
  | [], _ :: _, h => by simp [okL] at h
  | _ :: _, [], h => by simp [okL] at h

/-- the kinds of a flat type's cells -/
def flatFs (P : Program) (F : TypeId → Option (List Kd)) : Nat → List Field → Option (List Kd)
  | _, [] => some []
  | o, f :: fs =>
    if f.name = "_" ∨ f.offset ≠ o then none else
    match F f.type, P.info? f.type with
    | some ks, some i => if i.size = ks.length then (flatFs P F (o + ks.length) fs).map (ks ++ ·) else none
    | _, _ => none
def flatT (P : Program) : Nat → TypeId → Option (List Kd)
  | 0, _ => none
  | d + 1, t =>
    match P.underlying t with
    | some .bool => some [.b]
    | some (.int k) => some [.i k]
    | some (.struct fs) => if P.stoodInHeld t then none else flatFs P (flatT P d) 0 fs.toList
    | some (.array n e) =>
      match flatT P d e, P.info? e with
      | some ks, some i => if i.size = ks.length then some (List.replicate n ks).flatten else none
      | _, _ => none
    | _ => none
def isAggB (P : Program) (t : TypeId) : Bool := match P.underlying t with | some (.struct _) => true | some (.array _ _) => true | _ => false
def wrapV (P : Program) (t : TypeId) (l : List Value) : Value := if isAggB P t then .agg l.toArray else l.headD undef

theorem run_isAggB {P : Program} {t : TypeId} (w : World) (h : ∃ d, P.underlying t = some d) : (isAgg t).run P w = .ok (isAggB P t) w := by
  obtain ⟨d, hu⟩ := h
  cases d <;> simp [isAgg, isAggB, run_underlying hu, hu]
theorem flatT_under {P : Program} {d : Nat} {t : TypeId} {ks : List Kd} (h : flatT P d t = some ks) : ∃ u, P.underlying t = some u := by
  cases d with
  | zero => simp [flatT] at h
  | succ d =>
    unfold flatT at h
    cases hu : P.underlying t with
    | none => simp [hu] at h
    | some u => exact ⟨u, rfl⟩
theorem flatT_one {P : Program} {d : Nat} {t : TypeId} {ks : List Kd} (h : flatT P d t = some ks) (hn : isAggB P t = false) : ∃ k, ks = [k] := by
  cases d with
  | zero => simp [flatT] at h
  | succ d =>
    unfold flatT at h
    unfold isAggB at hn
    cases hu : P.underlying t with
    | none => simp [hu] at h
    | some u =>
      rw [hu] at h hn
      cases u <;> simp at h hn
      · exact ⟨.b, h.symm⟩
      · exact ⟨_, h.symm⟩

theorem run_part {P : Program} {d : Nat} {t : TypeId} {ks : List Kd} (h : flatT P d t = some ks) {i : TypeInfo} (hi : P.info? t = some i) (hs : i.size = ks.length) (w : World) (X : List Value) (o : Nat) (hl : o + ks.length ≤ X.length) :
    (part t X.toArray o).run P w = .ok (wrapV P t ((X.drop o).take ks.length)) w := by
  have hA := run_isAggB w (flatT_under h)
  unfold part
  rw [Sem.run_bind, hA]
  simp only [Result.andThen_ok]
  cases hg : isAggB P t with
  | true =>
    simp only [if_true, Sem.run_bind, sizeOf, typeInfo, hi, wrapV, hg]
    simp [hi, hs, List.extract]
  | false =>
    obtain ⟨k, rfl⟩ := flatT_one h hg
    simp at hl
    have hlt : o < X.length := by omega
    have e1 : ((X.drop o).take [k].length).headD undef = X[o] := by rw [List.drop_eq_getElem_cons hlt]; rfl
    simp only [wrapV, hg, Bool.false_eq_true, if_false, e1]
    simp [hlt]

theorem dec_append {X Y : List Value} {n : Nat} [Decidable (X = Y)] [Decidable (X.take n = Y.take n)] [Decidable (X.drop n = Y.drop n)] :
    decide (X = Y) = (decide (X.take n = Y.take n) && decide (X.drop n = Y.drop n)) := by
  by_cases h : X = Y
  · subst h; simp
  · have : ¬ (X.take n = Y.take n ∧ X.drop n = Y.drop n) := fun ⟨h1, h2⟩ => h (by rw [← List.take_append_drop n X, h1, h2, List.take_append_drop])
    simp [h]
    by_cases h1 : X.take n = Y.take n
    · simp [h1]; exact fun h2 => this ⟨h1, h2⟩
    · simp [h1]

open Classical in
theorem run_eqFs {P : Program} {d e : Nat} (IH : ∀ t ks, flatT P d t = some ks → ∀ (X Y : List Value) (w : World), okL ks X = true → okL ks Y = true → (Op.equalIn e t (wrapV P t X) (wrapV P t Y)).run P w = .ok (decide (X = Y)) w)
    (X Y : List Value) (w : World) : ∀ (fs : List Field) (o : Nat) (ks : List Kd), flatFs P (flatT P d) o fs = some ks → okL ks (X.drop o) = true → okL ks (Y.drop o) = true →
    (Op.eqFields e X.toArray Y.toArray fs).run P w = .ok (decide (X.drop o = Y.drop o)) w
  | [], o, ks, h, hx, hy => by
    simp [flatFs] at h
    subst h
    have h1 := okL_len hx
    have h2 := okL_len hy
    simp only [List.length_nil] at h1 h2
    rw [List.eq_nil_of_length_eq_zero h1, List.eq_nil_of_length_eq_zero h2]
    simp [Op.eqFields]
  | f :: fs, o, ks, h, hx, hy => by
    unfold flatFs at h
    split at h
    · cases h
    · rename_i hno
      simp only [not_or, ne_eq, Decidable.not_not] at hno
      obtain ⟨hn, ho⟩ := hno
      split at h
      · rename_i k1 i hk1 hi
        split at h
        · rename_i hs
          rw [Option.map_eq_some_iff] at h
          obtain ⟨k2, hk2, rfl⟩ := h
          have hlx := okL_len hx
          have hly := okL_len hy
          rw [List.length_drop, List.length_append] at hlx hly
          obtain ⟨hx1, hx2⟩ := okL_split hx
          obtain ⟨hy1, hy2⟩ := okL_split hy
          have hob : o + k1.length ≤ X.length ∨ k1.length = 0 := by omega
          have px := run_part hk1 hi hs w X o
          have py := run_part hk1 hi hs w Y o
          subst ho
          have one : ∀ Z : List Value, okL k1 ((Z.drop f.offset).take k1.length) = true → (part f.type Z.toArray f.offset).run P w = .ok (wrapV P f.type ((Z.drop f.offset).take k1.length)) w := by
            intro Z hz
            by_cases hle : f.offset + k1.length ≤ Z.length
            · exact run_part hk1 hi hs w Z f.offset hle
            · have hzl := okL_len hz
              rw [List.length_take, List.length_drop] at hzl
              have hk0 : k1.length = 0 := by omega
              have hA := run_isAggB w (flatT_under hk1)
              have hg : isAggB P f.type = true := by
                cases hg : isAggB P f.type with
                | true => rfl
                | false => obtain ⟨k, rfl⟩ := flatT_one hk1 hg; simp at hk0
              unfold part
              rw [Sem.run_bind, hA]
              simp only [Result.andThen_ok, hg, if_true, Sem.run_bind, sizeOf, typeInfo, hi, wrapV]
              simp [hi, hs, hk0]
          simp only [Op.eqFields, ne_eq, hn, not_false_eq_true, if_true, Sem.run_bind, one X hx1, one Y hy1, Result.andThen_ok, IH f.type k1 hk1 _ _ w hx1 hy1]
          rw [List.drop_drop] at hx2 hy2
          have ih := run_eqFs IH X Y w fs (f.offset + k1.length) k2 hk2 (by simpa [Nat.add_comm] using hx2) (by simpa [Nat.add_comm] using hy2)
          rw [dec_append (X := X.drop f.offset) (Y := Y.drop f.offset) (n := k1.length)]
          by_cases h1 : (X.drop f.offset).take k1.length = (Y.drop f.offset).take k1.length
          · simp [h1, ih, List.drop_drop]
          · simp [h1]
        · cases h
      · cases h

open Classical in
theorem run_eqIs {P : Program} {d e : Nat} {t : TypeId} {k1 : List Kd} {i : TypeInfo} (hk1 : flatT P d t = some k1) (hi : P.info? t = some i) (hs : i.size = k1.length)
    (IH : ∀ (X Y : List Value) (w : World), okL k1 X = true → okL k1 Y = true → (Op.equalIn e t (wrapV P t X) (wrapV P t Y)).run P w = .ok (decide (X = Y)) w)
    (X Y : List Value) (w : World) : ∀ (n s : Nat), okL (List.replicate n k1).flatten (X.drop (s * k1.length)) = true → okL (List.replicate n k1).flatten (Y.drop (s * k1.length)) = true →
    (Op.eqItems e t k1.length X.toArray Y.toArray (List.range' s n)).run P w = .ok (decide (X.drop (s * k1.length) = Y.drop (s * k1.length))) w
  | 0, s, hx, hy => by
    have h1 := okL_len hx
    have h2 := okL_len hy
    simp only [List.replicate_zero, List.flatten_nil, List.length_nil] at h1 h2
    rw [List.eq_nil_of_length_eq_zero h1, List.eq_nil_of_length_eq_zero h2]
    simp [Op.eqItems]
  | n + 1, s, hx, hy => by
    rw [List.replicate_succ, List.flatten_cons] at hx hy
    have hlx := okL_len hx
    have hly := okL_len hy
    rw [List.length_drop, List.length_append] at hlx hly
    obtain ⟨hx1, hx2⟩ := okL_split hx
    obtain ⟨hy1, hy2⟩ := okL_split hy
    have one : ∀ Z : List Value, okL k1 ((Z.drop (s * k1.length)).take k1.length) = true → (part t Z.toArray (s * k1.length)).run P w = .ok (wrapV P t ((Z.drop (s * k1.length)).take k1.length)) w := by
      intro Z hz
      by_cases hle : s * k1.length + k1.length ≤ Z.length
      · exact run_part hk1 hi hs w Z _ hle
      · have hzl := okL_len hz
        rw [List.length_take, List.length_drop] at hzl
        have hk0 : k1.length = 0 := by omega
        have hA := run_isAggB w (flatT_under hk1)
        have hg : isAggB P t = true := by
          cases hg : isAggB P t with
          | true => rfl
          | false => obtain ⟨k, rfl⟩ := flatT_one hk1 hg; simp at hk0
        unfold part
        rw [Sem.run_bind, hA]
        simp only [Result.andThen_ok, hg, if_true, Sem.run_bind, sizeOf, typeInfo, hi, wrapV]
        simp [hi, hs, hk0]
    rw [List.range'_succ]
    simp only [Op.eqItems, Sem.run_bind, one X hx1, one Y hy1, Result.andThen_ok, IH _ _ w hx1 hy1]
    rw [List.drop_drop] at hx2 hy2
    have e1 : (s + 1) * k1.length = s * k1.length + k1.length := Nat.succ_mul _ _
    have ih := run_eqIs hk1 hi hs IH X Y w n (s + 1) (by rw [e1]; simpa [Nat.add_comm] using hx2) (by rw [e1]; simpa [Nat.add_comm] using hy2)
    rw [dec_append (X := X.drop (s * k1.length)) (Y := Y.drop (s * k1.length)) (n := k1.length)]
    by_cases h1 : (X.drop (s * k1.length)).take k1.length = (Y.drop (s * k1.length)).take k1.length
    · simp only [h1, decide_true, Bool.not_true, Bool.false_eq_true, if_false, Bool.true_and, ih, List.drop_drop, e1]
    · simp [h1]

open Classical in
theorem run_eqFlat {P : Program} (e : Nat) : ∀ (d : Nat) (t : TypeId) (ks : List Kd), flatT P d t = some ks → ∀ (X Y : List Value) (w : World), okL ks X = true → okL ks Y = true →
    (Op.equalIn (e + d) t (wrapV P t X) (wrapV P t Y)).run P w = .ok (decide (X = Y)) w
  | 0, t, ks, h, X, Y, w, hx, hy => by simp [flatT] at h
  | d + 1, t, ks, h, X, Y, w, hx, hy => by
    unfold flatT at h
    cases hu : P.underlying t with
    | none => simp [hu] at h
    | some u =>
      rw [hu] at h
      cases u <;> simp only [reduceCtorEq] at h
      case bool =>
        simp at h
        subst h
        match X, Y, hx, hy with
        | [x], [y], hx, hy =>
          simp [okL] at hx hy
          cases x <;> simp [okK] at hx
          cases y <;> simp [okK] at hy
          rename_i a b
          have hn : isAggB P t = false := by simp [isAggB, hu]
          simp only [wrapV, hn, Bool.false_eq_true, if_false, List.headD_cons, ← Nat.add_assoc, run_equalIn_bool' w _ t a b hu]
          congr 1
          cases a <;> cases b <;> simp
        | [], _, hx, _ => simp [okL] at hx
        | _ :: _ :: _, _, hx, _ => simp [okL] at hx
        | [_], [], _, hy => simp [okL] at hy
        | [_], _ :: _ :: _, _, hy => simp [okL] at hy
      case int k =>
        simp at h
        subst h
        match X, Y, hx, hy with
        | [x], [y], hx, hy =>
          simp [okL] at hx hy
          cases x <;> simp [okK] at hx
          cases y <;> simp [okK] at hy
          rename_i ka a kb b
          obtain ⟨rfl, _⟩ := hx
          obtain ⟨rfl, _⟩ := hy
          have hn : isAggB P t = false := by simp [isAggB, hu]
          simp only [wrapV, hn, Bool.false_eq_true, if_false, List.headD_cons, ← Nat.add_assoc, run_equalIn_int w _ t _ _ a b hu]
          congr 1
          by_cases hab : a = b <;> simp [hab]
        | [], _, hx, _ => simp [okL] at hx
        | _ :: _ :: _, _, hx, _ => simp [okL] at hx
        | [_], [], _, hy => simp [okL] at hy
        | [_], _ :: _ :: _, _, hy => simp [okL] at hy
      case struct fs =>
        split at h
        · cases h
        · rename_i hst
          have hg : isAggB P t = true := by simp [isAggB, hu]
          have hfs : P.fieldsOf t = fs := by simp [Program.fieldsOf, hu]
          have := run_eqFs (e := e + d) (run_eqFlat e d) X Y w fs.toList 0 ks h (by simpa using hx) (by simpa using hy)
          simp only [wrapV, hg, if_true, ← Nat.add_assoc]
          rw [run_equalIn_struct w (e + d) t _ _ (by rw [hfs]; exact hu) (by simpa using hst), hfs, this]
          simp
      case array n el =>
        split at h
        · rename_i k1 i hk1 hi
          split at h
          · rename_i hs
            simp at h
            subst h
            have hg : isAggB P t = true := by simp [isAggB, hu]
            have hc : P.cellsOf el = k1.length := by simp [Program.cellsOf, hi, hs]
            have := run_eqIs (e := e + d) hk1 hi hs (run_eqFlat e d el k1 hk1) X Y w n 0 (by simpa using hx) (by simpa using hy)
            simp only [wrapV, hg, if_true, ← Nat.add_assoc]
            rw [run_equalIn_array w (e + d) _ _ hu hi, hc, List.range_eq_range', this]
            simp
          · cases h
        · cases h

/-! ### the walk's law: '==' and '!=' on structs -/
def okV (ks : List Kd) : Value → Bool
  | .agg cs => okL ks cs.toList
  | _ => false
@[go_sem] theorem okV_list (ks : List Kd) (l : List Value) : okV ks (.agg l.toArray) = okL ks l := (rfl)
open Classical in
noncomputable def eqV : Value → Value → Bool
  | .agg a, .agg b => decide (a.toList = b.toList)
  | _, _ => false
open Classical in
@[go_sem] theorem eqV_list (a b : List Value) : eqV (.agg a.toArray) (.agg b.toArray) = decide (a = b) := (rfl)
theorem exec_eql {P : Program} {d : Nat} {t : TypeId} {ks : List Kd} (hf : flatT P d t = some ks) (hd : d ≤ 10000) (hg : isAggB P t = true) (hq : P.eqGuardType P.depth t = false)
    (ρ : Operand → Value) (ds : Option Tmp) (x y : Operand) (t' ty : TypeId) (s : String) (af : Array Edge) (g : Option (Nat × Bool)) (w : World)
    (h1 : okV ks (ρ x) = true) (h2 : okV ks (ρ y) = true) :
    (execOp ρ { dst := ds, op := .binOp .eql t x y t', type := ty, pos := s, after := af, guard := g }).run P w = .ok (.value (.bool (eqV (ρ x) (ρ y)))) w := by
  generalize hx : ρ x = vx at h1 ⊢
  generalize hy : ρ y = vy at h2 ⊢
  cases vx <;> simp [okV] at h1
  cases vy <;> simp [okV] at h2
  rename_i xs ys
  have := run_eqFlat (P := P) (10000 - d) d t ks hf xs.toList ys.toList w h1 h2
  rw [Nat.sub_add_cancel hd] at this
  simp only [wrapV, hg, if_true, Array.toArray_toList] at this
  simp [execOp, hx, hy, run_eqGuard_agg w .eql t x y xs ys hq, run_eql_struct, this, eqV]
theorem exec_neq {P : Program} {d : Nat} {t : TypeId} {ks : List Kd} (hf : flatT P d t = some ks) (hd : d ≤ 10000) (hg : isAggB P t = true) (hq : P.eqGuardType P.depth t = false)
    (ρ : Operand → Value) (ds : Option Tmp) (x y : Operand) (t' ty : TypeId) (s : String) (af : Array Edge) (g : Option (Nat × Bool)) (w : World)
    (h1 : okV ks (ρ x) = true) (h2 : okV ks (ρ y) = true) :
    (execOp ρ { dst := ds, op := .binOp .neq t x y t', type := ty, pos := s, after := af, guard := g }).run P w = .ok (.value (.bool (!eqV (ρ x) (ρ y)))) w := by
  generalize hx : ρ x = vx at h1 ⊢
  generalize hy : ρ y = vy at h2 ⊢
  cases vx <;> simp [okV] at h1
  cases vy <;> simp [okV] at h2
  rename_i xs ys
  have := run_eqFlat (P := P) (10000 - d) d t ks hf xs.toList ys.toList w h1 h2
  rw [Nat.sub_add_cancel hd] at this
  simp only [wrapV, hg, if_true, Array.toArray_toList] at this
  simp [execOp, hx, hy, run_eqGuard_agg w .neq t x y xs ys hq, run_neq_struct, this, eqV]
end Go.Proofs.Ytopakilglnpinaa
namespace Go.Proofs.Ytopakilglnpinaa
open Go.RowKit
set_option linter.unusedVariables false
set_option linter.unusedSimpArgs false

/-! ### new blocks -/
def zeroIs (P : Program) (t : TypeId) (z : List Value) : Prop := (P.info? t).map (fun i => i.zero.map fun v => v.cells.toList) = some (some z)
theorem run_zero {P : Program} {t : TypeId} {z : List Value} (h : zeroIs P t z) (w : World) : ∃ v, (zeroValue t).run P w = .ok v w ∧ v.cells = z.toArray := by
  unfold zeroIs at h
  cases hi : P.info? t with
  | none => simp [hi] at h
  | some i =>
    cases hz : i.zero with
    | none => simp [hi, hz] at h
    | some v =>
      simp [hi, hz] at h
      exact ⟨v, by simp [zeroValue, typeInfo, hi, hz], by rw [← h]⟩
theorem exec_alloc {P : Program} {t : TypeId} {z : List Value} (hz : zeroIs P t z) (ρ : Operand → Value) (d : Option Tmp) (ty : TypeId) (s : String) (af : Array Edge) (g : Option (Nat × Bool)) (w : World) :
    (execOp ρ { dst := d, op := .alloc t, type := ty, pos := s, after := af, guard := g }).run P w = .ok (.value (.pointer (some ⟨w.heap.size, 0, none⟩))) (w.alloc (.cells z.toArray t)) := by
  obtain ⟨v, h1, h2⟩ := run_zero hz w
  simp [execOp, Instr.alloc, h1, newVar, newRow, h2, newObj, Sem.run]

@[go_sem] theorem canPut_new (w : World) (l : List Value) (t : TypeId) (i n : Nat) : canPut (w.alloc (.cells l.toArray t)) ⟨w.heap.size, i, none⟩ n = decide (i + n ≤ l.length) := by
  unfold canPut
  rw [heap_alloc_new]
  simp
theorem setRow_new (w : World) (a b : Array Value) (t : TypeId) : (w.alloc (.cells a t)).setRow w.heap.size b = w.alloc (.cells b t) := by
  have : ∀ (f : Obj → Obj) (o : Obj), (w.heap.push o).modify w.heap.size f = w.heap.push (f o) := by
    intro f o
    apply Array.ext (by simp)
    intro i h1 h2
    rw [Array.getElem_modify, Array.getElem_push, Array.getElem_push]
    by_cases hi : i < w.heap.size
    · simp only [hi, dif_pos, if_neg (Nat.ne_of_gt hi)]
    · have : w.heap.size = i := by simp at h2; omega
      simp [hi, this]
  show ({ w with heap := (w.heap.push _).modify _ _ } : World) = { w with heap := w.heap.push _ }
  rw [this]
theorem putRow_new_at (w : World) (z l : List Value) (t : TypeId) (i : Nat) : putRow (w.alloc (.cells z.toArray t)) ⟨w.heap.size, i, none⟩ l = w.alloc (.cells (z.take i ++ l ++ z.drop (i + l.length)).toArray t) := by
  unfold putRow
  simp only [heap_alloc_new, setRow_new]
@[go_sem] theorem putRow_new (w : World) (z l : List Value) (t : TypeId) (h : z.length = l.length) : putRow (w.alloc (.cells z.toArray t)) ⟨w.heap.size, 0, none⟩ l = w.alloc (.cells l.toArray t) := by
  rw [putRow_new_at]; simp [← h]
@[go_sem] theorem canPut_alloc (w : World) (o : Obj) (p : Addr) (n : Nat) (h : p.block < w.heap.size) : canPut (w.alloc o) p n = canPut w p n := by
  simp [canPut, Below.heap_alloc w o _ h]
theorem setRow_alloc (w : World) (o : Obj) (g : Nat) (cs : Array Value) (h : g < w.heap.size) : (w.alloc o).setRow g cs = (w.setRow g cs).alloc o := by
  have : ∀ f : Obj → Obj, (w.heap.push o).modify g f = (w.heap.modify g f).push o := by
    intro f
    apply Array.ext (by simp)
    intro i h1 h2
    rw [Array.getElem_modify, Array.getElem_push, Array.getElem_push]
    simp only [Array.size_modify]
    by_cases hi : i < w.heap.size
    · simp only [hi, dif_pos, Array.getElem_modify]
    · simp only [hi, dif_neg, not_false_eq_true]
      rw [if_neg (by omega)]
  show ({ w with heap := (w.heap.push o).modify g _ } : World) = { w with heap := (w.heap.modify g _).push o }
  rw [this]
@[go_sem] theorem putRow_alloc (w : World) (o : Obj) (p : Addr) (l : List Value) (h : p.block < w.heap.size) : putRow (w.alloc o) p l = (putRow w p l).alloc o := by
  unfold putRow
  rw [Below.heap_alloc w o _ h]
  split
  · rw [setRow_alloc _ _ _ _ h]
  · rfl
@[go_sem] theorem canPut_drew (w : World) (p : Addr) (n : Nat) : canPut w.drew p n = canPut w p n := (rfl)
@[go_sem] theorem canPut_drewN (w : World) (k : Nat) (p : Addr) (n : Nat) : canPut (w.drewN k) p n = canPut w p n := (rfl)
@[go_sem] theorem putRow_drew (w : World) (p : Addr) (l : List Value) : putRow w.drew p l = (putRow w p l).drew := by
  have e : w.drew.heap = w.heap := rfl
  unfold putRow; rw [e]; split <;> rfl
@[go_sem] theorem putRow_drewN (w : World) (k : Nat) (p : Addr) (l : List Value) : putRow (w.drewN k) p l = (putRow w p l).drewN k := by
  have e : (w.drewN k).heap = w.heap := rfl
  unfold putRow; rw [e]; split <;> rfl
theorem setRow_block (w : World) (g k : Nat) (cs : Array Value) (h : k ≠ g) : (w.setRow g cs).heap[k]? = w.heap[k]? := setRow_other w g k cs h
theorem putRow_other (w : World) (p : Addr) (l : List Value) (k : Nat) (h : k ≠ p.block) : (putRow w p l).heap[k]? = w.heap[k]? := by
  unfold putRow; split
  · exact setRow_block _ _ _ _ h
  · rfl
@[simp] theorem size_putRow (w : World) (p : Addr) (l : List Value) : (putRow w p l).heap.size = w.heap.size := by
  unfold putRow; split <;> simp
theorem Blk.put {w : World} {g : Nat} {t : TypeId} {z : List Value} (h : Blk w g t z.toArray) (i : Nat) (l : List Value) : Blk (putRow w ⟨g, i, none⟩ l) g t (z.take i ++ l ++ z.drop (i + l.length)).toArray := by
  unfold Blk at h ⊢
  simp only [putRow, h]
  exact setRow_heap w g _ _ t _ h
theorem Chg.put {S : Nat → Prop} {a w : World} (h : Chg S a w) {p : Addr} (hp : S p.block ∨ a.heap.size ≤ p.block) (l : List Value) : Chg S a (putRow w p l) :=
  ⟨by unfold putRow; split <;> exact h.os, by unfold putRow; split <;> exact h.tape, by unfold putRow; split <;> exact h.output, by have := h.size; simp; omega,
   fun k hk hn => (putRow_other _ _ _ _ (by rintro rfl; rcases hp with hp | hp; exact hn hp; omega)).trans (h.block k hk hn)⟩
theorem Below.put {B : Nat} {a w : World} (h : Below B a w) {p : Addr} (hp : B ≤ p.block) (l : List Value) : Below B a (putRow w p l) :=
  h.trans ⟨by unfold putRow; split <;> rfl, by unfold putRow; split <;> rfl, by unfold putRow; split <;> rfl, by simp, fun k hk => putRow_other _ _ _ _ (by omega)⟩

/-- what a known block is good for in a walk -/
theorem Blk.rules {w : World} {g : Nat} {t : TypeId} {l : List Value} (h : Blk w g t l.toArray) :
    (∀ i, w.cell? ⟨g, i, none⟩ = l[i]?) ∧ (∀ i, w.frozen? ⟨g, i, none⟩ = false) ∧ (∀ i n, hasRow w ⟨g, i, none⟩ n = (n == 0 || decide (i + n ≤ l.length))) ∧
    (∀ i n, i + n ≤ l.length → rowOf w ⟨g, i, none⟩ n = (l.drop i).take n) ∧ (∀ i n, canPut w ⟨g, i, none⟩ n = decide (i + n ≤ l.length)) := by
  have hc : ∀ i, w.cell? ⟨g, i, none⟩ = l[i]? := fun i => by rw [h.cell i]; simp
  refine ⟨hc, h.frozen, fun i n => ?_, fun i n hn => ?_, fun i n => ?_⟩
  · by_cases h0 : n = 0
    · subst h0; simp [hasRow]
    · by_cases hin : i + n ≤ l.length
      · rw [show (n == 0 || decide (i + n ≤ l.length)) = true from by simp [hin]]
        rw [hasRow_iff]
        intro j hj
        rw [add_at, hc]
        simp; omega
      · rw [show (n == 0 || decide (i + n ≤ l.length)) = false from by simp [hin, h0]]
        rw [Bool.eq_false_iff]
        intro hh
        have := hasRow_iff.1 hh (n - 1) (by omega)
        rw [add_at, hc] at this
        simp at this
        omega
  · apply List.ext_getElem?
    intro j
    by_cases hj : j < n
    · have hx : i + j < l.length := by omega
      simp [rowOf, hj, add_at, hc, List.getElem?_take, List.getElem?_drop, List.getElem?_eq_getElem hx]
    · rw [List.getElem?_eq_none (by rw [length_rowOf]; omega), List.getElem?_take, if_neg hj]
  · unfold Blk at h
    simp [canPut, h]

/-! ### the cells of api.Cell -/
def saidK : List Kd := [.b, .i .i64, .i .u8, .i .u8, .i .u32, .i .u32]
def viewK : List Kd := [.b, .b, .b, .b, .b, .b, .b, .b] ++ (List.replicate 8 (.i .u8) ++ (List.replicate 8 (.i .u8) ++ (List.replicate 8 (.i .u16) ++ ([.b, .b, .b, .b, .b, .b, .b, .b] ++ [.i .i8, .i .u8]))))
def cellK : List Kd := .i .i64 :: (saidK ++ (saidK ++ viewK))
def heldK : List Kd := .b :: cellK
def saidZ : List Value := [.bool false, .int .i64 0, .int .u8 0, .int .u8 0, .int .u32 0, .int .u32 0]
def viewZ : List Value := List.replicate 8 (.bool false) ++ (List.replicate 8 (.int .u8 0) ++ (List.replicate 8 (.int .u8 0) ++ (List.replicate 8 (.int .u16 0) ++ (List.replicate 8 (.bool false) ++ [.int .i8 0, .int .u8 0]))))
def cellZ : List Value := .int .i64 0 :: (saidZ ++ (saidZ ++ viewZ))
def heldZ : List Value := .bool false :: cellZ
theorem cellZ_ok : okL cellK cellZ = true := by kernel_rfl
theorem heldZ_ok : okL heldK heldZ = true := by kernel_rfl
theorem len_cellK : cellK.length = 55 := by kernel_rfl
theorem len_heldK : heldK.length = 56 := by kernel_rfl
@[go_sem] theorem len_cellZ : cellZ.length = 55 := by kernel_rfl
@[go_sem] theorem len_heldZ : heldZ.length = 56 := by kernel_rfl
theorem okL_held (b : Bool) (c : List Value) : okL heldK (.bool b :: c) = okL cellK c := by simp [heldK, okL, okK]

/-- what is held of a node: is it there, its cell -/
structure Hd where
  is : Bool
  c : List Value
def Hd.vals (h : Hd) : List Value := .bool h.is :: h.c
def Hd.ok (h : Hd) : Prop := okL cellK h.c = true
def hd0 : Hd := ⟨false, cellZ⟩
theorem hd0_ok : hd0.ok := cellZ_ok
theorem hd0_vals : hd0.vals = heldZ := rfl
theorem Hd.ok_len {h : Hd} (hk : h.ok) : h.c.length = 55 := (okL_len hk).trans len_cellK
theorem Hd.vals_len {h : Hd} (hk : h.ok) : h.vals.length = 56 := by simp [Hd.vals, Hd.ok_len hk]
theorem Hd.vals_ok {h : Hd} (hk : h.ok) : okL heldK h.vals = true := by rw [Hd.vals, okL_held]; exact hk
theorem Hd.vals_inj {h h' : Hd} : h.vals = h'.vals ↔ h = h' := by cases h; cases h'; simp [Hd.vals]
theorem cell_age {c : List Value} (h : okL cellK c = true) : ∃ n r, c = .int .i64 n :: r ∧ -9223372036854775808 ≤ n ∧ n ≤ 9223372036854775807 := by
  cases c with
  | nil => simp [cellK, okL] at h
  | cons v r =>
    simp only [cellK, okL, Bool.and_eq_true] at h
    cases v <;> simp [okK] at h
    obtain ⟨⟨rfl, hw⟩, _⟩ := h
    exact ⟨_, r, rfl, by simpa [Lit.wf, IntKind.min, IntKind.max, IntKind.signed, IntKind.bits] using hw⟩
def ageL : List Value → Int
  | .int _ n :: _ => n
  | _ => 0

/-! ### the walk's laws at these types -/
@[go_sem ↓] theorem ld_cell (ρ : Operand → Value) (d : Option Tmp) (x : Operand) (ty : TypeId) (s : String) (af : Array Edge) (g : Option (Nat × Bool)) (w : World) (h : hasRowV w 55 (ρ x) = true) :
    (execOp ρ { dst := d, op := .load 51 x, type := ty, pos := s, after := af, guard := g }).run Try.prog w = .ok (.value (.agg (rowV w 55 (ρ x)).toArray)) w := exec_load (by kernel_rfl) ρ d x ty s af g w h
@[go_sem ↓] theorem ld_held (ρ : Operand → Value) (d : Option Tmp) (x : Operand) (ty : TypeId) (s : String) (af : Array Edge) (g : Option (Nat × Bool)) (w : World) (h : hasRowV w 56 (ρ x) = true) :
    (execOp ρ { dst := d, op := .load 90 x, type := ty, pos := s, after := af, guard := g }).run Try.prog w = .ok (.value (.agg (rowV w 56 (ρ x)).toArray)) w := exec_load (by kernel_rfl) ρ d x ty s af g w h
@[go_sem ↓] theorem ld_rheld (ρ : Operand → Value) (d : Option Tmp) (x : Operand) (ty : TypeId) (s : String) (af : Array Edge) (g : Option (Nat × Bool)) (w : World) (h : hasRowV w 56 (ρ x) = true) :
    (execOp ρ { dst := d, op := .load 107 x, type := ty, pos := s, after := af, guard := g }).run Try.prog w = .ok (.value (.agg (rowV w 56 (ρ x)).toArray)) w := exec_load (by kernel_rfl) ρ d x ty s af g w h
@[go_sem ↓] theorem ld_row (ρ : Operand → Value) (d : Option Tmp) (x : Operand) (ty : TypeId) (s : String) (af : Array Edge) (g : Option (Nat × Bool)) (w : World) (h : hasRowV w 57 (ρ x) = true) :
    (execOp ρ { dst := d, op := .load 54 x, type := ty, pos := s, after := af, guard := g }).run Try.prog w = .ok (.value (.agg (rowV w 57 (ρ x)).toArray)) w := exec_load (by kernel_rfl) ρ d x ty s af g w h
@[go_sem ↓] theorem ld_rrow (ρ : Operand → Value) (d : Option Tmp) (x : Operand) (ty : TypeId) (s : String) (af : Array Edge) (g : Option (Nat × Bool)) (w : World) (h : hasRowV w 57 (ρ x) = true) :
    (execOp ρ { dst := d, op := .load 74 x, type := ty, pos := s, after := af, guard := g }).run Try.prog w = .ok (.value (.agg (rowV w 57 (ρ x)).toArray)) w := exec_load (by kernel_rfl) ρ d x ty s af g w h
@[go_sem ↓] theorem st_cell (ρ : Operand → Value) (d : Option Tmp) (x y : Operand) (ty : TypeId) (s : String) (af : Array Edge) (g : Option (Nat × Bool)) (w : World) (h1 : okAgg 55 (ρ y) = true) (h2 : canPutV w 55 (ρ x) = true) :
    (execOp ρ { dst := d, op := .store 51 x y, type := ty, pos := s, after := af, guard := g }).run Try.prog w = .ok .skip (putV w (ρ x) (ρ y)) := exec_store (by kernel_rfl) ρ d x y ty s af g w h1 h2
@[go_sem ↓] theorem st_held (ρ : Operand → Value) (d : Option Tmp) (x y : Operand) (ty : TypeId) (s : String) (af : Array Edge) (g : Option (Nat × Bool)) (w : World) (h1 : okAgg 56 (ρ y) = true) (h2 : canPutV w 56 (ρ x) = true) :
    (execOp ρ { dst := d, op := .store 90 x y, type := ty, pos := s, after := af, guard := g }).run Try.prog w = .ok .skip (putV w (ρ x) (ρ y)) := exec_store (by kernel_rfl) ρ d x y ty s af g w h1 h2
@[go_sem ↓] theorem st_rheld (ρ : Operand → Value) (d : Option Tmp) (x y : Operand) (ty : TypeId) (s : String) (af : Array Edge) (g : Option (Nat × Bool)) (w : World) (h1 : okAgg 56 (ρ y) = true) (h2 : canPutV w 56 (ρ x) = true) :
    (execOp ρ { dst := d, op := .store 107 x y, type := ty, pos := s, after := af, guard := g }).run Try.prog w = .ok .skip (putV w (ρ x) (ρ y)) := exec_store (by kernel_rfl) ρ d x y ty s af g w h1 h2
@[go_sem ↓] theorem st_row (ρ : Operand → Value) (d : Option Tmp) (x y : Operand) (ty : TypeId) (s : String) (af : Array Edge) (g : Option (Nat × Bool)) (w : World) (h1 : okAgg 57 (ρ y) = true) (h2 : canPutV w 57 (ρ x) = true) :
    (execOp ρ { dst := d, op := .store 54 x y, type := ty, pos := s, after := af, guard := g }).run Try.prog w = .ok .skip (putV w (ρ x) (ρ y)) := exec_store (by kernel_rfl) ρ d x y ty s af g w h1 h2
@[go_sem ↓] theorem st_rrow (ρ : Operand → Value) (d : Option Tmp) (x y : Operand) (ty : TypeId) (s : String) (af : Array Edge) (g : Option (Nat × Bool)) (w : World) (h1 : okAgg 57 (ρ y) = true) (h2 : canPutV w 57 (ρ x) = true) :
    (execOp ρ { dst := d, op := .store 74 x y, type := ty, pos := s, after := af, guard := g }).run Try.prog w = .ok .skip (putV w (ρ x) (ρ y)) := exec_store (by kernel_rfl) ρ d x y ty s af g w h1 h2
@[go_sem ↓] theorem al_cell (ρ : Operand → Value) (d : Option Tmp) (ty : TypeId) (s : String) (af : Array Edge) (g : Option (Nat × Bool)) (w : World) :
    (execOp ρ { dst := d, op := .alloc 51, type := ty, pos := s, after := af, guard := g }).run Try.prog w = .ok (.value (.pointer (some ⟨w.heap.size, 0, none⟩))) (w.alloc (.cells cellZ.toArray 51)) := exec_alloc (by unfold zeroIs; kernel_rfl) ρ d ty s af g w
@[go_sem ↓] theorem al_held (ρ : Operand → Value) (d : Option Tmp) (ty : TypeId) (s : String) (af : Array Edge) (g : Option (Nat × Bool)) (w : World) :
    (execOp ρ { dst := d, op := .alloc 90, type := ty, pos := s, after := af, guard := g }).run Try.prog w = .ok (.value (.pointer (some ⟨w.heap.size, 0, none⟩))) (w.alloc (.cells heldZ.toArray 90)) := exec_alloc (by unfold zeroIs; kernel_rfl) ρ d ty s af g w
@[go_sem ↓] theorem al_rheld (ρ : Operand → Value) (d : Option Tmp) (ty : TypeId) (s : String) (af : Array Edge) (g : Option (Nat × Bool)) (w : World) :
    (execOp ρ { dst := d, op := .alloc 107, type := ty, pos := s, after := af, guard := g }).run Try.prog w = .ok (.value (.pointer (some ⟨w.heap.size, 0, none⟩))) (w.alloc (.cells heldZ.toArray 107)) := exec_alloc (by unfold zeroIs; kernel_rfl) ρ d ty s af g w
def rowZ : List Value := .bool false :: (cellZ ++ [.slice none 0 0])
@[go_sem] theorem len_rowZ : rowZ.length = 57 := by kernel_rfl
@[go_sem ↓] theorem al_row (ρ : Operand → Value) (d : Option Tmp) (ty : TypeId) (s : String) (af : Array Edge) (g : Option (Nat × Bool)) (w : World) :
    (execOp ρ { dst := d, op := .alloc 54, type := ty, pos := s, after := af, guard := g }).run Try.prog w = .ok (.value (.pointer (some ⟨w.heap.size, 0, none⟩))) (w.alloc (.cells rowZ.toArray 54)) := exec_alloc (by unfold zeroIs; kernel_rfl) ρ d ty s af g w
@[go_sem ↓] theorem al_rrow (ρ : Operand → Value) (d : Option Tmp) (ty : TypeId) (s : String) (af : Array Edge) (g : Option (Nat × Bool)) (w : World) :
    (execOp ρ { dst := d, op := .alloc 74, type := ty, pos := s, after := af, guard := g }).run Try.prog w = .ok (.value (.pointer (some ⟨w.heap.size, 0, none⟩))) (w.alloc (.cells rowZ.toArray 74)) := exec_alloc (by unfold zeroIs; kernel_rfl) ρ d ty s af g w
@[go_sem ↓] theorem eq_cell (ρ : Operand → Value) (ds : Option Tmp) (x y : Operand) (t' ty : TypeId) (s : String) (af : Array Edge) (g : Option (Nat × Bool)) (w : World) (h1 : okV cellK (ρ x) = true) (h2 : okV cellK (ρ y) = true) :
    (execOp ρ { dst := ds, op := .binOp .eql 51 x y t', type := ty, pos := s, after := af, guard := g }).run Try.prog w = .ok (.value (.bool (eqV (ρ x) (ρ y)))) w := exec_eql (d := 6) (by kernel_rfl) (by omega) (by kernel_rfl) (by kernel_rfl) ρ ds x y t' ty s af g w h1 h2
@[go_sem ↓] theorem ne_cell (ρ : Operand → Value) (ds : Option Tmp) (x y : Operand) (t' ty : TypeId) (s : String) (af : Array Edge) (g : Option (Nat × Bool)) (w : World) (h1 : okV cellK (ρ x) = true) (h2 : okV cellK (ρ y) = true) :
    (execOp ρ { dst := ds, op := .binOp .neq 51 x y t', type := ty, pos := s, after := af, guard := g }).run Try.prog w = .ok (.value (.bool (!eqV (ρ x) (ρ y)))) w := exec_neq (d := 6) (by kernel_rfl) (by omega) (by kernel_rfl) (by kernel_rfl) ρ ds x y t' ty s af g w h1 h2
@[go_sem ↓] theorem eq_held (ρ : Operand → Value) (ds : Option Tmp) (x y : Operand) (t' ty : TypeId) (s : String) (af : Array Edge) (g : Option (Nat × Bool)) (w : World) (h1 : okV heldK (ρ x) = true) (h2 : okV heldK (ρ y) = true) :
    (execOp ρ { dst := ds, op := .binOp .eql 90 x y t', type := ty, pos := s, after := af, guard := g }).run Try.prog w = .ok (.value (.bool (eqV (ρ x) (ρ y)))) w := exec_eql (d := 6) (by kernel_rfl) (by omega) (by kernel_rfl) (by kernel_rfl) ρ ds x y t' ty s af g w h1 h2
@[go_sem ↓] theorem ne_held (ρ : Operand → Value) (ds : Option Tmp) (x y : Operand) (t' ty : TypeId) (s : String) (af : Array Edge) (g : Option (Nat × Bool)) (w : World) (h1 : okV heldK (ρ x) = true) (h2 : okV heldK (ρ y) = true) :
    (execOp ρ { dst := ds, op := .binOp .neq 90 x y t', type := ty, pos := s, after := af, guard := g }).run Try.prog w = .ok (.value (.bool (!eqV (ρ x) (ρ y)))) w := exec_neq (d := 6) (by kernel_rfl) (by omega) (by kernel_rfl) (by kernel_rfl) ρ ds x y t' ty s af g w h1 h2
@[go_sem ↓] theorem eq_rheld (ρ : Operand → Value) (ds : Option Tmp) (x y : Operand) (t' ty : TypeId) (s : String) (af : Array Edge) (g : Option (Nat × Bool)) (w : World) (h1 : okV heldK (ρ x) = true) (h2 : okV heldK (ρ y) = true) :
    (execOp ρ { dst := ds, op := .binOp .eql 107 x y t', type := ty, pos := s, after := af, guard := g }).run Try.prog w = .ok (.value (.bool (eqV (ρ x) (ρ y)))) w := exec_eql (d := 6) (by kernel_rfl) (by omega) (by kernel_rfl) (by kernel_rfl) ρ ds x y t' ty s af g w h1 h2
@[go_sem ↓] theorem ne_rheld (ρ : Operand → Value) (ds : Option Tmp) (x y : Operand) (t' ty : TypeId) (s : String) (af : Array Edge) (g : Option (Nat × Bool)) (w : World) (h1 : okV heldK (ρ x) = true) (h2 : okV heldK (ρ y) = true) :
    (execOp ρ { dst := ds, op := .binOp .neq 107 x y t', type := ty, pos := s, after := af, guard := g }).run Try.prog w = .ok (.value (.bool (!eqV (ρ x) (ρ y)))) w := exec_neq (d := 6) (by kernel_rfl) (by omega) (by kernel_rfl) (by kernel_rfl) ρ ds x y t' ty s af g w h1 h2

/-! ### slices of held things -/
/-- A slice that reads as a list of held things, in blocks of S. -/
def RdHs (S : Nat → Prop) (w : World) (a : Option Addr) (len : Nat) (l : List Hd) : Prop :=
  l.length = len ∧ (∀ h ∈ l, h.ok) ∧ ∀ k h, l[k]? = some h → ∃ b off, a = some ⟨b, off, none⟩ ∧ S b ∧ b < w.heap.size ∧ hasRow w ⟨b, off + k * 56, none⟩ 56 = true ∧ rowOf w ⟨b, off + k * 56, none⟩ 56 = h.vals
theorem RdHs.keep {S : Nat → Prop} {w w' : World} {a : Option Addr} {len : Nat} {l : List Hd} (h : RdHs S w a len l) (hs : w.heap.size ≤ w'.heap.size) (hk : ∀ b, S b → b < w.heap.size → w'.heap[b]? = w.heap[b]?) : RdHs S w' a len l :=
  ⟨h.1, h.2.1, fun k x hx => by
    obtain ⟨b, off, e, hS, hb, h1, h2⟩ := h.2.2 k x hx
    have := row_block (n := 56) (p := ⟨b, off + k * 56, none⟩) (hk b hS hb)
    exact ⟨b, off, e, hS, by omega, this.1.trans h1, this.2.trans h2⟩⟩
theorem RdHs.mono {S S' : Nat → Prop} {w : World} {a : Option Addr} {len : Nat} {l : List Hd} (h : RdHs S w a len l) (hs : ∀ b, b < w.heap.size → S b → S' b) : RdHs S' w a len l :=
  ⟨h.1, h.2.1, fun k x hx => by
    obtain ⟨b, off, e, hS, hb, h1, h2⟩ := h.2.2 k x hx
    exact ⟨b, off, e, hs b hb hS, hb, h1, h2⟩⟩
theorem RdHs.below {S : Nat → Prop} {w w' : World} {B : Nat} {a : Option Addr} {len : Nat} {l : List Hd} (h : RdHs S w a len l) (hb : Below B w w') (hB : ∀ b, S b → b < w.heap.size → b < B) : RdHs S w' a len l :=
  h.keep hb.size fun b hS hlt => hb.block b (hB b hS hlt)
theorem RdHs.chg {S S' : Nat → Prop} {w w' : World} {a : Option Addr} {len : Nat} {l : List Hd} (h : RdHs S w a len l) (hc : Chg S' w w') (hd : ∀ b, b < w.heap.size → S b → ¬ S' b) : RdHs S w' a len l :=
  h.keep hc.size fun b hS hlt => hc.block b hlt (hd b hlt hS)
/-- what a walk needs of place k -/
theorem RdHs.at_ {S : Nat → Prop} {w : World} {a : Option Addr} {len : Nat} {l : List Hd} (h : RdHs S w a len l) (k : Nat) (hk : k < len) :
    ∃ b off is n r, a = some ⟨b, off, none⟩ ∧ S b ∧ b < w.heap.size ∧ l[k]? = some ⟨is, .int .i64 n :: r⟩ ∧ okL cellK (.int .i64 n :: r) = true ∧ r.length = 54 ∧ r.all cell1 = true ∧
      hasRow w ⟨b, off + k * 56, none⟩ 56 = true ∧ rowOf w ⟨b, off + k * 56, none⟩ 56 = .bool is :: .int .i64 n :: r ∧
      hasRow w ⟨b, off + k * 56 + 1, none⟩ 55 = true ∧ rowOf w ⟨b, off + k * 56 + 1, none⟩ 55 = .int .i64 n :: r ∧
      w.cell? ⟨b, off + k * 56, none⟩ = some (.bool is) ∧ w.cell? ⟨b, off + k * 56 + 1, none⟩ = some (.int .i64 n) ∧ -9223372036854775808 ≤ n ∧ n ≤ 9223372036854775807 := by
  obtain ⟨h1, h2, h3⟩ := h
  have hv : l[k]? = some (l[k]'(by omega)) := List.getElem?_eq_getElem _
  obtain ⟨b, off, e, hS, hb, hr1, hr2⟩ := h3 k _ hv
  have ho := h2 _ (List.mem_of_getElem? hv)
  generalize l[k]'(by omega) = x at hv hr2 ho
  obtain ⟨is, c⟩ := x
  obtain ⟨n, r, hc, hn1, hn2⟩ := cell_age ho
  simp only at hc
  subst hc
  have hlen := Hd.ok_len ho
  simp only [List.length_cons] at hlen
  have hp := row_part hr1 hr2 1 55 (by omega)
  refine ⟨b, off, is, n, r, e, hS, hb, hv, ho, by omega, by simpa [cell1] using okL_cell1 ho, hr1, hr2, hp.1, ?_, ?_, ?_, hn1, hn2⟩
  · rw [hp.2]; simp [Hd.vals, List.take_of_length_le, hlen]
  · have := row_cell hr1 hr2 0 (by omega)
    simpa [Hd.vals] using this
  · have := row_cell hr1 hr2 1 (by omega)
    simpa [Hd.vals] using this
end Go.Proofs.Ytopakilglnpinaa
