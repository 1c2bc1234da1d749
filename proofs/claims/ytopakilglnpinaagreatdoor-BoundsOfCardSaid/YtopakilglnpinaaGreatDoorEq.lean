
/-
  '==' on values of flat types (bools and integers, structs and arrays of these): as the lists of their cells. Over any program.
-/
import Derived.Test.YtopakilglnpinaaGreatDoorRow
import Derived.ChangeKeysEq
namespace Go.Proofs.YtopakilglnpinaaGreatDoor
open Go.RowKit
set_option linter.unusedVariables false
set_option linter.unusedSimpArgs false

/-- kinds of one-cell values -/
inductive Kd where
  | b
  | i (k : IntKind)
def okK : Kd → Value → Bool
  | .b, .bool _ => true
  | .i k, .int k' n => k == k' && (Lit.int k n).wf
  | _, _ => false
def okL : List Kd → List Value → Bool
  | [], [] => true
  | k :: ks, v :: vs => okK k v && okL ks vs
  | _, _ => false

theorem okL_len : ∀ {ks : List Kd} {l : List Value}, okL ks l = true → l.length = ks.length
  | [], [], _ => rfl
  | k :: ks, v :: vs, h => by simp [okL] at h; simp [okL_len h.2]
  | [], _ :: _, h => by simp [okL] at h
  | _ :: _, [], h => by simp [okL] at h
theorem okL_append {ks ks' : List Kd} {l l' : List Value} : okL ks l = true → okL ks' l' = true → okL (ks ++ ks') (l ++ l') = true := by
  intro h h'
  induction ks generalizing l with
  | nil => cases l with | nil => simpa using h' | cons v vs => simp [okL] at h
  | cons k ks ih =>
    cases l with
    | nil => simp [okL] at h
    | cons v vs => simp [okL] at h ⊢; exact ⟨h.1, ih h.2⟩
theorem okL_split {ks ks' : List Kd} {l : List Value} (h : okL (ks ++ ks') l = true) : okL ks (l.take ks.length) = true ∧ okL ks' (l.drop ks.length) = true := by
  induction ks generalizing l with
  | nil => exact ⟨by simp [okL], by simpa using h⟩
  | cons k ks ih =>
    cases l with
    | nil => simp [okL] at h
    | cons v vs =>
      simp [okL] at h
      have := ih h.2
      simp [okL, h.1, this]
theorem okK_cell1 {k : Kd} {v : Value} (h : okK k v = true) : cell1 v = true := by cases k <;> cases v <;> first | rfl | simp [okK] at h
theorem okL_cell1 : ∀ {ks : List Kd} {l : List Value}, okL ks l = true → l.all cell1 = true
  | [], [], _ => rfl
  | k :: ks, v :: vs, h => by
    simp [okL] at h
    rw [List.all_cons, okK_cell1 h.1, okL_cell1 h.2]; rfl
  | [], _ :: _, h => by simp [okL] at h
  | _ :: _, [], h => by simp [okL] at h

/-- the kinds of a flat type's cells -/
def flatFs (P : Program) (F : TypeId → Option (List Kd)) : Nat → List Field → Option (List Kd)
  | _, [] => some []
  | o, f :: fs =>
    if f.name = "_" ∨ f.offset ≠ o then none else
    match F f.type, P.info? f.type with
    | some ks, some i => if i.size = ks.length then (flatFs P F (o + ks.length) fs).map (ks ++ ·) else none
    | _, _ => none
def flatT (P : Program) : Nat → TypeId → Option (List Kd)
  | 0, _ => none
  | d + 1, t =>
    match P.underlying t with
    | some .bool => some [.b]
    | some (.int k) => some [.i k]
    | some (.struct fs) => if P.stoodInHeld t then none else flatFs P (flatT P d) 0 fs.toList
    | some (.array n e) =>
      match flatT P d e, P.info? e with
      | some ks, some i => if i.size = ks.length then some (List.replicate n ks).flatten else none
      | _, _ => none
    | _ => none
def isAggB (P : Program) (t : TypeId) : Bool := match P.underlying t with | some (.struct _) => true | some (.array _ _) => true | _ => false
def wrapV (P : Program) (t : TypeId) (l : List Value) : Value := if isAggB P t then .agg l.toArray else l.headD undef

theorem run_isAggB {P : Program} {t : TypeId} (w : World) (h : ∃ d, P.underlying t = some d) : (isAgg t).run P w = .ok (isAggB P t) w := by
  obtain ⟨d, hu⟩ := h
  cases d <;> simp [isAgg, isAggB, run_underlying hu, hu]
theorem flatT_under {P : Program} {d : Nat} {t : TypeId} {ks : List Kd} (h : flatT P d t = some ks) : ∃ u, P.underlying t = some u := by
  cases d with
  | zero => simp [flatT] at h
  | succ d =>
    unfold flatT at h
    cases hu : P.underlying t with
    | none => simp [hu] at h
    | some u => exact ⟨u, rfl⟩
theorem flatT_one {P : Program} {d : Nat} {t : TypeId} {ks : List Kd} (h : flatT P d t = some ks) (hn : isAggB P t = false) : ∃ k, ks = [k] := by
  cases d with
  | zero => simp [flatT] at h
  | succ d =>
    unfold flatT at h
    unfold isAggB at hn
    cases hu : P.underlying t with
    | none => simp [hu] at h
    | some u =>
      rw [hu] at h hn
      cases u <;> simp at h hn
      · exact ⟨.b, h.symm⟩
      · exact ⟨_, h.symm⟩

theorem run_part {P : Program} {d : Nat} {t : TypeId} {ks : List Kd} (h : flatT P d t = some ks) {i : TypeInfo} (hi : P.info? t = some i) (hs : i.size = ks.length) (w : World) (X : List Value) (o : Nat) (hl : o + ks.length ≤ X.length) :
    (part t X.toArray o).run P w = .ok (wrapV P t ((X.drop o).take ks.length)) w := by
  have hA := run_isAggB w (flatT_under h)
  unfold part
  rw [Sem.run_bind, hA]
  simp only [Result.andThen_ok]
  cases hg : isAggB P t with
  | true =>
    simp only [if_true, Sem.run_bind, sizeOf, typeInfo, hi, wrapV, hg]
    simp [hi, hs, List.extract]
  | false =>
    obtain ⟨k, rfl⟩ := flatT_one h hg
    simp at hl
    have hlt : o < X.length := by omega
    have e1 : ((X.drop o).take [k].length).headD undef = X[o] := by rw [List.drop_eq_getElem_cons hlt]; rfl
    simp only [wrapV, hg, Bool.false_eq_true, if_false, e1]
    simp [hlt]

theorem dec_append {X Y : List Value} {n : Nat} [Decidable (X = Y)] [Decidable (X.take n = Y.take n)] [Decidable (X.drop n = Y.drop n)] :
    decide (X = Y) = (decide (X.take n = Y.take n) && decide (X.drop n = Y.drop n)) := by
  by_cases h : X = Y
  · subst h; simp
  · have : ¬ (X.take n = Y.take n ∧ X.drop n = Y.drop n) := fun ⟨h1, h2⟩ => h (by rw [← List.take_append_drop n X, h1, h2, List.take_append_drop])
    simp [h]
    by_cases h1 : X.take n = Y.take n
    · simp [h1]; exact fun h2 => this ⟨h1, h2⟩
    · simp [h1]

open Classical in
theorem run_eqFs {P : Program} {d e : Nat} (IH : ∀ t ks, flatT P d t = some ks → ∀ (X Y : List Value) (w : World), okL ks X = true → okL ks Y = true → (Op.equalIn e t (wrapV P t X) (wrapV P t Y)).run P w = .ok (decide (X = Y)) w)
    (X Y : List Value) (w : World) : ∀ (fs : List Field) (o : Nat) (ks : List Kd), flatFs P (flatT P d) o fs = some ks → okL ks (X.drop o) = true → okL ks (Y.drop o) = true →
    (Op.eqFields e X.toArray Y.toArray fs).run P w = .ok (decide (X.drop o = Y.drop o)) w
  | [], o, ks, h, hx, hy => by
    simp [flatFs] at h
    subst h
    have h1 := okL_len hx
    have h2 := okL_len hy
    simp only [List.length_nil] at h1 h2
    rw [List.eq_nil_of_length_eq_zero h1, List.eq_nil_of_length_eq_zero h2]
    simp [Op.eqFields]
  | f :: fs, o, ks, h, hx, hy => by
    unfold flatFs at h
    split at h
    · cases h
    · rename_i hno
      simp only [not_or, ne_eq, Decidable.not_not] at hno
      obtain ⟨hn, ho⟩ := hno
      split at h
      · rename_i k1 i hk1 hi
        split at h
        · rename_i hs
          rw [Option.map_eq_some_iff] at h
          obtain ⟨k2, hk2, rfl⟩ := h
          have hlx := okL_len hx
          have hly := okL_len hy
          rw [List.length_drop, List.length_append] at hlx hly
          obtain ⟨hx1, hx2⟩ := okL_split hx
          obtain ⟨hy1, hy2⟩ := okL_split hy
          have hob : o + k1.length ≤ X.length ∨ k1.length = 0 := by omega
          have px := run_part hk1 hi hs w X o
          have py := run_part hk1 hi hs w Y o
          subst ho
          have one : ∀ Z : List Value, okL k1 ((Z.drop f.offset).take k1.length) = true → (part f.type Z.toArray f.offset).run P w = .ok (wrapV P f.type ((Z.drop f.offset).take k1.length)) w := by
            intro Z hz
            by_cases hle : f.offset + k1.length ≤ Z.length
            · exact run_part hk1 hi hs w Z f.offset hle
            · have hzl := okL_len hz
              rw [List.length_take, List.length_drop] at hzl
              have hk0 : k1.length = 0 := by omega
              have hA := run_isAggB w (flatT_under hk1)
              have hg : isAggB P f.type = true := by
                cases hg : isAggB P f.type with
                | true => rfl
                | false => obtain ⟨k, rfl⟩ := flatT_one hk1 hg; simp at hk0
              unfold part
              rw [Sem.run_bind, hA]
              simp only [Result.andThen_ok, hg, if_true, Sem.run_bind, sizeOf, typeInfo, hi, wrapV]
              simp [hi, hs, hk0]
          simp only [Op.eqFields, ne_eq, hn, not_false_eq_true, if_true, Sem.run_bind, one X hx1, one Y hy1, Result.andThen_ok, IH f.type k1 hk1 _ _ w hx1 hy1]
          rw [List.drop_drop] at hx2 hy2
          have ih := run_eqFs IH X Y w fs (f.offset + k1.length) k2 hk2 (by simpa [Nat.add_comm] using hx2) (by simpa [Nat.add_comm] using hy2)
          rw [dec_append (X := X.drop f.offset) (Y := Y.drop f.offset) (n := k1.length)]
          by_cases h1 : (X.drop f.offset).take k1.length = (Y.drop f.offset).take k1.length
          · simp [h1, ih, List.drop_drop]
          · simp [h1]
        · cases h
      · cases h

open Classical in
theorem run_eqIs {P : Program} {d e : Nat} {t : TypeId} {k1 : List Kd} {i : TypeInfo} (hk1 : flatT P d t = some k1) (hi : P.info? t = some i) (hs : i.size = k1.length)
    (IH : ∀ (X Y : List Value) (w : World), okL k1 X = true → okL k1 Y = true → (Op.equalIn e t (wrapV P t X) (wrapV P t Y)).run P w = .ok (decide (X = Y)) w)
    (X Y : List Value) (w : World) : ∀ (n s : Nat), okL (List.replicate n k1).flatten (X.drop (s * k1.length)) = true → okL (List.replicate n k1).flatten (Y.drop (s * k1.length)) = true →
    (Op.eqItems e t k1.length X.toArray Y.toArray (List.range' s n)).run P w = .ok (decide (X.drop (s * k1.length) = Y.drop (s * k1.length))) w
  | 0, s, hx, hy => by
    have h1 := okL_len hx
    have h2 := okL_len hy
    simp only [List.replicate_zero, List.flatten_nil, List.length_nil] at h1 h2
    rw [List.eq_nil_of_length_eq_zero h1, List.eq_nil_of_length_eq_zero h2]
    simp [Op.eqItems]
  | n + 1, s, hx, hy => by
    rw [List.replicate_succ, List.flatten_cons] at hx hy
    have hlx := okL_len hx
    have hly := okL_len hy
    rw [List.length_drop, List.length_append] at hlx hly
    obtain ⟨hx1, hx2⟩ := okL_split hx
    obtain ⟨hy1, hy2⟩ := okL_split hy
    have one : ∀ Z : List Value, okL k1 ((Z.drop (s * k1.length)).take k1.length) = true → (part t Z.toArray (s * k1.length)).run P w = .ok (wrapV P t ((Z.drop (s * k1.length)).take k1.length)) w := by
      intro Z hz
      by_cases hle : s * k1.length + k1.length ≤ Z.length
      · exact run_part hk1 hi hs w Z _ hle
      · have hzl := okL_len hz
        rw [List.length_take, List.length_drop] at hzl
        have hk0 : k1.length = 0 := by omega
        have hA := run_isAggB w (flatT_under hk1)
        have hg : isAggB P t = true := by
          cases hg : isAggB P t with
          | true => rfl
          | false => obtain ⟨k, rfl⟩ := flatT_one hk1 hg; simp at hk0
        unfold part
        rw [Sem.run_bind, hA]
        simp only [Result.andThen_ok, hg, if_true, Sem.run_bind, sizeOf, typeInfo, hi, wrapV]
        simp [hi, hs, hk0]
    rw [List.range'_succ]
    simp only [Op.eqItems, Sem.run_bind, one X hx1, one Y hy1, Result.andThen_ok, IH _ _ w hx1 hy1]
    rw [List.drop_drop] at hx2 hy2
    have e1 : (s + 1) * k1.length = s * k1.length + k1.length := Nat.succ_mul _ _
    have ih := run_eqIs hk1 hi hs IH X Y w n (s + 1) (by rw [e1]; simpa [Nat.add_comm] using hx2) (by rw [e1]; simpa [Nat.add_comm] using hy2)
    rw [dec_append (X := X.drop (s * k1.length)) (Y := Y.drop (s * k1.length)) (n := k1.length)]
    by_cases h1 : (X.drop (s * k1.length)).take k1.length = (Y.drop (s * k1.length)).take k1.length
    · simp only [h1, decide_true, Bool.not_true, Bool.false_eq_true, if_false, Bool.true_and, ih, List.drop_drop, e1]
    · simp [h1]

open Classical in
theorem run_eqFlat {P : Program} (e : Nat) : ∀ (d : Nat) (t : TypeId) (ks : List Kd), flatT P d t = some ks → ∀ (X Y : List Value) (w : World), okL ks X = true → okL ks Y = true →
    (Op.equalIn (e + d) t (wrapV P t X) (wrapV P t Y)).run P w = .ok (decide (X = Y)) w
  | 0, t, ks, h, X, Y, w, hx, hy => by simp [flatT] at h
  | d + 1, t, ks, h, X, Y, w, hx, hy => by
    unfold flatT at h
    cases hu : P.underlying t with
    | none => simp [hu] at h
    | some u =>
      rw [hu] at h
      cases u <;> simp only [reduceCtorEq] at h
      case bool =>
        simp at h
        subst h
        match X, Y, hx, hy with
        | [x], [y], hx, hy =>
          simp [okL] at hx hy
          cases x <;> simp [okK] at hx
          cases y <;> simp [okK] at hy
          rename_i a b
          have hn : isAggB P t = false := by simp [isAggB, hu]
          simp only [wrapV, hn, Bool.false_eq_true, if_false, List.headD_cons, ← Nat.add_assoc, run_equalIn_bool' w _ t a b hu]
          congr 1
          cases a <;> cases b <;> simp
        | [], _, hx, _ => simp [okL] at hx
        | _ :: _ :: _, _, hx, _ => simp [okL] at hx
        | [_], [], _, hy => simp [okL] at hy
        | [_], _ :: _ :: _, _, hy => simp [okL] at hy
      case int k =>
        simp at h
        subst h
        match X, Y, hx, hy with
        | [x], [y], hx, hy =>
          simp [okL] at hx hy
          cases x <;> simp [okK] at hx
          cases y <;> simp [okK] at hy
          rename_i ka a kb b
          obtain ⟨rfl, _⟩ := hx
          obtain ⟨rfl, _⟩ := hy
          have hn : isAggB P t = false := by simp [isAggB, hu]
          simp only [wrapV, hn, Bool.false_eq_true, if_false, List.headD_cons, ← Nat.add_assoc, run_equalIn_int w _ t _ _ a b hu]
          congr 1
          by_cases hab : a = b <;> simp [hab]
        | [], _, hx, _ => simp [okL] at hx
        | _ :: _ :: _, _, hx, _ => simp [okL] at hx
        | [_], [], _, hy => simp [okL] at hy
        | [_], _ :: _ :: _, _, hy => simp [okL] at hy
      case struct fs =>
        split at h
        · cases h
        · rename_i hst
          have hg : isAggB P t = true := by simp [isAggB, hu]
          have hfs : P.fieldsOf t = fs := by simp [Program.fieldsOf, hu]
          have := run_eqFs (e := e + d) (run_eqFlat e d) X Y w fs.toList 0 ks h (by simpa using hx) (by simpa using hy)
          simp only [wrapV, hg, if_true, ← Nat.add_assoc]
          rw [run_equalIn_struct w (e + d) t _ _ (by rw [hfs]; exact hu) (by simpa using hst), hfs, this]
          simp
      case array n el =>
        split at h
        · rename_i k1 i hk1 hi
          split at h
          · rename_i hs
            simp at h
            subst h
            have hg : isAggB P t = true := by simp [isAggB, hu]
            have hc : P.cellsOf el = k1.length := by simp [Program.cellsOf, hi, hs]
            have := run_eqIs (e := e + d) hk1 hi hs (run_eqFlat e d el k1 hk1) X Y w n 0 (by simpa using hx) (by simpa using hy)
            simp only [wrapV, hg, if_true, ← Nat.add_assoc]
            rw [run_equalIn_array w (e + d) _ _ hu hi, hc, List.range_eq_range', this]
            simp
          · cases h
        · cases h

/-! ### the walk's law: '==' and '!=' on structs -/
def okV (ks : List Kd) : Value → Bool
  | .agg cs => okL ks cs.toList
  | _ => false
@[go_sem] theorem okV_list (ks : List Kd) (l : List Value) : okV ks (.agg l.toArray) = okL ks l := (rfl)
open Classical in
noncomputable def eqV : Value → Value → Bool
  | .agg a, .agg b => decide (a.toList = b.toList)
  | _, _ => false
open Classical in
@[go_sem] theorem eqV_list (a b : List Value) : eqV (.agg a.toArray) (.agg b.toArray) = decide (a = b) := (rfl)
theorem exec_eql {P : Program} {d : Nat} {t : TypeId} {ks : List Kd} (hf : flatT P d t = some ks) (hd : d ≤ 10000) (hg : isAggB P t = true) (hq : P.eqGuardType P.depth t = false)
    (ρ : Operand → Value) (ds : Option Tmp) (x y : Operand) (t' ty : TypeId) (s : String) (af : Array Edge) (g : Option (Nat × Bool)) (w : World)
    (h1 : okV ks (ρ x) = true) (h2 : okV ks (ρ y) = true) :
    (execOp ρ { dst := ds, op := .binOp .eql t x y t', type := ty, pos := s, after := af, guard := g }).run P w = .ok (.value (.bool (eqV (ρ x) (ρ y)))) w := by
  generalize hx : ρ x = vx at h1 ⊢
  generalize hy : ρ y = vy at h2 ⊢
  cases vx <;> simp [okV] at h1
  cases vy <;> simp [okV] at h2
  rename_i xs ys
  have := run_eqFlat (P := P) (10000 - d) d t ks hf xs.toList ys.toList w h1 h2
  rw [Nat.sub_add_cancel hd] at this
  simp only [wrapV, hg, if_true, Array.toArray_toList] at this
  simp [execOp, hx, hy, run_eqGuard_agg w .eql t x y xs ys hq, run_eql_struct, this, eqV]
theorem exec_neq {P : Program} {d : Nat} {t : TypeId} {ks : List Kd} (hf : flatT P d t = some ks) (hd : d ≤ 10000) (hg : isAggB P t = true) (hq : P.eqGuardType P.depth t = false)
    (ρ : Operand → Value) (ds : Option Tmp) (x y : Operand) (t' ty : TypeId) (s : String) (af : Array Edge) (g : Option (Nat × Bool)) (w : World)
    (h1 : okV ks (ρ x) = true) (h2 : okV ks (ρ y) = true) :
    (execOp ρ { dst := ds, op := .binOp .neq t x y t', type := ty, pos := s, after := af, guard := g }).run P w = .ok (.value (.bool (!eqV (ρ x) (ρ y)))) w := by
  generalize hx : ρ x = vx at h1 ⊢
  generalize hy : ρ y = vy at h2 ⊢
  cases vx <;> simp [okV] at h1
  cases vy <;> simp [okV] at h2
  rename_i xs ys
  have := run_eqFlat (P := P) (10000 - d) d t ks hf xs.toList ys.toList w h1 h2
  rw [Nat.sub_add_cancel hd] at this
  simp only [wrapV, hg, if_true, Array.toArray_toList] at this
  simp [execOp, hx, hy, run_eqGuard_agg w .neq t x y xs ys hq, run_neq_struct, this, eqV]
end Go.Proofs.YtopakilglnpinaaGreatDoor
