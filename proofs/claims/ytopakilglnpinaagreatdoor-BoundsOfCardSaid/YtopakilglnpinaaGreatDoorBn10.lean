
/-
  Configs (chapter 4): a copy of a slice of stations.
-/
import Derived.Test.YtopakilglnpinaaGreatDoorBn9
namespace Go.Proofs.YtopakilglnpinaaGreatDoor
open Go.RowKit
set_option linter.unusedVariables false
set_option linter.unusedSimpArgs false

def stv (s : Int × Int × Int) : List Value := [.int .i64 s.1, .int .u32 s.2.1, .int .i64 s.2.2]
def stV (l : List (Int × Int × Int)) : List Value := l.flatMap stv
theorem stV_len (l : List (Int × Int × Int)) : (stV l).length = l.length * 3 := by
  induction l with
  | nil => rfl
  | cons x r ih => simp only [stV, List.flatMap_cons, List.length_append] at ih ⊢; rw [ih]; simp [stv]; omega
theorem stV_at {l : List (Int × Int × Int)} : ∀ {k : Nat} {s : Int × Int × Int}, l[k]? = some s → ∀ j, j < 3 → (stV l)[k * 3 + j]? = (stv s)[j]? := by
  induction l with
  | nil => intro k s h; simp at h
  | cons x r ih =>
    intro k s h j hj
    cases k with
    | zero =>
      simp at h
      subst h
      simp only [stV, List.flatMap_cons]
      rw [List.getElem?_append_left (by simp [stv]; omega)]
      simp
    | succ k =>
      simp at h
      have := ih h j hj
      simp only [stV, List.flatMap_cons] at this ⊢
      rw [List.getElem?_append_right (by simp [stv]; omega), ← this]
      congr 1
      simp [stv]
      omega
theorem stV_cell1 (l : List (Int × Int × Int)) : (stV l).all cell1 = true := by
  rw [stV, List.all_flatMap, List.all_eq_true]
  intro y hy
  rfl
theorem RdSt.whole {S : Nat → Prop} {w : World} {x : Option Addr} {m : Nat} {l : List (Int × Int × Int)} (h : RdSt S w x m l) (hm : 0 < m) :
    ∃ b off, x = some ⟨b, off, none⟩ ∧ S b ∧ b < w.heap.size ∧ hasRow w ⟨b, off, none⟩ (m * 3) = true ∧ rowOf w ⟨b, off, none⟩ (m * 3) = stV l := by
  obtain ⟨h1, h3⟩ := h
  obtain ⟨b, off, hx, hS, hb, -⟩ := h3 0 _ (List.getElem?_eq_getElem (by omega))
  refine ⟨b, off, hx, hS, hb, ?_⟩
  have hl : (stV l).length = m * 3 := by rw [stV_len, h1]
  have := row_of_cells (w := w) (p := ⟨b, off, none⟩) (l := stV l) (fun j v hv => by
    have hj : j < m * 3 := by rw [← hl]; exact (List.getElem?_eq_some_iff.1 hv).1
    have hk : j / 3 < l.length := by omega
    have hkk : l[j / 3]? = some (l[j / 3]'hk) := List.getElem?_eq_getElem hk
    obtain ⟨b', off', hx', -, -, hr1, hr2, hr3⟩ := h3 (j / 3) _ hkk
    rw [hx] at hx'
    cases hx'
    have hj2 : j % 3 < 3 := Nat.mod_lt _ (by omega)
    have e1 := stV_at hkk _ hj2
    rw [show j / 3 * 3 + j % 3 = j from by omega, hv] at e1
    rw [add_at]
    have hm3 : j % 3 = 0 ∨ j % 3 = 1 ∨ j % 3 = 2 := by omega
    rcases hm3 with hm3 | hm3 | hm3
    · rw [hm3] at e1
      rw [show off + j = off + j / 3 * 3 from by omega, hr1]
      exact e1.symm
    · rw [hm3] at e1
      rw [show off + j = off + j / 3 * 3 + 1 from by omega, hr2]
      exact e1.symm
    · rw [hm3] at e1
      rw [show off + j = off + j / 3 * 3 + 2 from by omega, hr3]
      exact e1.symm)
  rwa [hl] at this
theorem own_rdst {base n : Nat} {w : World} {v : Value} {l : List (Int × Int × Int)} (h : w.ownsRow base 47 3 v n (stV l)) : ∃ a cap, v = .slice a n cap ∧ RdSt (base ≤ ·) w a n l ∧ n ≤ cap ∧ cap ≤ maxLen := by
  have hl : l.length = n := by have := h.1; rw [stV_len] at this; omega
  rcases h.2 with ⟨rfl, h0⟩ | ⟨g, cap, cur, rfl, hb, hg, hnc, hcm, hcs, htake⟩
  · subst h0
    have : l = [] := List.eq_nil_of_length_eq_zero hl
    subst this
    exact ⟨none, 0, rfl, ⟨rfl, by simp⟩, Nat.le_refl _, by simp⟩
  · have hc : ∀ k s, l[k]? = some s → ∀ j, j < 3 → w.cell? ⟨g, 0 + k * 3 + j, none⟩ = (stv s)[j]? := by
      intro k s hs j hj
      have hk : k < l.length := (List.getElem?_eq_some_iff.1 hs).1
      rw [cell_of_row w g _ cur _ (0, 0) hg, Nat.zero_add]
      have e1 : cur[k * 3 + j]? = (cur.toList.take (n * 3))[k * 3 + j]? := by rw [List.getElem?_take, if_pos (by omega)]; simp
      rw [e1, htake, stV_at hs j hj]
    exact ⟨_, cap, rfl, ⟨hl, fun k s hs => ⟨g, 0, rfl, hb, lt_of_heap hg, hc k s hs 0 (by omega), hc k s hs 1 (by omega), hc k s hs 2 (by omega)⟩⟩, hnc, hcm⟩
theorem app_st : AppOk Tryz.prog 23 47 3 := appOk_of Tryz.underlying23 (by kernel_rfl)
theorem wpList_appS {P : Program} {t e : TypeId} (hA : AppOk P t e 3) {w : World} {ops : Array Oper} {rest : List Oper} {o : Oper} {a : Act} {Q : Exit → Act → World → Prop} (hgd : o.guard = none) (s x : Operand)
    (ho : o.op = .call { callee := .builtin .append, args := #[s, x], argTypes := #[t, t] })
    (base : Nat) (v : Value) (n : Nat) (xs : List Value) (hs : a.eval s = v) (hown : w.ownsRow base e 3 v n xs)
    {S : Nat → Prop} (ad : Option Addr) (m c : Nat) (l : List (Int × Int × Int)) (hx : a.eval x = .slice ad m c) (hrd : RdSt S w ad m l)
    (hn : n + m ≤ 1000000000) (hbase : base ≤ w.heap.size)
    (h : ∀ v' w', w'.ownsRow base e 3 v' (n + m) (xs ++ stV l) → w.grownBy w' v.ownBlock → (∃ x c, v' = .slice x (n + m) c) → wpList P ops Q rest (a.put o.dst v') w') : wpList P ops Q (o :: rest) a w := by
  rcases Nat.eq_zero_or_pos m with rfl | hm
  · have hl : l = [] := List.eq_nil_of_length_eq_zero hrd.1
    subst hl
    obtain ⟨ht, i, z, hi, hz, hsize, hby, hzs, hsz⟩ := hA
    refine wpList_plain hgd fun K hK => ?_
    unfold Oper.wp execOp
    simp only [ho, resolve, invoke, builtin, Sem.run_bind, Sem.run_pure, Result.andThen_ok, List.map_toArray, List.map_cons, List.map_nil, hs, hx, run_append_zero ht hi v n xs hown ad c]
    refine hK _ _ (h v w (by simpa [stV] using hown) ⟨rfl, rfl, rfl, Nat.le_refl _, fun _ _ _ => rfl⟩ ?_)
    rcases hown.2 with ⟨rfl, rfl⟩ | ⟨g, cap, cur, rfl, _⟩
    · exact ⟨_, _, rfl⟩
    · exact ⟨_, _, rfl⟩
  · obtain ⟨b, off, rfl, -, -, h1, h2⟩ := hrd.whole hm
    refine wpList_lies hA hgd s x ho base v n xs hs hown _ m c (stV l) hx (by rw [stV_len, hrd.1]) h1 h2 (stV_cell1 l) hm hn hbase (fun g cap w' k1 k2 _ => h _ w' k1 k2 ⟨_, _, rfl⟩)
@[go_sem ↓] theorem bs_st0 (ρ : Operand → Value) (d : Option Tmp) (ty : TypeId) (s : String) (af : Array Edge) (g : Option (Nat × Bool)) (w : World) :
    (execOp ρ { dst := d, op := .buildSlice 23 0 #[], type := ty, pos := s, after := af, guard := g }).run Tryz.prog w = .ok (.value (.slice (some ⟨w.heap.size, 0, none⟩) 0 0)) (w.alloc (.cells #[] 47)) := by
  obtain ⟨ht, i, z, hi, hz, h1, h2, h3, h4⟩ := app_st
  have e : Instr.fill (fun i => some (i * 3, 3)) (Array.map (fun _ => (default : Value)) (Array.range 0)) [] = some #[] := by
    simp [Instr.fill]
  simp [execOp, Instr.buildSlice, run_underlying ht, sizeOf, typeInfo, hi, h1, newRow, newObj, Sem.run, e]
@[go_sem] theorem eql_nil_st (w : World) (a : Option Addr) (n c : Nat) : (binOp .eql 23 (.slice a n c) (.slice none 0 0)).run Tryz.prog w = .ok (.bool a.isNone) w := by
  simp only [binOp]
  simp [run_equal_slice_nil w _ _ a n c Tryz.underlying23]
def NewS (l : List (Int × Int × Int)) (w : World) (e : Ending) (w' : World) : Prop := ∃ a cap, e = .returned (.slice a l.length cap) ∧ RdSt (w.heap.size ≤ ·) w' a l.length l ∧ l.length ≤ cap ∧ cap ≤ maxLen ∧ Below w.heap.size w w'
set_option maxRecDepth 100000 in
set_option maxHeartbeats 1000000 in
theorem cloneT_any (S : Nat → Prop) (x : Option Addr) (m cap : Nat) (l : List (Int × Int × Int)) (w : World) (hrd : RdSt S w x m l) (hbig : m ≤ 100000) :
    Calls Tryz.prog 63 #[.slice x m cap] w (NewS l w) := by
  have hl : l.length = m := hrd.1
  cases x with
  | none =>
    have hm0 : m = 0 := by
      rcases Nat.eq_zero_or_pos m with h | h
      · exact h
      · obtain ⟨b, off, hx, -⟩ := hrd.whole h; cases hx
    subst hm0
    have ht : l = [] := List.eq_nil_of_length_eq_zero hl
    subst ht
    clear hrd hl
    go_enter Tryz.func63, Tryz.ntmps63
    go_wp2
    go_ret
    exact ⟨none, 0, rfl, ⟨rfl, by simp⟩, Nat.le_refl _, by simp, Below.refl _ _⟩
  | some p =>
    have HR := Lib.hid hl
    have hisn : (some p : Option Addr).isNone = false := rfl
    have hown := World.ownsRow_lit (base := w.heap.size) (size := 3) (e := 47) w #[] 0 (Nat.le_refl _) (by simp) rfl
    have hB : Below w.heap.size w (w.alloc (.cells #[] 47)) := (Below.refl _ _).alloc (Nat.le_refl _) _
    have HO := Lib.hid (And.intro hown (And.intro hB (hrd.below hB)))
    clear hown hB hrd hl
    go_enter Tryz.func63, Tryz.ntmps63
    go_wp2_with (at_builtin; refine wpList_appS app_st (by rfl) (.tmp 5) (.tmp 6) (by rfl) w.heap.size _ _ _ (by rfl) HO.out.1 (some p) m cap l (by rfl) HO.out.2.2 (by omega) (by simp) ?_; intro v1 w1 hown1 hg1 hv1; have H1 := Lib.hid (And.intro hown1 (And.intro hg1 hv1)); clear hown1 hg1 hv1)
    go_ret
    obtain ⟨h1, h2, x1, c1, rfl⟩ := H1.out
    rw [Nat.zero_add] at h1
    have hll := HR.out
    have ho : w1.ownsRow w.heap.size 47 3 (.slice x1 m c1) m (stV l) := by simpa using h1
    obtain ⟨a', c', he, k1, k2, k3⟩ := own_rdst ho
    cases he
    subst hll
    exact ⟨_, _, by simp, k1, k2, k3, HO.out.2.1.grown h2 (by simp) (fun q hq => (HO.out.1.lt q hq).1)⟩
set_option maxRecDepth 100000 in
set_option maxHeartbeats 1000000 in
theorem clipT_any (x : Option Addr) (m cap : Nat) (w : World) (hm1 : m ≤ cap) (hm2 : cap ≤ maxLen) :
    Calls Tryz.prog 62 #[.slice x m cap] w fun e w' => e = .returned (.slice x m m) ∧ w' = w := by
  unfold maxLen at hm2
  have hcc : ((m : Nat) : Int) ≤ (m : Int) := Int.le_refl _
  cases x with
  | none =>
    go_enter Tryz.func62, Tryz.ntmps62
    go_wp2
    go_ret
    exact ⟨rfl, rfl⟩
  | some p =>
    go_enter Tryz.func62, Tryz.ntmps62
    go_wp2
    go_ret
    exact ⟨rfl, rfl⟩
end Go.Proofs.YtopakilglnpinaaGreatDoor
