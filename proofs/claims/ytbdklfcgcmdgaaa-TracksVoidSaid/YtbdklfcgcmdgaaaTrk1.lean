
/-
  The lane of chapter 14, in plain Lean: what is certified, what is held and what goes out, tick by tick. No program in sight.
-/
import Derived.Test.YtbdklfcgcmdgaaaNrm
namespace Go.Proofs.Ytbdklfcgcmdgaaa
open Go.RowKit
set_option linter.unusedVariables false
set_option linter.unusedSimpArgs false

/-! ### what is certified -/
open Classical in
/-- the walk over pairs (a row, one ahead of it) -/
noncomputable def certF : List (Rw × Rw) → Rw → Rw
  | [], out => out
  | (r, o) :: t, out => if r.is = true ∧ r = o then (if out.is = true ∧ out ≠ r then rw0 else certF t r) else certF t out
/-- all pairs of the i-th row -/
def prsAt (l : List Rw) (i : Nat) : List (Rw × Rw) := (l.take i).map fun o => (l.getD i rw0, o)
def prs (l : List Rw) : List (Rw × Rw) := (List.range l.length).flatMap (prsAt l)
noncomputable def certM (l : List Rw) : Rw := certF (prs l) rw0

def hits (p : List (Rw × Rw)) (r : Rw) : Prop := r.is = true ∧ (r, r) ∈ p
theorem certF_none {p : List (Rw × Rw)} : ∀ {out : Rw}, (∀ r, ¬ hits p r) → certF p out = out := by
  induction p with
  | nil => intro out _; rfl
  | cons x t ih =>
    obtain ⟨r, o⟩ := x
    intro out h
    have h1 : ¬ (r.is = true ∧ r = o) := by
      rintro ⟨a, rfl⟩
      exact h r ⟨a, List.mem_cons_self⟩
    simp only [certF, if_neg h1]
    exact ih fun q hq => h q ⟨hq.1, List.mem_cons_of_mem _ hq.2⟩
theorem certF_one {p : List (Rw × Rw)} : ∀ {out v : Rw}, v.is = true → (∀ r, hits p r → r = v) → (out = v ∨ out.is = false ∧ hits p v) → certF p out = v := by
  induction p with
  | nil =>
    intro out v hv _ h
    rcases h with h | ⟨-, -, h⟩
    · exact h
    · cases h
  | cons x t ih =>
    obtain ⟨r, o⟩ := x
    intro out v hv hall h
    by_cases h1 : r.is = true ∧ r = o
    · obtain ⟨hr, rfl⟩ := h1
      have hrv := hall r ⟨hr, List.mem_cons_self⟩
      subst hrv
      have h2 : ¬ (out.is = true ∧ out ≠ r) := by
        rintro ⟨a, b⟩
        rcases h with h | ⟨h, -⟩
        · exact b h
        · rw [h] at a; cases a
      simp only [certF, hr, and_self, if_true, if_neg h2]
      exact ih hv (fun q hq => hall q ⟨hq.1, List.mem_cons_of_mem _ hq.2⟩) (.inl rfl)
    · simp only [certF, if_neg h1]
      refine ih hv (fun q hq => hall q ⟨hq.1, List.mem_cons_of_mem _ hq.2⟩) ?_
      rcases h with h | ⟨h, h3, h4⟩
      · exact .inl h
      · refine .inr ⟨h, h3, ?_⟩
        rcases List.mem_cons.1 h4 with e | e
        · cases e; exact absurd ⟨hv, rfl⟩ h1
        · exact e
theorem certF_two {p : List (Rw × Rw)} : ∀ {out v v' : Rw}, v ≠ v' → (hits p v ∨ out = v ∧ v.is = true) → hits p v' → certF p out = rw0 := by
  induction p with
  | nil => intro out v v' _ _ h; cases h.2
  | cons x t ih =>
    obtain ⟨r, o⟩ := x
    intro out v v' hne hv hv'
    by_cases h1 : r.is = true ∧ r = o
    · obtain ⟨hr, rfl⟩ := h1
      by_cases h2 : out.is = true ∧ out ≠ r
      · simp only [certF, hr, and_self, if_true, if_pos h2, true_and]

      · simp only [certF, hr, and_self, if_true, if_neg h2]
        by_cases e : r = v'
        · subst e
          have hm : hits t v := by
            rcases hv with ⟨h3, h4⟩ | ⟨h3, h4⟩
            · refine ⟨h3, ?_⟩
              rcases List.mem_cons.1 h4 with e | e
              · cases e; exact absurd rfl hne
              · exact e
            · subst h3
              exact absurd ⟨h4, hne⟩ h2
          exact ih (v := r) (v' := v) (Ne.symm hne) (.inr ⟨rfl, hr⟩) hm
        · have hm : hits t v' := by
            refine ⟨hv'.1, ?_⟩
            rcases List.mem_cons.1 hv'.2 with q | q
            · cases q; exact absurd rfl e
            · exact q
          exact ih (v := r) (v' := v') e (.inr ⟨rfl, hr⟩) hm
    · simp only [certF, if_neg h1]
      have hk : ∀ q, hits ((r, o) :: t) q → hits t q := fun q hq => ⟨hq.1, by
        rcases List.mem_cons.1 hq.2 with e | e
        · cases e; exact absurd ⟨hq.1, rfl⟩ h1
        · exact e⟩
      refine ih hne ?_ (hk _ hv')
      rcases hv with h | h
      · exact .inl (hk _ h)
      · exact .inr h

/-- at least two of a list are that one -/
def Dup (l : List Rw) (v : Rw) : Prop := v.is = true ∧ ∃ j i : Nat, j < i ∧ l[j]? = some v ∧ l[i]? = some v
theorem hits_prs {l : List Rw} {v : Rw} : hits (prs l) v ↔ Dup l v := by
  unfold hits Dup prs prsAt
  constructor
  · rintro ⟨h, hm⟩
    refine ⟨h, ?_⟩
    obtain ⟨i, hi, hm⟩ := List.mem_flatMap.1 hm
    obtain ⟨o, ho, e⟩ := List.mem_map.1 hm
    have hil : i < l.length := List.mem_range.1 hi
    obtain ⟨j, hj, e2⟩ := List.getElem_of_mem ho
    rw [List.length_take] at hj
    cases e
    refine ⟨j, i, by omega, ?_, ?_⟩
    · rw [List.getElem_take] at e2
      rw [List.getElem?_eq_getElem (by omega), e2]
    · rw [List.getElem?_eq_getElem hil, List.getD_eq_getElem?_getD, List.getElem?_eq_getElem hil]; rfl
  · rintro ⟨h, j, i, hji, h1, h2⟩
    refine ⟨h, List.mem_flatMap.2 ⟨i, List.mem_range.2 (List.getElem?_eq_some_iff.1 h2).1, List.mem_map.2 ⟨v, ?_, ?_⟩⟩⟩
    · refine List.mem_of_getElem? (i := j) ?_
      rw [List.getElem?_take, if_pos hji, h1]
    · rw [List.getD_eq_getElem?_getD, h2]; rfl
theorem certM_one {l : List Rw} {v : Rw} (h : Dup l v) (hall : ∀ r, Dup l r → r = v) : certM l = v :=
  certF_one h.1 (fun r hr => hall r (hits_prs.1 hr)) (.inr ⟨rfl, hits_prs.2 h⟩)
theorem certM_none {l : List Rw} (h : ∀ r, ¬ Dup l r) : certM l = rw0 := certF_none fun r hr => h r (hits_prs.1 hr)
theorem certM_two {l : List Rw} {v v' : Rw} (hne : v ≠ v') (h : Dup l v) (h' : Dup l v') : certM l = rw0 := certF_two hne (.inl (hits_prs.2 h)) (hits_prs.2 h')
/-- either nothing, or one that two have -/
theorem certM_or (l : List Rw) : certM l = rw0 ∨ Dup l (certM l) := by
  by_cases h : ∃ v, Dup l v
  · obtain ⟨v, hv⟩ := h
    by_cases h2 : ∀ r, Dup l r → r = v
    · exact .inr (by rw [certM_one hv h2]; exact hv)
    · have : ∃ r, Dup l r ∧ r ≠ v := Classical.byContradiction fun hn => h2 fun r hr => Classical.byContradiction fun hne => hn ⟨r, hr, hne⟩
      obtain ⟨r, hr, hne⟩ := this
      exact .inl (certM_two hne hr hv)
  · exact .inl (certM_none fun r hr => h ⟨r, hr⟩)
theorem certM_ok {l : List Rw} (h : ∀ r ∈ l, r.ok) : (certM l).ok := by
  rcases certM_or l with e | ⟨-, -, i, -, -, e⟩
  · rw [e]; exact rw0_ok
  · exact h _ (List.mem_of_getElem? e)

/-! ### the lane -/
def tab (n : Nat) (f : Nat → Rw) : List Rw := (List.range n).map f
theorem tab_len (n : Nat) (f : Nat → Rw) : (tab n f).length = n := by simp [tab]
theorem tab_at {n : Nat} {f : Nat → Rw} {k : Nat} (h : k < n) : (tab n f)[k]? = some (f k) := by simp [tab, h]
theorem tab_mem {n : Nat} {f : Nat → Rw} {r : Rw} (h : r ∈ tab n f) : ∃ k, k < n ∧ r = f k := by
  simp only [tab, List.mem_map, List.mem_range] at h
  obtain ⟨k, h1, h2⟩ := h
  exact ⟨k, h1, h2.symm⟩
theorem tab_ext {n : Nat} {l : List Rw} {f : Nat → Rw} (h1 : l.length = n) (h2 : ∀ k, k < n → l[k]? = some (f k)) : l = tab n f := by
  apply List.ext_getElem?
  intro k
  by_cases hk : k < n
  · rw [h2 k hk, tab_at hk]
  · rw [List.getElem?_eq_none (by omega), List.getElem?_eq_none (by rw [tab_len]; omega)]
theorem tab_congr {n : Nat} {f g : Nat → Rw} (h : ∀ k, k < n → f k = g k) : tab n f = tab n g := tab_ext (tab_len _ _) fun k hk => by rw [tab_at hk, h k hk]
theorem tab_set {n : Nat} {f g : Nat → Rw} {k : Nat} (hk : k < n) (h : ∀ j, j < n → j ≠ k → g j = f j) : (tab n f).set k (g k) = tab n g := by
  refine tab_ext (by rw [List.length_set, tab_len]) fun j hj => ?_
  rw [List.getElem?_set]
  by_cases e : k = j
  · subst e; rw [if_pos rfl, if_pos (by rw [tab_len]; exact hk)]
  · rw [if_neg e, tab_at hj, h j hj (Ne.symm e)]

theorem tab_put {n : Nat} {f g : Nat → Rw} {k : Nat} {x : Rw} (hk : k < n) (hx : g k = x) (h : ∀ j, j < n → j ≠ k → g j = f j) : (tab n f).set k x = tab n g := by rw [← hx]; exact tab_set hk h

/-- how far a source is, with the clock (way 0), or against it -/
def distM (n me way s : Nat) : Nat := if way = 0 then (me + n - s) % n else (s + n - me) % n
/-- a row that came, in plain form -/
def inRow (n : Nat) (l : List Rw) (s : Nat) : Rw := match l[s]? with | some r => r.plain n | none => rw0
theorem fillR_tab (n : Nat) (l : List Rw) : fillR n l = tab n (inRow n l) := tab_ext (fillR_len n l) fun k hk => by rw [fillR_at n l k hk]; rfl
/-- one way's rows at a tick: q = 0 the track, 1 the near ones -/
def sideM (n me way : Nat) (near far : List Rw) (q s : Nat) : Rw :=
  if distM n me way s = 0 then rw0 else if distM n me way s = 1 then (if q = 0 then inRow n near s else rw0) else (if q = 0 then inRow n far s else inRow n near s)
/-- what four links bring: 0 near, 1 far with the clock, 2 near, 3 far against it; which of a tick's lists (0, 1 with the clock: track, near; 2, 3 against it), which source -/
def momM (n me : Nat) (ins : Nat → List Rw) (q s : Nat) : Rw := sideM n me (q / 2) (ins (2 * (q / 2))) (ins (2 * (q / 2) + 1)) (q % 2) s
structure LaneM where
  n : Nat
  me : Nat
  T : Nat
  b : Bool
  past : Nat → Nat → Nat → Rw
def LaneM.new (n me : Nat) : LaneM := ⟨n, me, 0, false, fun _ _ _ => rw0⟩
/-- what is certified of a source, by what was so many ticks ago -/
noncomputable def ofM (n me s : Nat) (was : Nat → Nat → Nat → Rw) : Rw :=
  if s = me then was n 0 s else certM [was (n - distM n me 0 s) 0 s, was (n - distM n me 0 s) 1 s, was (n - distM n me 1 s) 2 s, was (n - distM n me 1 s) 3 s]
def LaneM.put (L : LaneM) (ins : Nat → List Rw) : LaneM :=
  { L with T := L.T + 1, b := true, past := fun j => if j = L.T % (L.n + 1) then momM L.n L.me ins else L.past j }
/-- held, behind 'put' -/
noncomputable def LaneM.held (L : LaneM) (s : Nat) : Rw :=
  if L.n ≤ L.T - 1 then ofM L.n L.me s (fun ago => L.past ((L.T - 1 - ago) % (L.n + 1))) else rw0
def LaneM.said (L : LaneM) (own : Rw) : LaneM :=
  if L.b then { L with b := false, past := fun j q s => if j = (L.T - 1) % (L.n + 1) ∧ q % 2 = 0 ∧ s = L.me then own.plain L.n else L.past j q s } else L
/-- what goes out: behind 'said' -/
def LaneM.out (L : LaneM) (q : Nat) : List Rw := tab L.n (L.past ((L.T - 1) % (L.n + 1)) q)

def LaneM.okP (L : LaneM) : Prop := ∀ j q s, (L.past j q s).ok
theorem inRow_ok {n : Nat} {l : List Rw} (h : ∀ r ∈ l, r.ok) (s : Nat) : (inRow n l s).ok := by
  unfold inRow
  split
  · exact Rw.plain_ok (h _ (List.mem_of_getElem? ‹_›))
  · exact rw0_ok
theorem sideM_ok {n me way : Nat} {near far : List Rw} (h1 : ∀ r ∈ near, r.ok) (h2 : ∀ r ∈ far, r.ok) (q s : Nat) : (sideM n me way near far q s).ok := by
  unfold sideM
  repeat' split
  all_goals first | exact rw0_ok | exact inRow_ok h1 _ | exact inRow_ok h2 _
theorem momM_ok {n me : Nat} {ins : Nat → List Rw} (h : ∀ i, ∀ r ∈ ins i, r.ok) (q s : Nat) : (momM n me ins q s).ok := sideM_ok (h _) (h _) _ _
theorem LaneM.new_ok (n me : Nat) : (LaneM.new n me).okP := fun _ _ _ => rw0_ok
theorem LaneM.put_ok {L : LaneM} (h : L.okP) {ins : Nat → List Rw} (hi : ∀ i, ∀ r ∈ ins i, r.ok) : (L.put ins).okP := fun j q s => by
  simp only [LaneM.put]
  split
  · exact momM_ok hi q s
  · exact h j q s
theorem LaneM.said_ok {L : LaneM} (h : L.okP) {own : Rw} (ho : own.ok) : (L.said own).okP := fun j q s => by
  unfold LaneM.said
  split
  · simp only
    split
    · exact Rw.plain_ok ho
    · exact h j q s
  · exact h j q s
theorem ofM_ok {n me s : Nat} {was : Nat → Nat → Nat → Rw} (h : ∀ a q s, (was a q s).ok) : (ofM n me s was).ok := by
  unfold ofM
  split
  · exact h _ _ _
  · refine certM_ok fun r hr => ?_
    simp only [List.mem_cons, List.not_mem_nil, or_false] at hr
    rcases hr with rfl | rfl | rfl | rfl <;> exact h _ _ _
theorem LaneM.held_ok {L : LaneM} (h : L.okP) (s : Nat) : (L.held s).ok := by
  unfold LaneM.held
  split
  · exact ofM_ok fun a q s => h _ q s
  · exact rw0_ok
theorem LaneM.out_ok {L : LaneM} (h : L.okP) (q : Nat) : ∀ r ∈ L.out q, r.ok := fun r hr => by
  obtain ⟨k, -, rfl⟩ := tab_mem hr
  exact h _ _ _
/-! ### tables are short -/
theorem plain_tlen {n : Int} {r : Rw} : (r.plain n).t.length ≤ 16 := by
  unfold Rw.plain
  split
  · rename_i h
    simp [mayN] at h
    rw [fillH_len]
    omega
  · simp [rw0]
def LaneM.okT (L : LaneM) : Prop := ∀ j q s, (L.past j q s).t.length ≤ 16
theorem inRow_tlen {n : Nat} {l : List Rw} (s : Nat) : (inRow n l s).t.length ≤ 16 := by
  unfold inRow
  split
  · exact plain_tlen
  · simp [rw0]
theorem momM_tlen {n me : Nat} {ins : Nat → List Rw} (q s : Nat) : (momM n me ins q s).t.length ≤ 16 := by
  unfold momM sideM
  repeat' split
  all_goals first | exact inRow_tlen _ | simp [rw0]
theorem LaneM.new_okT (n me : Nat) : (LaneM.new n me).okT := fun _ _ _ => by simp [LaneM.new, rw0]
theorem LaneM.put_okT {L : LaneM} (h : L.okT) (ins : Nat → List Rw) : (L.put ins).okT := fun j q s => by
  simp only [LaneM.put]
  split
  · exact momM_tlen q s
  · exact h j q s
theorem LaneM.said_okT {L : LaneM} (h : L.okT) (own : Rw) : (L.said own).okT := fun j q s => by
  unfold LaneM.said
  split
  · simp only
    split
    · exact plain_tlen
    · exact h j q s
  · exact h j q s
theorem ofM_tlen {n me s : Nat} {was : Nat → Nat → Nat → Rw} (h : ∀ a q s, (was a q s).t.length ≤ 16) : (ofM n me s was).t.length ≤ 16 := by
  unfold ofM
  split
  · exact h _ _ _
  · rcases certM_or [was (n - distM n me 0 s) 0 s, was (n - distM n me 0 s) 1 s, was (n - distM n me 1 s) 2 s, was (n - distM n me 1 s) 3 s] with e | ⟨-, -, i, -, -, e⟩
    · rw [e]; simp [rw0]
    · have := List.mem_of_getElem? e
      simp only [List.mem_cons, List.not_mem_nil, or_false] at this
      rcases this with e | e | e | e <;> rw [e] <;> exact h _ _ _
theorem LaneM.held_tlen {L : LaneM} (h : L.okT) (s : Nat) : (L.held s).t.length ≤ 16 := by
  unfold LaneM.held
  split
  · exact ofM_tlen fun a q s => h _ q s
  · simp [rw0]
theorem LaneM.out_tlen {L : LaneM} (h : L.okT) (q : Nat) : ∀ r ∈ L.out q, r.t.length ≤ 16 := fun r hr => by
  obtain ⟨k, -, rfl⟩ := tab_mem hr
  exact h _ _ _
end Go.Proofs.Ytbdklfcgcmdgaaa
