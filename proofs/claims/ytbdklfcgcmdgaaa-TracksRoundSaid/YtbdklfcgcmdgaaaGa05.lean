/-
  The lane of chapter 14, in plain Lean: what is certified, what is held and what goes out, tick by tick. No program in sight. A ring of lanes in plain Lean: what each says, and hears, tick by tick. No program in sight. What the lanes of a ring hold, tick by tick. Plain.
-/
import Derived.Test.YtbdklfcgcmdgaaaGa04
namespace Go.Proofs.Ytbdklfcgcmdgaaa
open Go.RowKit
set_option linter.unusedVariables false
set_option linter.unusedSimpArgs false

/-! ### what is certified -/
open Classical in
/-- the walk over pairs (a row, one ahead of it) -/
noncomputable def certF : List (Rw × Rw) → Rw → Rw
  | [], out => out
  | (r, o) :: t, out => if r.is = true ∧ r = o then (if out.is = true ∧ out ≠ r then rw0 else certF t r) else certF t out
/-- all pairs of the i-th row -/
def prsAt (l : List Rw) (i : Nat) : List (Rw × Rw) := (l.take i).map fun o => (l.getD i rw0, o)
def prs (l : List Rw) : List (Rw × Rw) := (List.range l.length).flatMap (prsAt l)
noncomputable def certM (l : List Rw) : Rw := certF (prs l) rw0

def hits (p : List (Rw × Rw)) (r : Rw) : Prop := r.is = true ∧ (r, r) ∈ p
theorem certF_none {p : List (Rw × Rw)} : ∀ {out : Rw}, (∀ r, ¬ hits p r) → certF p out = out := by
  induction p with
  | nil => intro out _; rfl
  | cons x t ih =>
    obtain ⟨r, o⟩ := x
    intro out h
    have h1 : ¬ (r.is = true ∧ r = o) := by
      rintro ⟨a, rfl⟩
      exact h r ⟨a, List.mem_cons_self⟩
    simp only [certF, if_neg h1]
    exact ih fun q hq => h q ⟨hq.1, List.mem_cons_of_mem _ hq.2⟩
theorem certF_one {p : List (Rw × Rw)} : ∀ {out v : Rw}, v.is = true → (∀ r, hits p r → r = v) → (out = v ∨ out.is = false ∧ hits p v) → certF p out = v := by
  induction p with
  | nil =>
    intro out v hv _ h
    rcases h with h | ⟨-, -, h⟩
    · exact h
    · cases h
  | cons x t ih =>
    obtain ⟨r, o⟩ := x
    intro out v hv hall h
    by_cases h1 : r.is = true ∧ r = o
    · obtain ⟨hr, rfl⟩ := h1
      have hrv := hall r ⟨hr, List.mem_cons_self⟩
      subst hrv
      have h2 : ¬ (out.is = true ∧ out ≠ r) := by
        rintro ⟨a, b⟩
        rcases h with h | ⟨h, -⟩
        · exact b h
        · rw [h] at a; cases a
      simp only [certF, hr, and_self, if_true, if_neg h2]
      exact ih hv (fun q hq => hall q ⟨hq.1, List.mem_cons_of_mem _ hq.2⟩) (.inl rfl)
    · simp only [certF, if_neg h1]
      refine ih hv (fun q hq => hall q ⟨hq.1, List.mem_cons_of_mem _ hq.2⟩) ?_
      rcases h with h | ⟨h, h3, h4⟩
      · exact .inl h
      · refine .inr ⟨h, h3, ?_⟩
        rcases List.mem_cons.1 h4 with e | e
        · cases e; exact absurd ⟨hv, rfl⟩ h1
        · exact e
theorem certF_two {p : List (Rw × Rw)} : ∀ {out v v' : Rw}, v ≠ v' → (hits p v ∨ out = v ∧ v.is = true) → hits p v' → certF p out = rw0 := by
  induction p with
  | nil => intro out v v' _ _ h; cases h.2
  | cons x t ih =>
    obtain ⟨r, o⟩ := x
    intro out v v' hne hv hv'
    by_cases h1 : r.is = true ∧ r = o
    · obtain ⟨hr, rfl⟩ := h1
      by_cases h2 : out.is = true ∧ out ≠ r
      · simp only [certF, hr, and_self, if_true, if_pos h2, true_and]

      · simp only [certF, hr, and_self, if_true, if_neg h2]
        by_cases e : r = v'
        · subst e
          have hm : hits t v := by
            rcases hv with ⟨h3, h4⟩ | ⟨h3, h4⟩
            · refine ⟨h3, ?_⟩
              rcases List.mem_cons.1 h4 with e | e
              · cases e; exact absurd rfl hne
              · exact e
            · subst h3
              exact absurd ⟨h4, hne⟩ h2
          exact ih (v := r) (v' := v) (Ne.symm hne) (.inr ⟨rfl, hr⟩) hm
        · have hm : hits t v' := by
            refine ⟨hv'.1, ?_⟩
            rcases List.mem_cons.1 hv'.2 with q | q
            · cases q; exact absurd rfl e
            · exact q
          exact ih (v := r) (v' := v') e (.inr ⟨rfl, hr⟩) hm
    · simp only [certF, if_neg h1]
      have hk : ∀ q, hits ((r, o) :: t) q → hits t q := fun q hq => ⟨hq.1, by
        rcases List.mem_cons.1 hq.2 with e | e
        · cases e; exact absurd ⟨hq.1, rfl⟩ h1
        · exact e⟩
      refine ih hne ?_ (hk _ hv')
      rcases hv with h | h
      · exact .inl (hk _ h)
      · exact .inr h

/-- at least two of a list are that one -/
def Dup (l : List Rw) (v : Rw) : Prop := v.is = true ∧ ∃ j i : Nat, j < i ∧ l[j]? = some v ∧ l[i]? = some v
theorem hits_prs {l : List Rw} {v : Rw} : hits (prs l) v ↔ Dup l v := by
  unfold hits Dup prs prsAt
  constructor
  · rintro ⟨h, hm⟩
    refine ⟨h, ?_⟩
    obtain ⟨i, hi, hm⟩ := List.mem_flatMap.1 hm
    obtain ⟨o, ho, e⟩ := List.mem_map.1 hm
    have hil : i < l.length := List.mem_range.1 hi
    obtain ⟨j, hj, e2⟩ := List.getElem_of_mem ho
    rw [List.length_take] at hj
    cases e
    refine ⟨j, i, by omega, ?_, ?_⟩
    · rw [List.getElem_take] at e2
      rw [List.getElem?_eq_getElem (by omega), e2]
    · rw [List.getElem?_eq_getElem hil, List.getD_eq_getElem?_getD, List.getElem?_eq_getElem hil]; rfl
  · rintro ⟨h, j, i, hji, h1, h2⟩
    refine ⟨h, List.mem_flatMap.2 ⟨i, List.mem_range.2 (List.getElem?_eq_some_iff.1 h2).1, List.mem_map.2 ⟨v, ?_, ?_⟩⟩⟩
    · refine List.mem_of_getElem? (i := j) ?_
      rw [List.getElem?_take, if_pos hji, h1]
    · rw [List.getD_eq_getElem?_getD, h2]; rfl
theorem certM_one {l : List Rw} {v : Rw} (h : Dup l v) (hall : ∀ r, Dup l r → r = v) : certM l = v :=
  certF_one h.1 (fun r hr => hall r (hits_prs.1 hr)) (.inr ⟨rfl, hits_prs.2 h⟩)
theorem certM_none {l : List Rw} (h : ∀ r, ¬ Dup l r) : certM l = rw0 := certF_none fun r hr => h r (hits_prs.1 hr)
theorem certM_two {l : List Rw} {v v' : Rw} (hne : v ≠ v') (h : Dup l v) (h' : Dup l v') : certM l = rw0 := certF_two hne (.inl (hits_prs.2 h)) (hits_prs.2 h')
/-- either nothing, or one that two have -/
theorem certM_or (l : List Rw) : certM l = rw0 ∨ Dup l (certM l) := by
  by_cases h : ∃ v, Dup l v
  · obtain ⟨v, hv⟩ := h
    by_cases h2 : ∀ r, Dup l r → r = v
    · exact .inr (by rw [certM_one hv h2]; exact hv)
    · have : ∃ r, Dup l r ∧ r ≠ v := Classical.byContradiction fun hn => h2 fun r hr => Classical.byContradiction fun hne => hn ⟨r, hr, hne⟩
      obtain ⟨r, hr, hne⟩ := this
      exact .inl (certM_two hne hr hv)
  · exact .inl (certM_none fun r hr => h ⟨r, hr⟩)
theorem certM_ok {l : List Rw} (h : ∀ r ∈ l, r.ok) : (certM l).ok := by
  rcases certM_or l with e | ⟨-, -, i, -, -, e⟩
  · rw [e]; exact rw0_ok
  · exact h _ (List.mem_of_getElem? e)

/-! ### the lane -/
def tab (n : Nat) (f : Nat → Rw) : List Rw := (List.range n).map f
theorem tab_len (n : Nat) (f : Nat → Rw) : (tab n f).length = n := by simp [tab]
theorem tab_at {n : Nat} {f : Nat → Rw} {k : Nat} (h : k < n) : (tab n f)[k]? = some (f k) := by simp [tab, h]
theorem tab_mem {n : Nat} {f : Nat → Rw} {r : Rw} (h : r ∈ tab n f) : ∃ k, k < n ∧ r = f k := by
  simp only [tab, List.mem_map, List.mem_range] at h
  obtain ⟨k, h1, h2⟩ := h
  exact ⟨k, h1, h2.symm⟩
theorem tab_ext {n : Nat} {l : List Rw} {f : Nat → Rw} (h1 : l.length = n) (h2 : ∀ k, k < n → l[k]? = some (f k)) : l = tab n f := by
  apply List.ext_getElem?
  intro k
  by_cases hk : k < n
  · rw [h2 k hk, tab_at hk]
  · rw [List.getElem?_eq_none (by omega), List.getElem?_eq_none (by rw [tab_len]; omega)]
theorem tab_congr {n : Nat} {f g : Nat → Rw} (h : ∀ k, k < n → f k = g k) : tab n f = tab n g := tab_ext (tab_len _ _) fun k hk => by rw [tab_at hk, h k hk]
theorem tab_set {n : Nat} {f g : Nat → Rw} {k : Nat} (hk : k < n) (h : ∀ j, j < n → j ≠ k → g j = f j) : (tab n f).set k (g k) = tab n g := by
  refine tab_ext (by rw [List.length_set, tab_len]) fun j hj => ?_
  rw [List.getElem?_set]
  by_cases e : k = j
  · subst e; rw [if_pos rfl, if_pos (by rw [tab_len]; exact hk)]
  · rw [if_neg e, tab_at hj, h j hj (Ne.symm e)]

theorem tab_put {n : Nat} {f g : Nat → Rw} {k : Nat} {x : Rw} (hk : k < n) (hx : g k = x) (h : ∀ j, j < n → j ≠ k → g j = f j) : (tab n f).set k x = tab n g := by rw [← hx]; exact tab_set hk h

/-- how far a source is, with the clock (way 0), or against it -/
def distM (n me way s : Nat) : Nat := if way = 0 then (me + n - s) % n else (s + n - me) % n
/-- a row that came, in plain form -/
def inRow (n : Nat) (l : List Rw) (s : Nat) : Rw := match l[s]? with | some r => r.plain n | none => rw0
theorem fillR_tab (n : Nat) (l : List Rw) : fillR n l = tab n (inRow n l) := tab_ext (fillR_len n l) fun k hk => by rw [fillR_at n l k hk]; rfl
/-- one way's rows at a tick: q = 0 the track, 1 the near ones -/
def sideM (n me way : Nat) (near far : List Rw) (q s : Nat) : Rw :=
  if distM n me way s = 0 then rw0 else if distM n me way s = 1 then (if q = 0 then inRow n near s else rw0) else (if q = 0 then inRow n far s else inRow n near s)
/-- what four links bring: 0 near, 1 far with the clock, 2 near, 3 far against it; which of a tick's lists (0, 1 with the clock: track, near; 2, 3 against it), which source -/
def momM (n me : Nat) (ins : Nat → List Rw) (q s : Nat) : Rw := sideM n me (q / 2) (ins (2 * (q / 2))) (ins (2 * (q / 2) + 1)) (q % 2) s
structure LaneM where
  n : Nat
  me : Nat
  T : Nat
  b : Bool
  past : Nat → Nat → Nat → Rw
def LaneM.new (n me : Nat) : LaneM := ⟨n, me, 0, false, fun _ _ _ => rw0⟩
/-- what is certified of a source, by what was so many ticks ago -/
noncomputable def ofM (n me s : Nat) (was : Nat → Nat → Nat → Rw) : Rw :=
  if s = me then was n 0 s else certM [was (n - distM n me 0 s) 0 s, was (n - distM n me 0 s) 1 s, was (n - distM n me 1 s) 2 s, was (n - distM n me 1 s) 3 s]
def LaneM.put (L : LaneM) (ins : Nat → List Rw) : LaneM :=
  { L with T := L.T + 1, b := true, past := fun j => if j = L.T % (L.n + 1) then momM L.n L.me ins else L.past j }
/-- held, behind 'put' -/
noncomputable def LaneM.held (L : LaneM) (s : Nat) : Rw :=
  if L.n ≤ L.T - 1 then ofM L.n L.me s (fun ago => L.past ((L.T - 1 - ago) % (L.n + 1))) else rw0
def LaneM.said (L : LaneM) (own : Rw) : LaneM :=
  if L.b then { L with b := false, past := fun j q s => if j = (L.T - 1) % (L.n + 1) ∧ q % 2 = 0 ∧ s = L.me then own.plain L.n else L.past j q s } else L
/-- what goes out: behind 'said' -/
def LaneM.out (L : LaneM) (q : Nat) : List Rw := tab L.n (L.past ((L.T - 1) % (L.n + 1)) q)

def LaneM.okP (L : LaneM) : Prop := ∀ j q s, (L.past j q s).ok
theorem inRow_ok {n : Nat} {l : List Rw} (h : ∀ r ∈ l, r.ok) (s : Nat) : (inRow n l s).ok := by
  unfold inRow
  split
  · exact Rw.plain_ok (h _ (List.mem_of_getElem? ‹_›))
  · exact rw0_ok
theorem sideM_ok {n me way : Nat} {near far : List Rw} (h1 : ∀ r ∈ near, r.ok) (h2 : ∀ r ∈ far, r.ok) (q s : Nat) : (sideM n me way near far q s).ok := by
  unfold sideM
  repeat' split
  all_goals first | exact rw0_ok | exact inRow_ok h1 _ | exact inRow_ok h2 _
theorem momM_ok {n me : Nat} {ins : Nat → List Rw} (h : ∀ i, ∀ r ∈ ins i, r.ok) (q s : Nat) : (momM n me ins q s).ok := sideM_ok (h _) (h _) _ _
theorem LaneM.new_ok (n me : Nat) : (LaneM.new n me).okP := fun _ _ _ => rw0_ok
theorem LaneM.put_ok {L : LaneM} (h : L.okP) {ins : Nat → List Rw} (hi : ∀ i, ∀ r ∈ ins i, r.ok) : (L.put ins).okP := fun j q s => by
  simp only [LaneM.put]
  split
  · exact momM_ok hi q s
  · exact h j q s
theorem LaneM.said_ok {L : LaneM} (h : L.okP) {own : Rw} (ho : own.ok) : (L.said own).okP := fun j q s => by
  unfold LaneM.said
  split
  · simp only
    split
    · exact Rw.plain_ok ho
    · exact h j q s
  · exact h j q s
theorem ofM_ok {n me s : Nat} {was : Nat → Nat → Nat → Rw} (h : ∀ a q s, (was a q s).ok) : (ofM n me s was).ok := by
  unfold ofM
  split
  · exact h _ _ _
  · refine certM_ok fun r hr => ?_
    simp only [List.mem_cons, List.not_mem_nil, or_false] at hr
    rcases hr with rfl | rfl | rfl | rfl <;> exact h _ _ _
theorem LaneM.held_ok {L : LaneM} (h : L.okP) (s : Nat) : (L.held s).ok := by
  unfold LaneM.held
  split
  · exact ofM_ok fun a q s => h _ q s
  · exact rw0_ok
theorem LaneM.out_ok {L : LaneM} (h : L.okP) (q : Nat) : ∀ r ∈ L.out q, r.ok := fun r hr => by
  obtain ⟨k, -, rfl⟩ := tab_mem hr
  exact h _ _ _
/-! ### tables are short -/
theorem plain_tlen {n : Int} {r : Rw} : (r.plain n).t.length ≤ 16 := by
  unfold Rw.plain
  split
  · rename_i h
    simp [mayN] at h
    rw [fillH_len]
    omega
  · simp [rw0]
def LaneM.okT (L : LaneM) : Prop := ∀ j q s, (L.past j q s).t.length ≤ 16
theorem inRow_tlen {n : Nat} {l : List Rw} (s : Nat) : (inRow n l s).t.length ≤ 16 := by
  unfold inRow
  split
  · exact plain_tlen
  · simp [rw0]
theorem momM_tlen {n me : Nat} {ins : Nat → List Rw} (q s : Nat) : (momM n me ins q s).t.length ≤ 16 := by
  unfold momM sideM
  repeat' split
  all_goals first | exact inRow_tlen _ | simp [rw0]
theorem LaneM.new_okT (n me : Nat) : (LaneM.new n me).okT := fun _ _ _ => by simp [LaneM.new, rw0]
theorem LaneM.put_okT {L : LaneM} (h : L.okT) (ins : Nat → List Rw) : (L.put ins).okT := fun j q s => by
  simp only [LaneM.put]
  split
  · exact momM_tlen q s
  · exact h j q s
theorem LaneM.said_okT {L : LaneM} (h : L.okT) (own : Rw) : (L.said own).okT := fun j q s => by
  unfold LaneM.said
  split
  · simp only
    split
    · exact plain_tlen
    · exact h j q s
  · exact h j q s
theorem ofM_tlen {n me s : Nat} {was : Nat → Nat → Nat → Rw} (h : ∀ a q s, (was a q s).t.length ≤ 16) : (ofM n me s was).t.length ≤ 16 := by
  unfold ofM
  split
  · exact h _ _ _
  · rcases certM_or [was (n - distM n me 0 s) 0 s, was (n - distM n me 0 s) 1 s, was (n - distM n me 1 s) 2 s, was (n - distM n me 1 s) 3 s] with e | ⟨-, -, i, -, -, e⟩
    · rw [e]; simp [rw0]
    · have := List.mem_of_getElem? e
      simp only [List.mem_cons, List.not_mem_nil, or_false] at this
      rcases this with e | e | e | e <;> rw [e] <;> exact h _ _ _
theorem LaneM.held_tlen {L : LaneM} (h : L.okT) (s : Nat) : (L.held s).t.length ≤ 16 := by
  unfold LaneM.held
  split
  · exact ofM_tlen fun a q s => h _ q s
  · simp [rw0]
theorem LaneM.out_tlen {L : LaneM} (h : L.okT) (q : Nat) : ∀ r ∈ L.out q, r.t.length ≤ 16 := fun r hr => by
  obtain ⟨k, -, rfl⟩ := tab_mem hr
  exact h _ _ _
end Go.Proofs.Ytbdklfcgcmdgaaa
namespace Go.Proofs.Ytbdklfcgcmdgaaa
open Go.RowKit
set_option linter.unusedVariables false
set_option linter.unusedSimpArgs false

/-! ### what is plain stays -/
theorem Sd.norm_twice (s : Sd) : s.norm.norm = s.norm := by
  unfold Sd.norm
  by_cases h : s.good = true
  · simp [h]
  · have : sd0.good = false := rfl
    simp [h, this]
theorem Cl.norm_twice (c : Cl) : c.norm.norm = c.norm := by
  have e1 := Sd.norm_twice c.o
  have e2 := Sd.norm_twice c.r
  unfold Cl.norm
  simp only [Cl.mk.injEq]
  refine ⟨?_, e1, e2, trivial, ?_, ?_⟩
  all_goals repeat' split
  all_goals first | rfl | omega
theorem nrm_twice {c : List Value} (h : okL cellK c = true) : nrm (nrm c) = nrm c := by
  obtain ⟨C, rfl, hC⟩ := cell_of h
  rw [nrm_vals C hC, nrm_vals C.norm hC, Cl.norm_twice]
theorem Hd.nrm_twice {y : Hd} (h : y.ok) : y.nrm.nrm = y.nrm := by
  unfold Hd.nrm
  split
  · simp [Ytbdklfcgcmdgaaa.nrm_twice h]
  · rfl
theorem fillH_twice {n : Nat} {l : List Hd} (h : ∀ x ∈ l, x.ok) : fillH n (fillH n l) = fillH n l := by
  apply List.ext_getElem?
  intro k
  by_cases hk : k < n
  · rw [fillH_at n _ k hk, fillH_at n l k hk]
    congr 1
    cases hy : l[k]? with
    | none => rfl
    | some y => exact Hd.nrm_twice (h y (List.mem_of_getElem? hy))
  · rw [List.getElem?_eq_none (by rw [fillH_len]; omega), List.getElem?_eq_none (by rw [fillH_len]; omega)]
theorem Rw.plain_twice {n : Int} {r : Rw} (h : r.ok) : (r.plain n).plain n = r.plain n := by
  unfold Rw.plain
  by_cases hm : (r.is && mayN n) = true
  · rw [if_pos hm]
    have : mayN n = true := by simp only [Bool.and_eq_true] at hm; exact hm.2
    simp [this, nrm_twice h.1, fillH_twice h.2]
  · rw [if_neg hm]; rfl
theorem rw0_plain (n : Int) : rw0.plain n = rw0 := by unfold Rw.plain; rw [if_neg (by simp [rw0])]
theorem plain_no {n : Int} {r : Rw} (h : (r.plain n).is = false) : r.plain n = rw0 := by
  unfold Rw.plain at h ⊢
  split at h
  · cases h
  · rename_i hh; rw [if_neg hh]

/-! ### the ring -/
structure ActM where
  kind : Int
  s : Int
  row : Rw
structure FltM where
  link : Bool
  at_ : Nat
  which : Nat
  acts : List ActM
/-- words by node and link -/
abbrev WordsM := Nat → Nat → List Rw
structure RingM where
  N : Nat
  F : FltM
  lane : Nat → LaneM
  on : Nat → Bool
  sent : List WordsM
def RingM.new (N : Nat) (F : FltM) : RingM := ⟨N, F, fun i => LaneM.new N i, fun _ => false, []⟩
def RingM.bad (R : RingM) (i : Nat) : Bool := !R.F.link && decide (R.F.at_ % R.N = i)
/-- sent by a node on a link, so many ticks ago -/
def RingM.sentM (R : RingM) (i link ago : Nat) : List Rw := if R.sent.length < ago then [] else (R.sent.getD (R.sent.length - ago) (fun _ _ => [])) (i % R.N) link
/-- what the four links bring -/
def RingM.insM (R : RingM) (i q : Nat) : List Rw :=
  if q = 0 then R.sentM (i + 2 * R.N - 1) 0 1 else if q = 1 then R.sentM (i + 2 * R.N - 2) 1 2 else if q = 2 then R.sentM (i + 2 * R.N + 1) 2 1 else R.sentM (i + 2 * R.N + 2) 3 2
/-- may a link say what it likes? -/
def RingM.odd (R : RingM) (i k : Nat) : Bool := decide (R.F.at_ % R.N = i) && (!R.F.link || decide (R.F.which % 4 = k)) && !R.F.acts.isEmpty
/-- instead of a word -/
def RingM.saidM (R : RingM) (i k : Nat) (w other : List Rw) : List Rw :=
  if R.odd i k then
    match R.F.acts[(R.sent.length * 4 + k) % R.F.acts.length]? with
    | none => w
    | some a =>
      let s := (a.s % R.N).toNat
      if a.kind % 6 = 1 then [] else if a.kind % 6 = 2 then w.set s a.row else if a.kind % 6 = 3 then R.sentM (i + 2 * R.N) k (1 + s) else if a.kind % 6 = 4 then other else if a.kind % 6 = 5 then w.set i a.row else w
  else w
def RingM.hear (R : RingM) (on : Nat → Bool) : RingM :=
  { R with lane := fun i => if on i then (if R.on i then R.lane i else LaneM.new R.N i).put (R.insM i) else R.lane i, on := on }
noncomputable def RingM.held (R : RingM) (i : Nat) : List Rw := if R.on i then tab R.N (R.lane i).held else []
/-- the words that a node's lane says: behind 'say' -/
def RingM.word (R : RingM) (own : Nat → Rw) (i q : Nat) : List Rw := if R.on i && (R.lane i).b then ((R.lane i).said (own i)).out q else []
def RingM.outM (R : RingM) (own : Nat → Rw) (i k : Nat) : List Rw :=
  if k < 2 then R.saidM i k (R.word own i 0) (R.word own i 2) else R.saidM i k (R.word own i 2) (R.word own i 0)
def RingM.say (R : RingM) (own : Nat → Rw) : RingM :=
  { R with lane := fun i => if R.on i then (R.lane i).said (own i) else R.lane i, sent := R.sent ++ [R.outM own] }
def RingM.run (R : RingM) (on : Nat → Nat → Bool) (own : Nat → Nat → Rw) : Nat → RingM
  | 0 => R
  | t + 1 => ((R.run on own t).hear (on t)).say (own t)

section
variable (N : Nat) (F : FltM) (on : Nat → Nat → Bool) (own : Nat → Nat → Rw)
def rgT (t : Nat) : RingM := (RingM.new N F).run on own t
theorem rgT_succ (t : Nat) : rgT N F on own (t + 1) = ((rgT N F on own t).hear (on t)).say (own t) := rfl
theorem rgT_N (t : Nat) : (rgT N F on own t).N = N ∧ (rgT N F on own t).F = F := by
  induction t with
  | zero => exact ⟨rfl, rfl⟩
  | succ t ih => rw [rgT_succ]; exact ih
theorem rgT_len (t : Nat) : (rgT N F on own t).sent.length = t := by
  induction t with
  | zero => rfl
  | succ t ih =>
    rw [rgT_succ]
    show ((rgT N F on own t).sent ++ [_]).length = _
    rw [List.length_append, ih]; rfl
/-- what was sent at a tick -/
def sentT (t i k : Nat) : List Rw := ((rgT N F on own t).hear (on t)).outM (own t) i k
theorem rgT_sent (t τ : Nat) (h : τ < t) : (rgT N F on own t).sent[τ]? = some (sentT N F on own τ) := by
  induction t with
  | zero => omega
  | succ t ih =>
    rw [rgT_succ]
    show ((rgT N F on own t).sent ++ [((rgT N F on own t).hear (on t)).outM (own t)])[τ]? = _
    have hl := rgT_len N F on own t
    by_cases e : τ = t
    · subst e
      rw [List.getElem?_append_right (by omega), hl, Nat.sub_self]
      rfl
    · rw [List.getElem?_append_left (by omega)]
      exact ih (by omega)
/-- how many ticks in a row it is on, till tick t -/
def runs : Nat → Nat → Nat
  | 0, i => if on 0 i then 1 else 0
  | t + 1, i => if on (t + 1) i then runs t i + 1 else 0
theorem runs_le (t i : Nat) : runs on t i ≤ t + 1 := by
  induction t with
  | zero => unfold runs; split <;> omega
  | succ t ih => unfold runs; split <;> omega
theorem runs_on (t i : Nat) : 0 < runs on t i ↔ on t i = true := by
  cases t <;> (unfold runs; split <;> simp_all)
theorem runs_back (t i a : Nat) (h : a < runs on t i) : on (t - a) i = true ∧ runs on (t - a) i + a = runs on t i := by
  induction t generalizing a with
  | zero =>
    have h1 := runs_le on 0 i
    have : a = 0 := by omega
    subst this
    exact ⟨(runs_on on 0 i).1 h, rfl⟩
  | succ t ih =>
    cases a with
    | zero => exact ⟨(runs_on on (t + 1) i).1 h, rfl⟩
    | succ a =>
      have h2 : runs on (t + 1) i = runs on t i + 1 := by
        have : on (t + 1) i = true := (runs_on on (t + 1) i).1 (by omega)
        rw [runs, if_pos this]
      have := ih a (by omega)
      rw [show t + 1 - (a + 1) = t - a from by omega]
      exact ⟨this.1, by omega⟩
/-- what came at a tick -/
def insT (t i q : Nat) : List Rw := (rgT N F on own t).insM i q
/-- a tick's lists, behind its end -/
def trk (t i q s : Nat) : Rw := if q % 2 = 0 ∧ s = i then (own t i).plain N else momM N i (insT N F on own t i) q s
/-- what a lane holds of the last ticks -/
structure LaneT (t i : Nat) (L : LaneM) : Prop where
  n : L.n = N
  me : L.me = i
  T : L.T = runs on t i
  b : L.b = false
  p : ∀ a, a < runs on t i → a ≤ N → ∀ q s, q < 4 → L.past ((runs on t i - 1 - a) % (N + 1)) q s = trk N F on own (t - a) i q s
end
end Go.Proofs.Ytbdklfcgcmdgaaa
namespace Go.Proofs.Ytbdklfcgcmdgaaa
open Go.RowKit
set_option linter.unusedVariables false
set_option linter.unusedSimpArgs false

theorem mod_apart {x a m : Nat} (h1 : 1 ≤ a) (h2 : a < m) (h3 : a ≤ x) : (x - a) % m ≠ x % m := by
  intro e
  have e1 := Nat.div_add_mod x m
  have e2 := Nat.div_add_mod (x - a) m
  have hle : (x - a) / m ≤ x / m := Nat.div_le_div_right (by omega)
  obtain ⟨k, hk⟩ : ∃ k, x / m = (x - a) / m + k := ⟨x / m - (x - a) / m, by omega⟩
  rw [hk, Nat.mul_add] at e1
  rw [e] at e2
  have e3 : a = m * k := by omega
  rcases Nat.eq_zero_or_pos k with h | h
  · rw [h] at e3; omega
  · have : m * 1 ≤ m * k := Nat.mul_le_mul_left _ h
    omega
theorem ofM_congr {n me s : Nat} {was was' : Nat → Nat → Nat → Rw} (hm : me < n) (hs : s < n) (h : ∀ a q, 1 ≤ a → a ≤ n → q < 4 → was a q s = was' a q s) : ofM n me s was = ofM n me s was' := by
  have h0 : distM n me 0 s < n := by unfold distM; split <;> exact Nat.mod_lt _ (by omega)
  have h1 : distM n me 1 s < n := by unfold distM; split <;> exact Nat.mod_lt _ (by omega)
  unfold ofM
  rw [h n 0 (by omega) (by omega) (by omega), h (n - distM n me 0 s) 0 (by omega) (by omega) (by omega), h (n - distM n me 0 s) 1 (by omega) (by omega) (by omega), h (n - distM n me 1 s) 2 (by omega) (by omega) (by omega), h (n - distM n me 1 s) 3 (by omega) (by omega) (by omega)]

section
variable (N : Nat) (F : FltM) (on : Nat → Nat → Bool) (own : Nat → Nat → Rw)
/-- the lane behind a tick's beginning -/
def laneH (t i : Nat) : LaneM := ((rgT N F on own t).hear (on t)).lane i
structure LaneB (t i : Nat) (L : LaneM) : Prop where
  n : L.n = N
  me : L.me = i
  T : L.T = runs on t i
  b : L.b = true
  p0 : ∀ q s, L.past ((runs on t i - 1) % (N + 1)) q s = momM N i (insT N F on own t i) q s
  p : ∀ a, 1 ≤ a → a < runs on t i → a ≤ N → ∀ q s, q < 4 → L.past ((runs on t i - 1 - a) % (N + 1)) q s = trk N F on own (t - a) i q s
theorem laneB_said {t i : Nat} {L : LaneM} (h : LaneB N F on own t i L) (hr : 0 < runs on t i) : LaneT N F on own t i (L.said (own t i)) := by
  have hb := h.b
  have e : L.said (own t i) = { L with b := false, past := fun j q s => if j = (L.T - 1) % (L.n + 1) ∧ q % 2 = 0 ∧ s = L.me then (own t i).plain L.n else L.past j q s } := by unfold LaneM.said; rw [if_pos hb]
  rw [e]
  refine ⟨h.n, h.me, h.T, rfl, fun a ha haN q s hq => ?_⟩
  show (if (runs on t i - 1 - a) % (N + 1) = (L.T - 1) % (L.n + 1) ∧ q % 2 = 0 ∧ s = L.me then (own t i).plain L.n else L.past ((runs on t i - 1 - a) % (N + 1)) q s) = _
  rw [h.T, h.n, h.me]
  by_cases e0 : a = 0
  · subst e0
    rw [Nat.sub_zero, Nat.sub_zero]
    unfold trk
    by_cases hc : q % 2 = 0 ∧ s = i
    · rw [if_pos ⟨rfl, hc⟩, if_pos hc]
    · rw [if_neg (fun h => hc h.2), if_neg hc, h.p0]
  · have hne := mod_apart (x := runs on t i - 1) (a := a) (m := N + 1) (by omega) (by omega) (by omega)
    rw [if_neg (fun h => hne h.1), h.p a (by omega) ha haN q s hq]
theorem laneB_put {t i : Nat} (L : LaneM) (hn : L.n = N) (hme : L.me = i) (hT : L.T + 1 = runs on t i)
    (hp : ∀ a, 1 ≤ a → a < runs on t i → a ≤ N → ∀ q s, q < 4 → L.past ((runs on t i - 1 - a) % (N + 1)) q s = trk N F on own (t - a) i q s) : LaneB N F on own t i (L.put (insT N F on own t i)) := by
  refine ⟨hn, hme, hT, rfl, fun q s => ?_, fun a h1 h2 h3 q s hq => ?_⟩
  · show (if (runs on t i - 1) % (N + 1) = L.T % (L.n + 1) then momM L.n L.me (insT N F on own t i) else L.past ((runs on t i - 1) % (N + 1))) q s = _
    rw [if_pos (by rw [hn, ← hT]; rfl), hn, hme]
  · have hne := mod_apart (x := runs on t i - 1) (a := a) (m := N + 1) h1 (by omega) (by omega)
    show (if (runs on t i - 1 - a) % (N + 1) = L.T % (L.n + 1) then momM L.n L.me (insT N F on own t i) else L.past ((runs on t i - 1 - a) % (N + 1))) q s = _
    rw [if_neg (by rw [hn, show L.T = runs on t i - 1 from by omega]; exact hne)]
    exact hp a h1 h2 h3 q s hq
theorem rgT_on (t i : Nat) : (rgT N F on own (t + 1)).on i = on t i := rfl
theorem rgT_lane (t i : Nat) (h : on t i = true) : (rgT N F on own (t + 1)).lane i = (laneH N F on own t i).said (own t i) := by
  rw [rgT_succ]
  show (if ((rgT N F on own t).hear (on t)).on i then _ else _) = _
  rw [if_pos (show ((rgT N F on own t).hear (on t)).on i = true from h)]
  rfl
theorem laneH_eq (t i : Nat) (h : on t i = true) : laneH N F on own t i = (if (rgT N F on own t).on i then (rgT N F on own t).lane i else LaneM.new (rgT N F on own t).N i).put (insT N F on own t i) := by
  show (if on t i then _ else _) = _
  rw [if_pos h]; rfl
theorem laneB_all : ∀ (t i : Nat), on t i = true → LaneB N F on own t i (laneH N F on own t i)
  | 0, i, h => by
    have hr : runs on 0 i = 1 := by unfold runs; rw [if_pos h]
    rw [laneH_eq N F on own 0 i h, if_neg (show ¬ (rgT N F on own 0).on i = true from by simp [rgT, RingM.run, RingM.new])]
    exact laneB_put N F on own _ rfl rfl (by rw [hr]; rfl) (fun a h1 h2 => by omega)
  | t + 1, i, h => by
    rw [laneH_eq N F on own (t + 1) i h]
    by_cases hb : on t i = true
    · have hr : runs on (t + 1) i = runs on t i + 1 := by rw [runs, if_pos h]
      have ih := laneB_said N F on own (laneB_all t i hb) ((runs_on on t i).2 hb)
      rw [if_pos (show (rgT N F on own (t + 1)).on i = true from hb), rgT_lane N F on own t i hb]
      refine laneB_put N F on own _ ih.n ih.me (by rw [ih.T, hr]) (fun a h1 h2 h3 q s hq => ?_)
      have := ih.p (a - 1) (by omega) (by omega) q s hq
      rw [show runs on (t + 1) i - 1 - a = runs on t i - 1 - (a - 1) from by omega, this, show t + 1 - a = t - (a - 1) from by omega]
    · have hr0 : runs on t i = 0 := Nat.eq_zero_of_not_pos fun hp => hb ((runs_on on t i).1 hp)
      have hr : runs on (t + 1) i = 1 := by rw [runs, if_pos h, hr0]
      rw [if_neg (show ¬ (rgT N F on own (t + 1)).on i = true from hb)]
      have hN := (rgT_N N F on own (t + 1)).1
      refine laneB_put N F on own _ hN rfl (by rw [hr]; rfl) (fun a h1 h2 => by omega)
/-- what a node that is on holds -/
theorem held_all (t i : Nat) (h : on t i = true) (hi : i < N) : ((rgT N F on own t).hear (on t)).held i = tab N fun s => if N < runs on t i then ofM N i s (fun ago => trk N F on own (t - ago) i) else rw0 := by
  have hB := laneB_all N F on own t i h
  unfold RingM.held
  rw [if_pos (show ((rgT N F on own t).hear (on t)).on i = true from h)]
  have hN : ((rgT N F on own t).hear (on t)).N = N := (rgT_N N F on own t).1
  rw [hN]
  refine tab_congr fun s hs => ?_
  show LaneM.held (laneH N F on own t i) s = _
  unfold LaneM.held
  have hr : 0 < runs on t i := (runs_on on t i).2 h
  rw [hB.n, hB.T, hB.me]
  by_cases hc : N < runs on t i
  · rw [if_pos (by omega), if_pos hc]
    refine ofM_congr hi hs fun a q h1 h2 hq => ?_
    exact hB.p a h1 (by omega) h2 q s hq
  · rw [if_neg (by omega), if_neg hc]
/-- what it says -/
theorem word_all (t i q : Nat) (h : on t i = true) (hq : q = 0 ∨ q = 2) : ((rgT N F on own t).hear (on t)).word (own t) i q = tab N (trk N F on own t i q) := by
  have hB := laneB_all N F on own t i h
  have hr : 0 < runs on t i := (runs_on on t i).2 h
  have hT := laneB_said N F on own hB hr
  unfold RingM.word
  rw [if_pos (by
    show (on t i && (laneH N F on own t i).b) = true
    rw [h, hB.b]; rfl)]
  show ((laneH N F on own t i).said (own t i)).out q = _
  unfold LaneM.out
  rw [hT.n, hT.T]
  refine tab_congr fun s _ => ?_
  have := hT.p 0 hr (by omega) q s (by omega)
  rw [Nat.sub_zero, Nat.sub_zero] at this
  exact this
theorem word_off (t i q : Nat) (h : on t i = false) : ((rgT N F on own t).hear (on t)).word (own t) i q = [] := by
  unfold RingM.word
  rw [if_neg (by show ¬ (on t i && _) = true; rw [h]; simp)]
end
end Go.Proofs.Ytbdklfcgcmdgaaa
