/-
  The plain law of AgreesOne: all but one hold the same of each that is not it; so all agree on one vector. A ring whose nodes say what they hold: what they agree on. No program in sight. A ring whose nodes say what they hold, now and then: what they agree on. No program in sight. Nodes that start over a ring: what each does with what is agreed, tick by tick. No program in sight.
-/
import Derived.Test.YtdilbjikeilhbaaGreatDoorGe15
import Derived.Test.YtdilbjikeilhbaaGreatDoorGe42
import Derived.Test.YtdilbjikeilhbaaGreatDoorGe52
import Derived.Test.YtdilbjikeilhbaaGreatDoorGe18
import Derived.Test.YtdilbjikeilhbaaGreatDoorGe19
namespace Go.Proofs.YtdilbjikeilhbaaGreatDoor
open Go.RowKit
set_option linter.unusedVariables false
set_option linter.unusedSimpArgs false

theorem cnt_lo {L : List Rw} {N B s : Nat} {c : List Value} (h : ∀ k, k < N → k ≠ B → hasC L k s = some c) : ∀ k, k ≤ N → k ≤ cntL s L k c + (if s < k then 1 else 0) + (if B < k then 1 else 0)
  | 0, _ => by omega
  | k + 1, hk => by
    have ih := cnt_lo h k (by omega)
    unfold cntL
    by_cases hB : k = B
    · split at ih <;> split at ih <;> split <;> split <;> split <;> omega
    · by_cases hs : k = s
      · split at ih <;> split at ih <;> split <;> split <;> split <;> omega
      · rw [if_pos ⟨hs, h k (by omega) hB⟩]
        split at ih <;> split at ih <;> split <;> split <;> omega
end Go.Proofs.YtdilbjikeilhbaaGreatDoor
namespace Go.Proofs.YtdilbjikeilhbaaGreatDoor
open Go.RowKit
set_option linter.unusedVariables false
set_option linter.unusedSimpArgs false

/-! ### all rows are rows -/
def RingM.okR (R : RingM) : Prop := (∀ i, (R.lane i).okP) ∧ (∀ W ∈ R.sent, ∀ i k, ∀ r ∈ W i k, Rw.ok r) ∧ ∀ a ∈ R.F.acts, a.row.ok
theorem sentM_ok {R : RingM} (h : R.okR) (i link ago : Nat) : ∀ r ∈ R.sentM i link ago, r.ok := by
  unfold RingM.sentM
  split
  · simp
  · rw [List.getD_eq_getElem?_getD]
    cases hx : R.sent[R.sent.length - ago]? with
    | none => simp
    | some W => exact h.2.1 W (List.mem_of_getElem? hx) _ _
theorem insM_ok {R : RingM} (h : R.okR) (i q : Nat) : ∀ r ∈ R.insM i q, r.ok := by
  unfold RingM.insM
  split
  · exact sentM_ok h _ _ _
  · split
    · exact sentM_ok h _ _ _
    · split
      · exact sentM_ok h _ _ _
      · exact sentM_ok h _ _ _
theorem RingM.okR_new (N : Nat) (F : FltM) (hF : ∀ a ∈ F.acts, a.row.ok) : (RingM.new N F).okR := ⟨fun i => LaneM.new_ok N i, by simp [RingM.new], hF⟩
theorem RingM.okR_hear {R : RingM} (h : R.okR) (on : Nat → Bool) : (R.hear on).okR := by
  refine ⟨fun i => ?_, h.2.1, h.2.2⟩
  show (if on i then (if R.on i then R.lane i else LaneM.new R.N i).put (R.insM i) else R.lane i).okP
  split
  · refine LaneM.put_ok ?_ (fun q => insM_ok h i q)
    split
    · exact h.1 i
    · exact LaneM.new_ok _ _
  · exact h.1 i
theorem held_okR {R : RingM} (h : R.okR) (i : Nat) : ∀ r ∈ R.held i, r.ok := by
  unfold RingM.held
  split
  · intro r hr
    obtain ⟨s, -, rfl⟩ := tab_mem hr
    exact LaneM.held_ok (h.1 i) s
  · simp
theorem set_okR {l : List Rw} (h : ∀ r ∈ l, r.ok) {r : Rw} (hr : r.ok) (k : Nat) : ∀ x ∈ l.set k r, x.ok := fun x hx => by
  rcases List.mem_or_eq_of_mem_set hx with hx | rfl
  · exact h x hx
  · exact hr
theorem word_okR {R : RingM} (h : R.okR) {own : Nat → Rw} (ho : ∀ i, (own i).ok) (i q : Nat) : ∀ r ∈ R.word own i q, r.ok := by
  unfold RingM.word
  split
  · exact LaneM.out_ok (LaneM.said_ok (h.1 i) (ho i)) q
  · simp
theorem saidM_okR {R : RingM} (h : R.okR) (i k : Nat) {w o : List Rw} (hw : ∀ r ∈ w, r.ok) (ho : ∀ r ∈ o, r.ok) : ∀ r ∈ R.saidM i k w o, r.ok := by
  unfold RingM.saidM
  split
  · split
    · exact hw
    · rename_i a ha
      have har := h.2.2 a (List.mem_of_getElem? ha)
      simp only
      split
      · simp
      · split
        · exact set_okR hw har _
        · split
          · exact sentM_ok h _ _ _
          · split
            · exact ho
            · split
              · exact set_okR hw har _
              · exact hw
  · exact hw
theorem RingM.okR_say {R : RingM} (h : R.okR) {own : Nat → Rw} (ho : ∀ i, (own i).ok) : (R.say own).okR := by
  refine ⟨fun i => ?_, fun W hW i k => ?_, h.2.2⟩
  · show (if R.on i then (R.lane i).said (own i) else R.lane i).okP
    split
    · exact LaneM.said_ok (h.1 i) (ho i)
    · exact h.1 i
  · rcases List.mem_append.1 hW with hW | hW
    · exact h.2.1 W hW i k
    · rw [List.mem_singleton.1 hW]
      unfold RingM.outM
      split
      · exact saidM_okR h _ _ (word_okR h ho _ _) (word_okR h ho _ _)
      · exact saidM_okR h _ _ (word_okR h ho _ _) (word_okR h ho _ _)

/-! ### what the nodes say hangs on what they hold -/
section
variable (N : Nat) (F : FltM) (on : Nat → Nat → Bool) (C : Nat → Nat → List Value)
def Bd (i : Nat) : Prop := F.at_ % N = i ∧ F.link = false
theorem bd_of {i : Nat} (h : ¬ Bd N F i) : F.at_ % N = i → F.link = true := fun e => by
  cases hl : F.link
  · exact absurd ⟨e, hl⟩ h
  · rfl
theorem tabL_at {l : List Rw} {s : Nat} {r : Rw} (h : l[s]? = some r) : (tabL l)[s]? = some ⟨r.is, r.c⟩ := by
  unfold tabL; rw [List.getElem?_map, h]; rfl
theorem agreeL_len (h4 : 4 ≤ N) (h16 : N ≤ 16) (l : List Rw) : (agreeL N l).length = N := by
  unfold agreeL
  rw [if_pos (by omega)]
  simp
end
end Go.Proofs.YtdilbjikeilhbaaGreatDoor
namespace Go.Proofs.YtdilbjikeilhbaaGreatDoor
open Go.RowKit
set_option linter.unusedVariables false
set_option linter.unusedSimpArgs false

section
variable (N : Nat) (F : FltM) (on : Nat → Nat → Bool) (own : Nat → Nat → Rw) (C : Nat → Nat → List Value) (sy : Nat → Nat → Bool)
noncomputable def heldO (t i : Nat) : List Rw := ((rgT N F on own t).hear (on t)).held i
structure SayP : Prop where
  on_ : ∀ t i, sy t i = true → on t i = true
  own_ : ∀ t i, own t i = if sy t i = true then ⟨true, C t i, tabL (heldO N F on own t i)⟩ else rw0
  c : ∀ t i, okL cellK (C t i) = true
  ok : ∀ t i, (own t i).ok
theorem heldO_len {t i : Nat} (h : on t i = true) (hi : i < N) : (heldO N F on own t i).length = N := by
  unfold heldO
  rw [held_all N F on own t i h hi, tab_len]
variable {N F on own C sy} (h : SayP N F on own C sy)
include h
theorem heldO_at (h4 : 4 ≤ N) {t i s : Nat} (hs : s < N) (hi : i < N) (bs : ¬ Bd N F s) (bi : ¬ Bd N F i) (hon : on t i = true) :
    ∃ r, (heldO N F on own t i)[s]? = some r ∧ (∀ lo, lo + N ≤ t → (∀ t i, i < N → lo ≤ t → on t i = true) → r = (own (t - N) s).plain N) ∧ (r.is = true → N ≤ t ∧ r = (own (t - N) s).plain N) :=
  held_truthL N F on own h4 hs hi (bd_of N F bs) (bd_of N F bi) h.ok hon
theorem own_plainO (h16 : N ≤ 16) {t k : Nat} (hs : sy t k = true) : (own t k).plain N = ⟨true, nrm (C t k), fillH N (tabL (heldO N F on own t k))⟩ := by
  rw [h.own_, if_pos hs]
  unfold Rw.plain
  rw [if_pos (by simp [mayN]; omega)]
  rfl
theorem claim_rightO (h4 : 4 ≤ N) (h16 : N ≤ 16) {t i k s : Nat} (hi : i < N) (hk : k < N) (hs : s < N) (bi : ¬ Bd N F i) (bk : ¬ Bd N F k) (bs : ¬ Bd N F s) (hon : on t i = true) :
    (hasC (heldO N F on own t i) k s = none ∨ (2 * N ≤ t ∧ sy (t - 2 * N) s = true ∧ hasC (heldO N F on own t i) k s = some (nrm (C (t - 2 * N) s)))) ∧
    (∀ lo, lo + 2 * N ≤ t → (∀ t i, i < N → lo ≤ t → on t i = true) → sy (t - N) k = true → sy (t - 2 * N) s = true → hasC (heldO N F on own t i) k s = some (nrm (C (t - 2 * N) s))) := by
  obtain ⟨r, hr, hall, his⟩ := heldO_at h h4 hk hi bk bi hon
  have hasE : ∀ {x : Rw}, r = x → hasC (heldO N F on own t i) k s = if x.is then (match x.t[s]? with | some h => if h.is then some h.c else none | none => none) else none := fun {x} e => by
    unfold hasC; rw [hr, e]; rfl
  have key : N ≤ t → sy (t - N) k = true → r = (own (t - N) k).plain N →
      (hasC (heldO N F on own t i) k s = none ∨ (2 * N ≤ t ∧ sy (t - 2 * N) s = true ∧ hasC (heldO N F on own t i) k s = some (nrm (C (t - 2 * N) s)))) ∧
      (∀ lo, lo + 2 * N ≤ t → (∀ t i, i < N → lo ≤ t → on t i = true) → sy (t - N) k = true → sy (t - 2 * N) s = true → hasC (heldO N F on own t i) k s = some (nrm (C (t - 2 * N) s))) := fun ht hok he => by
    obtain ⟨q, hq, qall, qis⟩ := heldO_at h h4 hs hk bs bk (h.on_ _ _ hok)
    have hE := hasE (he.trans (own_plainO h h16 hok))
    have hfi : (fillH N (tabL (heldO N F on own (t - N) k)))[s]? = some (Hd.nrm ⟨q.is, q.c⟩) := by
      rw [fillH_at N _ s hs, tabL_at hq]
    simp only [hfi, if_true] at hE
    have e2 : t - N - N = t - 2 * N := by omega
    by_cases hqi : q.is = true
    · obtain ⟨h1, h2⟩ := qis hqi
      have hon2 : sy (t - N - N) s = true := by
        by_cases ho : sy (t - N - N) s = true
        · exact ho
        · rw [h.own_, if_neg ho, rw0_plain] at h2
          rw [h2] at hqi; cases hqi
      have hqc : q.c = nrm (C (t - 2 * N) s) := by rw [h2, own_plainO h h16 hon2, e2]
      have hv : hasC (heldO N F on own t i) k s = some (nrm (C (t - 2 * N) s)) := by
        rw [hE]
        unfold Hd.nrm
        simp only [hqi, if_true]
        rw [hqc, nrm_twice (h.c _ _)]
      exact ⟨.inr ⟨by omega, by rw [← e2]; exact hon2, hv⟩, fun _ _ _ _ _ => hv⟩
    · have hn : hasC (heldO N F on own t i) k s = none := by
        rw [hE]
        have hf : q.is = false := by simpa using hqi
        unfold Hd.nrm
        rw [hf]; rfl
      refine ⟨.inl hn, fun lo hlo hon' hk' hs' => ?_⟩
      have := qall lo (by omega) hon'
      rw [this, own_plainO h h16 (by rw [e2]; exact hs')] at hqi
      exact absurd rfl hqi
  by_cases hri : r.is = true
  · obtain ⟨h1, h2⟩ := his hri
    have hok : sy (t - N) k = true := by
      by_cases ho : sy (t - N) k = true
      · exact ho
      · rw [h.own_, if_neg ho, rw0_plain] at h2
        rw [h2] at hri; cases hri
    exact key h1 hok h2
  · have hf : r.is = false := by simpa using hri
    refine ⟨.inl ?_, fun lo hlo hon' hk' hs' => ?_⟩
    · rw [hasE rfl, hf]; rfl
    · exact (key (by omega) hk' (hall lo (by omega) hon')).2 lo hlo hon' hk' hs'
theorem agree_rightO (h4 : 4 ≤ N) (h16 : N ≤ 16) {t i s : Nat} (hi : i < N) (hs : s < N) (bi : ¬ Bd N F i) (bs : ¬ Bd N F s) (hon : on t i = true) :
    ∃ x, (agreeL N (heldO N F on own t i))[s]? = some x ∧ (∀ lo, lo + 2 * N ≤ t → (∀ t i, i < N → lo ≤ t → on t i = true) → (∀ t k, k < N → ¬ Bd N F k → lo ≤ t → sy t k = true) → x = ⟨true, nrm (C (t - 2 * N) s)⟩) ∧ (x.is = true → 2 * N ≤ t ∧ sy (t - 2 * N) s = true ∧ x = ⟨true, nrm (C (t - 2 * N) s)⟩) := by
  have hl := heldO_len N F on own hon hi
  have hB : ∃ B, (∀ k, k ≠ B → ¬ Bd N F k) := ⟨F.at_ % N, fun k hk h => hk h.1.symm⟩
  obtain ⟨B, hB⟩ := hB
  refine ⟨mostH N s (heldO N F on own t i) N, ?_, ?_, ?_⟩
  · unfold agreeL
    rw [if_pos (by omega), List.getElem?_map, hl]
    simp only [Int.toNat_natCast, Nat.min_self]
    rw [List.getElem?_range hs]
    rfl
  · intro lo hlo hall hsy
    refine (MostP.eq (n := N) hs (Nat.le_refl _) (.inl ⟨_, rfl, nrm_ok (h.c _ _), ?_⟩)).symm
    have := cnt_lo (N := N) (B := B) (s := s) (L := heldO N F on own t i) (c := nrm (C (t - 2 * N) s)) (fun k hk hkB => (claim_rightO h h4 h16 hi hk hs bi (hB k hkB) bs hon).2 lo hlo hall (hsy _ _ hk (hB k hkB) (by omega)) (hsy _ _ hs bs (by omega))) N (Nat.le_refl _)
    rw [if_pos hs] at this
    split at this <;> omega
  · intro hx
    by_cases hmx : ∃ c, okL cellK c = true ∧ N - 1 < 2 * cntL s (heldO N F on own t i) N c
    · have e : mostH N s (heldO N F on own t i) N = ⟨true, Classical.choose hmx⟩ := by unfold mostH; rw [dif_pos hmx]
      obtain ⟨hc, hm⟩ := Classical.choose_spec hmx
      generalize Classical.choose hmx = c at e hc hm
      have hex : ∃ k, k < N ∧ k ≠ B ∧ hasC (heldO N F on own t i) k s = some c := by
        by_cases hne : ∃ k, k < N ∧ k ≠ B ∧ hasC (heldO N F on own t i) k s = some c
        · exact hne
        · exfalso
          have hcnt : ∀ k, k ≤ N → cntL s (heldO N F on own t i) k c ≤ if B < k then 1 else 0 := fun k => by
            induction k with
            | zero => intro _; simp [cntL]
            | succ k ih =>
              intro hk
              have := ih (by omega)
              rw [cntL]
              by_cases hkB : k = B
              · subst hkB
                rw [if_neg (by omega)] at this
                have h1 : ∀ (P : Prop) (inst : Decidable P), @ite Nat P inst 1 0 ≤ 1 := fun P inst => by split <;> omega
                show _ ≤ if k < k + 1 then 1 else 0
                rw [if_pos (Nat.lt_succ_self k)]
                exact Nat.le_trans (Nat.add_le_add this (h1 _ _)) (by omega)
              · rw [if_neg (fun h => hne ⟨k, by omega, hkB, h.2⟩)]
                split at this <;> split <;> omega
          have := hcnt N (Nat.le_refl _)
          split at this <;> omega
      obtain ⟨k, hk, hkB, hh⟩ := hex
      rcases (claim_rightO h h4 h16 hi hk hs bi (hB k hkB) bs hon).1 with h' | ⟨h1, h2, h3⟩
      · rw [h'] at hh; cases hh
      · rw [h3] at hh
        cases hh
        exact ⟨h1, h2, e⟩
    · have e : mostH N s (heldO N F on own t i) N = hd0 := by unfold mostH; rw [dif_neg hmx]
      rw [e] at hx; cases hx
end
end Go.Proofs.YtdilbjikeilhbaaGreatDoor
namespace Go.Proofs.YtdilbjikeilhbaaGreatDoor
open Go.RowKit
set_option linter.unusedVariables false
set_option linter.unusedSimpArgs false

/-! ### one node -/
structure NdM where
  s : Int
  left : Int
  cold : Int
  ck : List Int
  long : Int
  sure : Bool
  shows : Int
def NdM.new : NdM := ⟨0, 0, 0, [], 0, false, -1⟩
def pwM (boot : Int) (x : NdM) (p : Bool) : Int × Int × Int := if p = true then pwOn boot x.s x.left x.cold else (0, x.left, x.cold)
def coldM (q : Int × Int × Int) : Int := if q.1 = 2 then q.2.2 else -1
def ageM (n : Nat) (boot : Int) (p : Bool) (A : List Hd) (x : NdM) : Int := ownF n (commonF n A) (coldM (pwM boot x p))
def longN (n : Nat) (A : List Hd) (x : NdM) : Int := cqOn x.long (2 * n) (evenF n A (commonF n A))
def ckN (n : Nat) (boot : Int) (p : Bool) (A : List Hd) (x : NdM) : List Int := lastN (2 * n) (x.ck ++ [ageM n boot p A x])
def NdM.step (n : Nat) (boot : Int) (p : Bool) (A : List Hd) (x : NdM) : NdM :=
  if p = true then ⟨(pwM boot x p).1, (pwM boot x p).2.1, (pwM boot x p).2.2, ckN n boot p A x, longN n A x, longN n A x == 2 * n, showF (ckN n boot p A x)⟩
  else ⟨(pwM boot x p).1, (pwM boot x p).2.1, (pwM boot x p).2.2, [], 0, false, -1⟩
theorem NdM.step_s (n : Nat) (boot : Int) (p : Bool) (A : List Hd) (x : NdM) : (x.step n boot p A).s = (pwM boot x p).1 ∧ (x.step n boot p A).left = (pwM boot x p).2.1 ∧ (x.step n boot p A).cold = (pwM boot x p).2.2 := by
  unfold NdM.step; split <;> exact ⟨rfl, rfl, rfl⟩
def setAge (a : Int) (c : List Value) : List Value := .int .i64 a :: c.drop 1
theorem setAge_ok {a : Int} {c : List Value} (hc : okL cellK c = true) (h1 : -1 ≤ a) (h2 : a ≤ 1099511627776) : okL cellK (setAge a c) = true := by
  obtain ⟨C, rfl, hC⟩ := cell_of hc
  obtain ⟨h0, hr⟩ := (cell_ok_parts hC).1 hc
  refine (cell_ok_parts (c := { C with age := a }) hC).2 ⟨?_, hr⟩
  simp [Lit.wf, IntKind.min, IntKind.max, IntKind.signed, IntKind.bits]
  omega
theorem age_nrm {a : Int} {c : List Value} (hc : okL cellK c = true) (h1 : -1 ≤ a) (h2 : a ≤ 1099511627776) : ageL (nrm (setAge a c)) = a := by
  obtain ⟨C, rfl, hC⟩ := cell_of hc
  have : setAge a C.vals = ({ C with age := a } : Cl).vals := rfl
  rw [this, nrm_vals { C with age := a } hC]
  show (if a < 0 ∨ 1099511627776 < a then -1 else a) = a
  split <;> omega
noncomputable def ownN (n : Nat) (boot : Int) (p : Bool) (held : List Rw) (c : List Value) (x : NdM) : Rw :=
  if p = true ∧ (pwM boot x p).1 = 2 then ⟨true, setAge (ageM n boot p (agreeL n held) x) c, tabL held⟩ else rw0

/-! ### the ring and its nodes -/
structure BtM where
  R : RingM
  nd : Nat → NdM
noncomputable def BtM.step (n : Nat) (boot : Nat → Int) (S : BtM) (p : Nat → Bool) (c : Nat → List Value) : BtM :=
  ⟨(S.R.hear p).say fun i => ownN n (boot i) (p i) ((S.R.hear p).held i) (c i) (S.nd i), fun i => (S.nd i).step n (boot i) (p i) (agreeL n ((S.R.hear p).held i))⟩
section
variable (N : Nat) (F : FltM) (boot : Nat → Int) (on : Nat → Nat → Bool) (cell : Nat → Nat → List Value)
noncomputable def btT : Nat → BtM
  | 0 => ⟨RingM.new N F, fun _ => NdM.new⟩
  | t + 1 => (btT t).step N boot (on t) (cell t)
noncomputable def ownT (t i : Nat) : Rw := ownN N (boot i) (on t i) (((btT N F boot on cell t).R.hear (on t)).held i) (cell t i) ((btT N F boot on cell t).nd i)
theorem rgT_bt (t : Nat) : rgT N F on (ownT N F boot on cell) t = (btT N F boot on cell t).R := by
  induction t with
  | zero => rfl
  | succ t ih => rw [rgT_succ, ih]; rfl
noncomputable def ndT (t i : Nat) : NdM := (btT N F boot on cell t).nd i
noncomputable def agT (t i : Nat) : List Hd := agreeL N (heldO N F on (ownT N F boot on cell) t i)
theorem heldO_bt (t i : Nat) : heldO N F on (ownT N F boot on cell) t i = ((btT N F boot on cell t).R.hear (on t)).held i := by
  unfold heldO; rw [rgT_bt]
theorem ndT_succ (t i : Nat) : ndT N F boot on cell (t + 1) i = (ndT N F boot on cell t i).step N (boot i) (on t i) (agT N F boot on cell t i) := by
  unfold agT; rw [heldO_bt]; rfl
noncomputable def pwT (t i : Nat) : Int × Int × Int := pwM (boot i) (ndT N F boot on cell t i) (on t i)
noncomputable def comT (t i : Nat) : Int := commonF N (agT N F boot on cell t i)
noncomputable def ageT (t i : Nat) : Int := ageM N (boot i) (on t i) (agT N F boot on cell t i) (ndT N F boot on cell t i)
noncomputable def sayT (t i : Nat) : Bool := on t i && decide ((pwT N F boot on cell t i).1 = 2)
noncomputable def cT (t i : Nat) : List Value := setAge (ageT N F boot on cell t i) (cell t i)
theorem ageT_eq (t i : Nat) : ageT N F boot on cell t i = ownF N (comT N F boot on cell t i) (coldM (pwT N F boot on cell t i)) := rfl
theorem ageT_range (t i : Nat) : -1 ≤ ageT N F boot on cell t i ∧ ageT N F boot on cell t i ≤ 1099511627776 := ownF_range _ _ _
theorem ownT_eq (t i : Nat) : ownT N F boot on cell t i = if sayT N F boot on cell t i = true then ⟨true, cT N F boot on cell t i, tabL (heldO N F on (ownT N F boot on cell) t i)⟩ else rw0 := by
  unfold cT ageT agT
  rw [heldO_bt]
  unfold ownT ownN sayT pwT ndT
  by_cases h : on t i = true ∧ (pwM (boot i) ((btT N F boot on cell t).nd i) (on t i)).1 = 2
  · rw [if_pos h, if_pos (by simp [h.1]; exact h.1 ▸ h.2)]
  · rw [if_neg h, if_neg (by simpa using h)]
variable {N F boot on cell}
theorem bt_ok (hF : ∀ a ∈ F.acts, a.row.ok) (hc : ∀ t i, okL cellK (cell t i) = true) (t : Nat) : (btT N F boot on cell t).R.okR ∧ ∀ i, (ownT N F boot on cell t i).ok := by
  have own_ok : ∀ t, (btT N F boot on cell t).R.okR → ∀ i, (ownT N F boot on cell t i).ok := fun t h i => by
    rw [ownT_eq]
    split
    · refine ⟨setAge_ok (hc _ _) (ageT_range N F boot on cell t i).1 (ageT_range N F boot on cell t i).2, ?_⟩
      rw [heldO_bt]
      exact tabL_ok (held_okR (RingM.okR_hear h _) i)
    · exact ⟨by kernel_rfl, by simp [rw0]⟩
  induction t with
  | zero => exact ⟨RingM.okR_new N F hF, own_ok 0 (RingM.okR_new N F hF)⟩
  | succ t ih =>
    have h1 : (btT N F boot on cell (t + 1)).R.okR := RingM.okR_say (RingM.okR_hear ih.1 _) ih.2
    exact ⟨h1, own_ok (t + 1) h1⟩
theorem bt_say (hF : ∀ a ∈ F.acts, a.row.ok) (hc : ∀ t i, okL cellK (cell t i) = true) : SayP N F on (ownT N F boot on cell) (cT N F boot on cell) (sayT N F boot on cell) where
  on_ := fun t i h => by unfold sayT at h; simp at h; exact h.1
  own_ := fun t i => ownT_eq N F boot on cell t i
  c := fun t i => setAge_ok (hc _ _) (ageT_range N F boot on cell t i).1 (ageT_range N F boot on cell t i).2
  ok := fun t i => (bt_ok hF hc t).2 i

/-! ### power -/
theorem pw_inv (hb : ∀ i, 0 ≤ boot i) (t i : Nat) : ((ndT N F boot on cell t i).s = 0 ∨ (ndT N F boot on cell t i).s = 1 ∨ (ndT N F boot on cell t i).s = 2) ∧ 0 ≤ (ndT N F boot on cell t i).left ∧ (ndT N F boot on cell t i).left ≤ boot i ∧ 0 ≤ (ndT N F boot on cell t i).cold ∧ (ndT N F boot on cell t i).cold ≤ t ∧ (ndT N F boot on cell t i).cold ≤ 1099511627776 := by
  induction t with
  | zero => exact ⟨.inl rfl, Int.le_refl _, hb i, Int.le_refl _, Int.le_refl _, by show (0 : Int) ≤ _; decide⟩
  | succ t ih =>
    have hbi := hb i
    rw [ndT_succ]
    obtain ⟨e1, e2, e3⟩ := (ndT N F boot on cell t i).step_s N (boot i) (on t i) (agT N F boot on cell t i)
    rw [e1, e2, e3]
    generalize ndT N F boot on cell t i = x at *
    unfold pwM
    cases on t i with
    | false =>
      simp only [Bool.false_eq_true, if_false]
      obtain ⟨-, i1, i2, i3, i4, i5⟩ := ih
      exact ⟨.inl trivial, i1, i2, i3, by push_cast; omega, i5⟩
    | true =>
      simp only [if_true]
      unfold pwOn
      rcases ih with ⟨h | h | h, ih⟩ <;> rw [h] <;> simp only [if_true, if_false, show ¬ (0 : Int) = 2 from by decide, show ¬ (1 : Int) = 2 from by decide, show ¬ (1 : Int) = 0 from by decide] <;> (try split) <;> simp <;> omega
theorem pw_on (hb : ∀ i, 0 ≤ boot i) {i a : Nat} : ∀ k, (∀ t, a ≤ t → t ≤ a + k → on t i = true) → (ndT N F boot on cell (a + k + 1) i).s = 2 ∨ ((ndT N F boot on cell (a + k + 1) i).s = 1 ∧ (ndT N F boot on cell (a + k + 1) i).left ≤ boot i - (k + 1)) := by
  have one : ∀ t (m : Int), on t i = true → ((ndT N F boot on cell t i).s = 2 ∨ ((ndT N F boot on cell t i).s = 1 ∧ (ndT N F boot on cell t i).left ≤ m) ∨ ((ndT N F boot on cell t i).s = 0 ∧ boot i ≤ m)) →
      (ndT N F boot on cell (t + 1) i).s = 2 ∨ ((ndT N F boot on cell (t + 1) i).s = 1 ∧ (ndT N F boot on cell (t + 1) i).left ≤ m - 1) := fun t m ho hx => by
    rw [ndT_succ]
    obtain ⟨e1, e2, e3⟩ := (ndT N F boot on cell t i).step_s N (boot i) (on t i) (agT N F boot on cell t i)
    rw [e1, e2]
    generalize ndT N F boot on cell t i = x at *
    unfold pwM
    rw [if_pos ho]
    unfold pwOn
    rcases hx with h | ⟨h, h2⟩ | ⟨h, h2⟩ <;> rw [h] <;> simp only [if_true, if_false, show ¬ (0 : Int) = 2 from by decide, show ¬ (1 : Int) = 2 from by decide, show ¬ (1 : Int) = 0 from by decide] <;> (try split) <;> simp <;> omega
  intro k
  induction k with
  | zero =>
    intro h
    obtain ⟨h1, h2, h3, -⟩ := pw_inv (N := N) (F := F) (on := on) (cell := cell) hb a i
    have := one a (boot i) (h a (by omega) (by omega)) (by rcases h1 with h1 | h1 | h1; exact .inr (.inr ⟨h1, Int.le_refl _⟩); exact .inr (.inl ⟨h1, h3⟩); exact .inl h1)
    simpa using this
  | succ k ih =>
    intro h
    have := ih fun t h1 h2 => h t h1 (by omega)
    have h2 := one (a + k + 1) (boot i - (k + 1)) (h _ (by omega) (by omega)) (by rcases this with h | h; exact .inl h; exact .inr (.inl h))
    rcases h2 with h2 | ⟨h2, h3⟩
    · exact .inl h2
    · refine .inr ⟨h2, ?_⟩
      have : a + (k + 1) + 1 = a + k + 1 + 1 := by omega
      rw [this]; push_cast; omega
theorem say_on (hb : ∀ i, 0 ≤ boot i) {i a t : Nat} (h : ∀ t', a ≤ t' → t' ≤ t → on t' i = true) (ht : (a : Int) + boot i ≤ t) : sayT N F boot on cell t i = true := by
  have hat : a ≤ t := by have := hb i; omega
  have h1 := pw_on (N := N) (F := F) (cell := cell) hb (i := i) (a := a) (t - a) (fun t' h1 h2 => h t' h1 (by omega))
  rw [show a + (t - a) + 1 = t + 1 from by omega] at h1
  have h2 := (pw_inv (N := N) (F := F) (on := on) (cell := cell) hb (t + 1) i).2.1
  have h3 : (ndT N F boot on cell (t + 1) i).s = 2 := by
    rcases h1 with h1 | ⟨-, h1⟩
    · exact h1
    · omega
  rw [ndT_succ, ((ndT N F boot on cell t i).step_s N (boot i) (on t i) (agT N F boot on cell t i)).1] at h3
  unfold sayT pwT
  rw [h3, h t hat (Nat.le_refl _)]
  rfl

/-! ### a clock's ages, a clique's run -/
theorem ck_len (t i : Nat) : (ndT N F boot on cell t i).ck.length ≤ 2 * N := by
  cases t with
  | zero => exact Nat.zero_le _
  | succ t =>
    rw [ndT_succ]
    unfold NdM.step
    split
    · show (lastN _ _).length ≤ _
      unfold lastN
      rw [List.length_drop]; omega
    · exact Nat.zero_le _
theorem ck_run {i : Nat} : ∀ m t, m ≤ t → m ≤ 2 * N → (∀ d, d < m → on (t - 1 - d) i = true) → ∃ pre, (ndT N F boot on cell t i).ck = pre ++ (List.range m).map fun j => ageT N F boot on cell (t - m + j) i
  | 0, t, _, _, _ => ⟨(ndT N F boot on cell t i).ck, by simp⟩
  | m + 1, 0, h, _, _ => by omega
  | m + 1, t + 1, h, h2, ho => by
    obtain ⟨pre, e⟩ := ck_run m t (by omega) (by omega) (fun d hd => by have := ho (d + 1) (by omega); rwa [show t + 1 - 1 - (d + 1) = t - 1 - d from by omega] at this)
    have hon := ho 0 (by omega)
    rw [show t + 1 - 1 - 0 = t from by omega] at hon
    rw [ndT_succ]
    have e3 : ((ndT N F boot on cell t i).step N (boot i) (on t i) (agT N F boot on cell t i)).ck = lastN (2 * N) ((ndT N F boot on cell t i).ck ++ [ageT N F boot on cell t i]) := by
      unfold NdM.step
      rw [if_pos hon]
      rfl
    rw [e3, e, List.append_assoc]
    have e4 : ((List.range m).map fun j => ageT N F boot on cell (t - m + j) i) ++ [ageT N F boot on cell t i] = (List.range (m + 1)).map fun j => ageT N F boot on cell (t + 1 - (m + 1) + j) i := by
      rw [List.range_succ, List.map_append]
      simp only [List.map_cons, List.map_nil]
      rw [show t + 1 - (m + 1) = t - m from by omega, show t - m + m = t from by omega]
    rw [e4]
    unfold lastN
    refine ⟨pre.drop ((pre ++ (List.range (m + 1)).map fun j => ageT N F boot on cell (t + 1 - (m + 1) + j) i).length - 2 * N), ?_⟩
    rw [List.drop_append_of_le_length]
    simp; omega
theorem ck_full {i t : Nat} (ht : 2 * N ≤ t) (ho : ∀ d, d < 2 * N → on (t - 1 - d) i = true) : (ndT N F boot on cell t i).ck = (List.range (2 * N)).map fun j => ageT N F boot on cell (t - 2 * N + j) i := by
  obtain ⟨pre, e⟩ := ck_run (N := N) (F := F) (boot := boot) (on := on) (cell := cell) (i := i) (2 * N) t ht (Nat.le_refl _) ho
  have := ck_len (N := N) (F := F) (boot := boot) (on := on) (cell := cell) t i
  rw [e] at this ⊢
  simp at this
  have hp : pre = [] := List.eq_nil_of_length_eq_zero (by omega)
  rw [hp]; rfl
theorem long_ge0 (t i : Nat) : 0 ≤ (ndT N F boot on cell t i).long := by
  induction t with
  | zero => exact Int.le_refl _
  | succ t ih =>
    rw [ndT_succ]
    unfold NdM.step
    split
    · simp only [longN, cqOn]; split <;> omega
    · exact Int.le_refl _
theorem long_le (t i : Nat) : (ndT N F boot on cell t i).long ≤ 2 * N := by
  cases t with
  | zero => show (0 : Int) ≤ _; omega
  | succ t =>
    rw [ndT_succ]
    unfold NdM.step
    split
    · simp only [longN, cqOn]; split <;> omega
    · simp only; omega
theorem sure_iff (t i : Nat) : (ndT N F boot on cell (t + 1) i).sure = true ↔ on t i = true ∧ (ndT N F boot on cell (t + 1) i).long = 2 * N := by
  rw [ndT_succ]
  unfold NdM.step
  by_cases h : on t i = true
  · rw [if_pos h]; simp [h]
  · rw [if_neg h]; simp [h]
theorem shows_on {t i : Nat} (h : on t i = true) : (ndT N F boot on cell (t + 1) i).shows = showF (ndT N F boot on cell (t + 1) i).ck := by
  rw [ndT_succ]
  unfold NdM.step
  rw [if_pos h]
end
end Go.Proofs.YtdilbjikeilhbaaGreatDoor
