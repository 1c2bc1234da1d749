/-
  What is certified of a source: the same, asked only of the ticks since it was said. Plain. A ring whose nodes say what they hold, now and then: what they agree on. No program in sight. The middle of a list of integers, by sorting and by counting. Plain lemmas, no program in sight. What a vector's common age is; the laws that it obeys. No program in sight. ages: small functions; ages are added, one behind the other. A slice with whatever room behind it: one value more is appended. Over any program.
-/
import Derived.Test.YtbdklfcgcmdgaaaGb04
import Derived.Test.YtbdklfcgcmdgaaaGb37
import Derived.Test.YtbdklfcgcmdgaaaGb01
import Derived.Test.YtbdklfcgcmdgaaaGb02
import Derived.Test.YtbdklfcgcmdgaaaGb05
import Derived.WalkSpells
import Derived.WalkLawsBesides
import Derived.Outline
import Derived.Deep.QuietTactic
import Derived.BigQuiet
import Derived.Deep.Light
import Derived.Deep.RegionLaw
import Derived.Deep.RegionHeld3
import Derived.ArgAppend
namespace Go.Proofs.Ytbdklfcgcmdgaaa
open Go.RowKit
set_option linter.unusedVariables false
set_option linter.unusedSimpArgs false

section
variable (N : Nat) (F : FltM) (on : Nat → Nat → Bool) (own : Nat → Nat → Rw)
/-- nothing (and somebody is off, since a tick), or the truth -/
def OkL (lo : Nat) (x v : Rw) : Prop := x = v ∨ (x = rw0 ∧ ∃ t i, lo ≤ t ∧ i < N ∧ on t i = false)
theorem row_goodL {t y k s lo : Nat} {v : Rw} (hlo : lo ≤ t) (hy : y < N) (hs : s < N) (ho : oddL N F y k = false) (hv : v.plain N = v) (h : on t y = true → OkL N on lo (trk N F on own t y (if k < 2 then 0 else 2) s) v) : OkL N on lo (inRow N (sentT N F on own t y k) s) v := by
  rw [sentT_good N F on own ho]
  by_cases hon : on t y = true
  · rw [if_pos hon]
    have e : inRow N (tab N (trk N F on own t y (if k < 2 then 0 else 2))) s = (trk N F on own t y (if k < 2 then 0 else 2) s).plain N := by
      unfold inRow; rw [tab_at hs]
    rw [e]
    rcases h hon with h | ⟨h, h2⟩
    · left; rw [h, hv]
    · right; rw [h]; exact ⟨rw0_plain _, h2⟩
  · rw [if_neg hon]
    exact .inr ⟨rfl, t, y, hlo, hy, by simpa using hon⟩
/-- along one way's track -/
theorem path_trackL {way s τ : Nat} (hw : way < 2) (h4 : 4 ≤ N) (hs : s < N) {v : Rw} (hv : v = (own τ s).plain N) (hvp : v.plain N = v) : ∀ e, e < N →
    (∀ e', e' < e → (e - e') % 2 = 0 → oddL N F (nodeAt N way s e') (2 * way + 1) = false) → (e % 2 = 1 → oddL N F (nodeAt N way s 0) (2 * way) = false) →
    OkL N on τ (trk N F on own (τ + e) (nodeAt N way s e) (2 * way) s) v
  | 0, he, _, _ => by
    have hx : nodeAt N way s 0 = s := by unfold nodeAt; split <;> simp [Nat.mod_eq_of_lt hs]
    left
    unfold trk
    rw [hx, if_pos ⟨by omega, rfl⟩, hv]; rfl
  | 1, he, _, h1 => by
    have hd := dist_node (way := way) hs he
    have hne : s ≠ nodeAt N way s 1 := fun e => by
      rw [← e] at hd
      have : distM N s way s = 0 := by unfold distM; split <;> simp
      omega
    have h0 : nodeAt N way s 0 = s := by unfold nodeAt; split <;> simp [Nat.mod_eq_of_lt hs]
    unfold trk
    rw [if_neg (fun h => hne h.2)]
    unfold momM sideM
    rw [show 2 * way / 2 = way from by omega, hd, if_neg (by decide), if_pos rfl, show 2 * way % 2 = 0 from by omega, if_pos rfl]
    have hi := insT_eq N F on own (t := τ + 1) (x := nodeAt N way s 1) (p := 0) hw (by omega) (by omega)
    rw [show 2 * way + 0 = 2 * way from rfl] at hi
    rw [hi, prev_node hs he (by omega) (by omega) h4]
    refine row_goodL N F on own (lo := τ) (by omega) (nodeAt_lt (by omega)) hs (h1 rfl) hvp fun _ => ?_
    rw [show 1 - (0 + 1) = 0 from rfl, h0]
    left
    unfold trk
    have hq : (if 2 * way < 2 then 0 else 2) % 2 = 0 := by split <;> rfl
    rw [if_pos ⟨hq, rfl⟩, hv]
    rfl
  | e + 2, he, hf, h1 => by
    have ih := path_trackL hw h4 hs hv hvp e (by omega) (fun e' h h' => hf e' (by omega) (by omega)) (fun h => h1 (by omega))
    have hd := dist_node (way := way) hs he
    have hne : s ≠ nodeAt N way s (e + 2) := fun e' => by
      rw [← e'] at hd
      have : distM N s way s = 0 := by unfold distM; split <;> simp
      omega
    unfold trk
    rw [if_neg (fun h => hne h.2)]
    unfold momM sideM
    rw [show 2 * way / 2 = way from by omega, hd, if_neg (by omega), if_neg (by omega), show 2 * way % 2 = 0 from by omega, if_pos rfl]
    have hi := insT_eq N F on own (t := τ + (e + 2)) (x := nodeAt N way s (e + 2)) (p := 1) hw (by omega) (by omega)
    rw [hi, prev_node hs he (by omega) (by omega) h4, show e + 2 - (1 + 1) = e from by omega, show τ + (e + 2) - (1 + 1) = τ + e from by omega]
    refine row_goodL N F on own (lo := τ) (by omega) (nodeAt_lt (by omega)) hs (hf e (by omega) (by omega)) hvp fun _ => ?_
    have hq : (if 2 * way + 1 < 2 then 0 else 2) = 2 * way := by
      have : way = 0 ∨ way = 1 := by omega
      rcases this with rfl | rfl <;> rfl
    rw [hq]
    exact ih
/-- the near copy -/
theorem path_nearL {way s τ d : Nat} (hw : way < 2) (h4 : 4 ≤ N) (hs : s < N) {v : Rw} (hv : v = (own τ s).plain N) (hvp : v.plain N = v) (hd2 : 2 ≤ d) (hd : d < N) (hn : oddL N F (nodeAt N way s (d - 1)) (2 * way) = false)
    (hf : ∀ e', e' < d - 1 → (d - 1 - e') % 2 = 0 → oddL N F (nodeAt N way s e') (2 * way + 1) = false) (h1 : (d - 1) % 2 = 1 → oddL N F (nodeAt N way s 0) (2 * way) = false) :
    OkL N on τ (trk N F on own (τ + d) (nodeAt N way s d) (2 * way + 1) s) v := by
  have ih := path_trackL N F on own hw h4 hs hv hvp (d - 1) (by omega) hf h1
  have hdd := dist_node (way := way) hs hd
  unfold trk
  rw [if_neg (fun h => by omega)]
  unfold momM sideM
  rw [show (2 * way + 1) / 2 = way from by omega, hdd, if_neg (by omega), if_neg (by omega), show (2 * way + 1) % 2 = 1 from by omega, if_neg (by decide)]
  have hi := insT_eq N F on own (t := τ + d) (x := nodeAt N way s d) (p := 0) hw (by omega) (by omega)
  rw [show 2 * way + 0 = 2 * way from rfl] at hi
  rw [hi, prev_node hs hd (by omega) (by omega) h4, show τ + d - (0 + 1) = τ + (d - 1) from by omega]
  refine row_goodL N F on own (lo := τ) (by omega) (nodeAt_lt (by omega)) hs hn hvp fun _ => ?_
  have hq : (if 2 * way < 2 then 0 else 2) = 2 * way := by
    have : way = 0 ∨ way = 1 := by omega
    rcases this with rfl | rfl <;> rfl
  rw [hq]
  exact ih
theorem copy_tL {way s τ i : Nat} (hw : way < 2) (h4 : 4 ≤ N) (hs : s < N) (hi : i < N) {v : Rw} (hv : v = (own τ s).plain N) (hvp : v.plain N = v) (hP : ¬ PT F (distM N (F.at_ % N) way s) (distM N i way s) way) :
    OkL N on τ (trk N F on own (τ + distM N i way s) i (2 * way) s) v := by
  have hd : distM N i way s < N := by unfold distM; split <;> exact Nat.mod_lt _ (by omega)
  have := path_trackL N F on own (way := way) (τ := τ) hw h4 hs hv hvp (distM N i way s) hd (fun e' h1 h2 => by
    rw [Bool.eq_false_iff]
    intro ho
    obtain ⟨o1, o2⟩ := oddL_true N F ho
    have hde := dist_node (N := N) (way := way) (s := s) (e := e') hs (by omega)
    rw [← o1] at hde
    exact hP (.inl ⟨by omega, by rw [hde]; exact h2, o2⟩)) (fun h1 => by
    rw [Bool.eq_false_iff]
    intro ho
    obtain ⟨o1, o2⟩ := oddL_true N F ho
    have hde := dist_node (N := N) (way := way) (s := s) (e := 0) hs (by omega)
    rw [← o1] at hde
    exact hP (.inr ⟨h1, hde, o2⟩))
  rwa [node_dist hs hi] at this
theorem copy_nL {way s τ i : Nat} (hw : way < 2) (h4 : 4 ≤ N) (hs : s < N) (hi : i < N) {v : Rw} (hv : v = (own τ s).plain N) (hvp : v.plain N = v) (hP : ¬ PN F (distM N (F.at_ % N) way s) (distM N i way s) way) :
    (2 ≤ distM N i way s → OkL N on τ (trk N F on own (τ + distM N i way s) i (2 * way + 1) s) v) ∧ (distM N i way s < 2 → trk N F on own (τ + distM N i way s) i (2 * way + 1) s = rw0) := by
  have hd : distM N i way s < N := by unfold distM; split <;> exact Nat.mod_lt _ (by omega)
  refine ⟨fun h2 => ?_, fun h2 => ?_⟩
  · have := path_nearL N F on own (way := way) (τ := τ) hw h4 hs hv hvp h2 hd (by
      rw [Bool.eq_false_iff]
      intro ho
      obtain ⟨o1, o2⟩ := oddL_true N F ho
      have hde := dist_node (N := N) (way := way) (s := s) (e := distM N i way s - 1) hs (by omega)
      rw [← o1] at hde
      exact hP ⟨h2, .inl ⟨hde, o2⟩⟩) (fun e' h1 h3 => by
      rw [Bool.eq_false_iff]
      intro ho
      obtain ⟨o1, o2⟩ := oddL_true N F ho
      have hde := dist_node (N := N) (way := way) (s := s) (e := e') hs (by omega)
      rw [← o1] at hde
      exact hP ⟨h2, .inr (.inl ⟨by omega, by rw [hde]; exact h3, o2⟩)⟩) (fun h1 => by
      rw [Bool.eq_false_iff]
      intro ho
      obtain ⟨o1, o2⟩ := oddL_true N F ho
      have hde := dist_node (N := N) (way := way) (s := s) (e := 0) hs (by omega)
      rw [← o1] at hde
      exact hP ⟨h2, .inr (.inr ⟨h1, hde, o2⟩)⟩)
    rwa [node_dist hs hi] at this
  · have := near_none N F on own (way := way) (s := s) (τ := τ) (d := distM N i way s) hw hs h4 hd (by omega)
    rwa [node_dist hs hi] at this
/-- what a node certifies of another one, N ticks later: neither is the faulty one -/
theorem cert_truthL {s i t : Nat} (h4 : 4 ≤ N) (hs : s < N) (hi : i < N) (hne : s ≠ i) (bs : F.at_ % N = s → F.link = true) (bi : F.at_ % N = i → F.link = true) (ht : N ≤ t) (ho : (own (t - N) s).ok) :
    OkL N on (t - N) (ofM N i s (fun ago => trk N F on own (t - ago) i)) ((own (t - N) s).plain N) := by
  obtain ⟨e1, e2, e3⟩ := dist_sum hs hi hne
  have hvp : ((own (t - N) s).plain N).plain N = (own (t - N) s).plain N := Rw.plain_twice ho
  unfold ofM
  rw [if_neg hne]
  dsimp only
  have q0 : t - (N - distM N i 0 s) = t - N + distM N i 0 s := by omega
  have q1 : t - (N - distM N i 1 s) = t - N + distM N i 1 s := by omega
  rw [q0, q1]
  refine cert_four (d0 := distM N i 0 s) (d1 := distM N i 1 s) (B := fun j => if j = 0 then PT F (distM N (F.at_ % N) 0 s) (distM N i 0 s) 0 else if j = 1 then PN F (distM N (F.at_ % N) 0 s) (distM N i 0 s) 0 else if j = 2 then PT F (distM N (F.at_ % N) 1 s) (distM N i 1 s) 1 else PN F (distM N (F.at_ % N) 1 s) (distM N i 1 s) 1)
    (one_bad N F h4 hs hi hne bs bi) plain_no ?_ ?_ ?_ ?_ (by omega)
  · intro h; exact copy_tL N F on own (way := 0) (by omega) h4 hs hi rfl hvp h
  · intro h; exact copy_nL N F on own (way := 0) (by omega) h4 hs hi rfl hvp h
  · intro h; exact copy_tL N F on own (way := 1) (by omega) h4 hs hi rfl hvp h
  · intro h; exact copy_nL N F on own (way := 1) (by omega) h4 hs hi rfl hvp h
theorem runs_ge {lo i : Nat} (h : ∀ t, lo ≤ t → on t i = true) : ∀ t, lo ≤ t → t - lo + 1 ≤ runs on t i := fun t => by
  induction t with
  | zero =>
    intro hl
    have := h 0 hl
    unfold runs
    rw [if_pos this]
    omega
  | succ t ih =>
    intro hl
    rw [runs, if_pos (h _ hl)]
    by_cases hlt : lo ≤ t
    · have := ih hlt; omega
    · omega
/-- what a node that is on holds of a source: neither is the faulty one; with all on, since a tick -/
theorem held_truthL {s i t : Nat} (h4 : 4 ≤ N) (hs : s < N) (hi : i < N) (bs : F.at_ % N = s → F.link = true) (bi : F.at_ % N = i → F.link = true) (ho : ∀ t s, (own t s).ok) (hon : on t i = true) :
    ∃ r, (((rgT N F on own t).hear (on t)).held i)[s]? = some r ∧ (∀ lo, lo + N ≤ t → (∀ t i, i < N → lo ≤ t → on t i = true) → r = (own (t - N) s).plain N) ∧ (r.is = true → N ≤ t ∧ r = (own (t - N) s).plain N) := by
  refine ⟨_, by rw [held_all N F on own t i hon hi]; exact tab_at hs, ?_⟩
  have hrl := runs_le on t i
  by_cases hc : N < runs on t i
  · rw [if_pos hc]
    have ht : N ≤ t := by omega
    have key : OkL N on (t - N) (ofM N i s (fun ago => trk N F on own (t - ago) i)) ((own (t - N) s).plain N) := by
      by_cases hne : s = i
      · subst hne
        left
        unfold ofM
        rw [if_pos rfl]
        show trk N F on own (t - N) s 0 s = _
        unfold trk
        rw [if_pos ⟨rfl, rfl⟩]
      · exact cert_truthL N F on own h4 hs hi hne bs bi ht (ho _ _)
    refine ⟨fun lo hlo hall => ?_, fun his => ⟨ht, ?_⟩⟩
    · rcases key with h | ⟨-, t', i', h0, h1, h2⟩
      · exact h
      · rw [hall t' i' h1 (by omega)] at h2; cases h2
    · rcases key with h | ⟨h, -⟩
      · exact h
      · rw [h] at his; cases his
  · rw [if_neg hc]
    refine ⟨fun lo hlo hall => ?_, fun his => by cases his⟩
    have := runs_ge on (lo := lo) (i := i) (fun t ht => hall t i hi ht) t (by omega)
    omega
end
end Go.Proofs.Ytbdklfcgcmdgaaa
namespace Go.Proofs.Ytbdklfcgcmdgaaa
open Go.RowKit
set_option linter.unusedVariables false
set_option linter.unusedSimpArgs false

section
variable (N : Nat) (F : FltM) (on : Nat → Nat → Bool) (own : Nat → Nat → Rw) (C : Nat → Nat → List Value) (sy : Nat → Nat → Bool)
/-- the list that a node holds -/
noncomputable def heldO (t i : Nat) : List Rw := ((rgT N F on own t).hear (on t)).held i
/-- what is said is what is held, or nothing -/
structure SayP : Prop where
  on_ : ∀ t i, sy t i = true → on t i = true
  own_ : ∀ t i, own t i = if sy t i = true then ⟨true, C t i, tabL (heldO N F on own t i)⟩ else rw0
  c : ∀ t i, okL cellK (C t i) = true
  ok : ∀ t i, (own t i).ok
theorem heldO_len {t i : Nat} (h : on t i = true) (hi : i < N) : (heldO N F on own t i).length = N := by
  unfold heldO
  rw [held_all N F on own t i h hi, tab_len]
variable {N F on own C sy} (h : SayP N F on own C sy)
include h
theorem heldO_at (h4 : 4 ≤ N) {t i s : Nat} (hs : s < N) (hi : i < N) (bs : ¬ Bd N F s) (bi : ¬ Bd N F i) (hon : on t i = true) :
    ∃ r, (heldO N F on own t i)[s]? = some r ∧ (∀ lo, lo + N ≤ t → (∀ t i, i < N → lo ≤ t → on t i = true) → r = (own (t - N) s).plain N) ∧ (r.is = true → N ≤ t ∧ r = (own (t - N) s).plain N) :=
  held_truthL N F on own h4 hs hi (bd_of N F bs) (bd_of N F bi) h.ok hon
theorem own_plainO (h16 : N ≤ 16) {t k : Nat} (hs : sy t k = true) : (own t k).plain N = ⟨true, nrm (C t k), fillH N (tabL (heldO N F on own t k))⟩ := by
  rw [h.own_, if_pos hs]
  unfold Rw.plain
  rw [if_pos (by simp [mayN]; omega)]
  rfl
theorem claim_rightO (h4 : 4 ≤ N) (h16 : N ≤ 16) {t i k s : Nat} (hi : i < N) (hk : k < N) (hs : s < N) (bi : ¬ Bd N F i) (bk : ¬ Bd N F k) (bs : ¬ Bd N F s) (hon : on t i = true) :
    (hasC (heldO N F on own t i) k s = none ∨ (2 * N ≤ t ∧ sy (t - 2 * N) s = true ∧ hasC (heldO N F on own t i) k s = some (nrm (C (t - 2 * N) s)))) ∧
    (∀ lo, lo + 2 * N ≤ t → (∀ t i, i < N → lo ≤ t → on t i = true) → sy (t - N) k = true → sy (t - 2 * N) s = true → hasC (heldO N F on own t i) k s = some (nrm (C (t - 2 * N) s))) := by
  obtain ⟨r, hr, hall, his⟩ := heldO_at h h4 hk hi bk bi hon
  have hasE : ∀ {x : Rw}, r = x → hasC (heldO N F on own t i) k s = if x.is then (match x.t[s]? with | some h => if h.is then some h.c else none | none => none) else none := fun {x} e => by
    unfold hasC; rw [hr, e]; rfl
  have key : N ≤ t → sy (t - N) k = true → r = (own (t - N) k).plain N →
      (hasC (heldO N F on own t i) k s = none ∨ (2 * N ≤ t ∧ sy (t - 2 * N) s = true ∧ hasC (heldO N F on own t i) k s = some (nrm (C (t - 2 * N) s)))) ∧
      (∀ lo, lo + 2 * N ≤ t → (∀ t i, i < N → lo ≤ t → on t i = true) → sy (t - N) k = true → sy (t - 2 * N) s = true → hasC (heldO N F on own t i) k s = some (nrm (C (t - 2 * N) s))) := fun ht hok he => by
    obtain ⟨q, hq, qall, qis⟩ := heldO_at h h4 hs hk bs bk (h.on_ _ _ hok)
    have hE := hasE (he.trans (own_plainO h h16 hok))
    have hfi : (fillH N (tabL (heldO N F on own (t - N) k)))[s]? = some (Hd.nrm ⟨q.is, q.c⟩) := by
      rw [fillH_at N _ s hs, tabL_at hq]
    simp only [hfi, if_true] at hE
    have e2 : t - N - N = t - 2 * N := by omega
    by_cases hqi : q.is = true
    · obtain ⟨h1, h2⟩ := qis hqi
      have hon2 : sy (t - N - N) s = true := by
        by_cases ho : sy (t - N - N) s = true
        · exact ho
        · rw [h.own_, if_neg ho, rw0_plain] at h2
          rw [h2] at hqi; cases hqi
      have hqc : q.c = nrm (C (t - 2 * N) s) := by rw [h2, own_plainO h h16 hon2, e2]
      have hv : hasC (heldO N F on own t i) k s = some (nrm (C (t - 2 * N) s)) := by
        rw [hE]
        unfold Hd.nrm
        simp only [hqi, if_true]
        rw [hqc, nrm_twice (h.c _ _)]
      exact ⟨.inr ⟨by omega, by rw [← e2]; exact hon2, hv⟩, fun _ _ _ _ _ => hv⟩
    · have hn : hasC (heldO N F on own t i) k s = none := by
        rw [hE]
        have hf : q.is = false := by simpa using hqi
        unfold Hd.nrm
        rw [hf]; rfl
      refine ⟨.inl hn, fun lo hlo hon' hk' hs' => ?_⟩
      have := qall lo (by omega) hon'
      rw [this, own_plainO h h16 (by rw [e2]; exact hs')] at hqi
      exact absurd rfl hqi
  by_cases hri : r.is = true
  · obtain ⟨h1, h2⟩ := his hri
    have hok : sy (t - N) k = true := by
      by_cases ho : sy (t - N) k = true
      · exact ho
      · rw [h.own_, if_neg ho, rw0_plain] at h2
        rw [h2] at hri; cases hri
    exact key h1 hok h2
  · have hf : r.is = false := by simpa using hri
    refine ⟨.inl ?_, fun lo hlo hon' hk' hs' => ?_⟩
    · rw [hasE rfl, hf]; rfl
    · exact (key (by omega) hk' (hall lo (by omega) hon')).2 lo hlo hon' hk' hs'
/-- what is agreed of a right node -/
theorem agree_rightO (h4 : 4 ≤ N) (h16 : N ≤ 16) {t i s : Nat} (hi : i < N) (hs : s < N) (bi : ¬ Bd N F i) (bs : ¬ Bd N F s) (hon : on t i = true) :
    ∃ x, (agreeL N (heldO N F on own t i))[s]? = some x ∧ (∀ lo, lo + 2 * N ≤ t → (∀ t i, i < N → lo ≤ t → on t i = true) → (∀ t k, k < N → ¬ Bd N F k → lo ≤ t → sy t k = true) → x = ⟨true, nrm (C (t - 2 * N) s)⟩) ∧ (x.is = true → 2 * N ≤ t ∧ sy (t - 2 * N) s = true ∧ x = ⟨true, nrm (C (t - 2 * N) s)⟩) := by
  have hl := heldO_len N F on own hon hi
  have hB : ∃ B, (∀ k, k ≠ B → ¬ Bd N F k) := ⟨F.at_ % N, fun k hk h => hk h.1.symm⟩
  obtain ⟨B, hB⟩ := hB
  refine ⟨mostH N s (heldO N F on own t i) N, ?_, ?_, ?_⟩
  · unfold agreeL
    rw [if_pos (by omega), List.getElem?_map, hl]
    simp only [Int.toNat_natCast, Nat.min_self]
    rw [List.getElem?_range hs]
    rfl
  · intro lo hlo hall hsy
    refine (MostP.eq (n := N) hs (Nat.le_refl _) (.inl ⟨_, rfl, nrm_ok (h.c _ _), ?_⟩)).symm
    have := cnt_lo (N := N) (B := B) (s := s) (L := heldO N F on own t i) (c := nrm (C (t - 2 * N) s)) (fun k hk hkB => (claim_rightO h h4 h16 hi hk hs bi (hB k hkB) bs hon).2 lo hlo hall (hsy _ _ hk (hB k hkB) (by omega)) (hsy _ _ hs bs (by omega))) N (Nat.le_refl _)
    rw [if_pos hs] at this
    split at this <;> omega
  · intro hx
    by_cases hmx : ∃ c, okL cellK c = true ∧ N - 1 < 2 * cntL s (heldO N F on own t i) N c
    · have e : mostH N s (heldO N F on own t i) N = ⟨true, Classical.choose hmx⟩ := by unfold mostH; rw [dif_pos hmx]
      obtain ⟨hc, hm⟩ := Classical.choose_spec hmx
      generalize Classical.choose hmx = c at e hc hm
      have hex : ∃ k, k < N ∧ k ≠ B ∧ hasC (heldO N F on own t i) k s = some c := by
        by_cases hne : ∃ k, k < N ∧ k ≠ B ∧ hasC (heldO N F on own t i) k s = some c
        · exact hne
        · exfalso
          have hcnt : ∀ k, k ≤ N → cntL s (heldO N F on own t i) k c ≤ if B < k then 1 else 0 := fun k => by
            induction k with
            | zero => intro _; simp [cntL]
            | succ k ih =>
              intro hk
              have := ih (by omega)
              rw [cntL]
              by_cases hkB : k = B
              · subst hkB
                rw [if_neg (by omega)] at this
                have h1 : ∀ (P : Prop) (inst : Decidable P), @ite Nat P inst 1 0 ≤ 1 := fun P inst => by split <;> omega
                show _ ≤ if k < k + 1 then 1 else 0
                rw [if_pos (Nat.lt_succ_self k)]
                exact Nat.le_trans (Nat.add_le_add this (h1 _ _)) (by omega)
              · rw [if_neg (fun h => hne ⟨k, by omega, hkB, h.2⟩)]
                split at this <;> split <;> omega
          have := hcnt N (Nat.le_refl _)
          split at this <;> omega
      obtain ⟨k, hk, hkB, hh⟩ := hex
      rcases (claim_rightO h h4 h16 hi hk hs bi (hB k hkB) bs hon).1 with h' | ⟨h1, h2, h3⟩
      · rw [h'] at hh; cases hh
      · rw [h3] at hh
        cases hh
        exact ⟨h1, h2, e⟩
    · have e : mostH N s (heldO N F on own t i) N = hd0 := by unfold mostH; rw [dif_neg hmx]
      rw [e] at hx; cases hx
/-- all right ones agree on one vector -/
theorem agree_sameO (h4 : 4 ≤ N) (h16 : N ≤ 16) {lo : Nat} (hall : ∀ t i, i < N → lo ≤ t → on t i = true) (hsy : ∀ t k, k < N → ¬ Bd N F k → lo ≤ t → sy t k = true) {t i j : Nat} (ht : lo + 2 * N ≤ t) (hi : i < N) (hj : j < N) (bi : ¬ Bd N F i) (bj : ¬ Bd N F j) :
    agreeL N (heldO N F on own t i) = agreeL N (heldO N F on own t j) := by
  have oi := hall t i hi (by omega)
  have oj := hall t j hj (by omega)
  have hli := heldO_len N F on own oi hi
  have hlj := heldO_len N F on own oj hj
  apply List.ext_getElem?
  intro s
  by_cases hs : s < N
  · by_cases bs : Bd N F s
    · unfold agreeL
      rw [if_pos (by omega), if_pos (by omega), List.getElem?_map, List.getElem?_map, hli, hlj]
      simp only [Int.toNat_natCast, Nat.min_self]
      rw [List.getElem?_range hs]
      show some (mostH N s (heldO N F on own t i) N) = some (mostH N s (heldO N F on own t j) N)
      rw [mostF_eq, mostF_eq]
      congr 2
      funext c
      refine cnt_eq (B := s) c (fun k hk hks => ?_) N (Nat.le_refl _)
      have bk : ¬ Bd N F k := fun h => hks (h.1.symm.trans bs.1)
      obtain ⟨r, hr, h1, -⟩ := heldO_at h h4 hk hi bk bi oi
      obtain ⟨r', hr', h1', -⟩ := heldO_at h h4 hk hj bk bj oj
      have e := (h1 lo (by omega) hall).trans (h1' lo (by omega) hall).symm
      unfold hasC
      rw [hr, hr', e]
    · obtain ⟨x, hx, h1, -⟩ := agree_rightO h h4 h16 hi hs bi bs oi
      obtain ⟨y, hy, h2, -⟩ := agree_rightO h h4 h16 hj hs bj bs oj
      rw [hx, hy, h1 lo ht hall hsy, h2 lo ht hall hsy]
  · have hl : ∀ l : List Rw, (agreeL N l)[s]? = none := fun l => by
      refine List.getElem?_eq_none ?_
      unfold agreeL
      split
      · simp; omega
      · simp
    rw [hl, hl]
end
end Go.Proofs.Ytbdklfcgcmdgaaa
namespace Go.Proofs.Ytbdklfcgcmdgaaa
set_option linter.unusedVariables false
set_option linter.unusedSimpArgs false

def srt (l : List Int) : List Int := l.mergeSort fun x y => decide (x ≤ y)
theorem srt_perm (l : List Int) : (srt l).Perm l := List.mergeSort_perm _ _
theorem srt_len (l : List Int) : (srt l).length = l.length := (srt_perm l).length_eq
theorem srt_sorted (l : List Int) : (srt l).Pairwise (· ≤ ·) := by
  have := List.pairwise_mergeSort (le := fun x y : Int => decide (x ≤ y)) (fun a b c h1 h2 => by simp at *; omega) (fun a b => by simp; omega) l
  exact this.imp fun h => by simpa using h
def medI (l : List Int) : Int := (srt l).getD ((l.length - 1) / 2) 0
def lessN (l : List Int) (x : Int) : Nat := l.countP fun y => decide (y < x)
def mostN (l : List Int) (x : Int) : Nat := l.countP fun y => decide (y ≤ x)
theorem lessN_perm {l l' : List Int} (h : l.Perm l') (x : Int) : lessN l x = lessN l' x := h.countP_eq _
theorem mostN_perm {l l' : List Int} (h : l.Perm l') (x : Int) : mostN l x = mostN l' x := h.countP_eq _
theorem mostN_eq (l : List Int) (x : Int) : mostN l x = lessN l x + l.countP fun y => decide (y = x) := by
  unfold mostN lessN
  induction l with
  | nil => rfl
  | cons y l ih =>
    simp only [List.countP_cons, ih]
    by_cases h1 : y < x
    · have h2 : y ≤ x := by omega
      have h3 : ¬ y = x := by omega
      simp [h1, h2, h3]; omega
    · by_cases h3 : y = x
      · have h2 : y ≤ x := by omega
        simp [h1, h2, h3]; omega
      · have h2 : ¬ y ≤ x := by omega
        simp [h1, h2, h3]
theorem mostN_le_lessN (l : List Int) {x y : Int} (h : x < y) : mostN l x ≤ lessN l y := by
  unfold mostN lessN
  exact List.countP_mono_left fun z _ hz => by simp at *; omega
theorem sorted_at {s : List Int} (hs : s.Pairwise (· ≤ ·)) {i : Nat} {m : Int} (hi : s[i]? = some m) : lessN s m ≤ i ∧ i < mostN s m := by
  obtain ⟨hlt, he⟩ := List.getElem?_eq_some_iff.1 hi
  rw [List.pairwise_iff_getElem] at hs
  constructor
  · unfold lessN
    rw [← List.take_append_drop i s, List.countP_append]
    have h0 : (s.drop i).countP (fun y => decide (y < m)) = 0 := by
      rw [List.countP_eq_zero]
      intro a ha
      obtain ⟨j, hj, rfl⟩ := List.getElem_of_mem ha
      rw [List.getElem_drop]
      simp only [decide_eq_true_eq, Int.not_lt]
      rw [← he]
      by_cases h : j = 0
      · subst h; exact Int.le_refl _
      · exact hs i (i + j) hlt (by rw [List.length_drop] at hj; omega) (by omega)
    rw [h0]
    have := List.countP_le_length (p := fun y => decide (y < m)) (l := s.take i)
    rw [List.length_take] at this
    omega
  · unfold mostN
    have h1 : (s.take (i + 1)).countP (fun y => decide (y ≤ m)) = (s.take (i + 1)).length := by
      rw [List.countP_eq_length]
      intro a ha
      obtain ⟨j, hj, rfl⟩ := List.getElem_of_mem ha
      rw [List.getElem_take]
      rw [List.length_take] at hj
      simp only [decide_eq_true_eq]
      rw [← he]
      by_cases h : j = i
      · subst h; exact Int.le_refl _
      · exact hs j i (by omega) hlt (by omega)
    have h2 : (s.take (i + 1)).countP (fun y => decide (y ≤ m)) ≤ s.countP (fun y => decide (y ≤ m)) := (List.take_sublist _ _).countP_le
    rw [h1, List.length_take] at h2
    omega
theorem medI_at {l : List Int} (h : 0 < l.length) : (srt l)[(l.length - 1) / 2]? = some (medI l) := by
  have hl := srt_len l
  unfold medI
  rw [List.getD_eq_getElem?_getD, List.getElem?_eq_getElem (by omega)]
  rfl
theorem medI_mem {l : List Int} (h : 0 < l.length) : medI l ∈ l := (srt_perm l).mem_iff.1 (List.mem_of_getElem? (medI_at h))
theorem medI_spec {l : List Int} (h : 0 < l.length) : lessN l (medI l) ≤ (l.length - 1) / 2 ∧ (l.length - 1) / 2 < mostN l (medI l) := by
  have := sorted_at (srt_sorted l) (medI_at h)
  rwa [lessN_perm (srt_perm l), mostN_perm (srt_perm l)] at this
theorem medI_unique {l : List Int} (h : 0 < l.length) {x : Int} (h1 : lessN l x ≤ (l.length - 1) / 2) (h2 : (l.length - 1) / 2 < mostN l x) : x = medI l := by
  obtain ⟨h3, h4⟩ := medI_spec h
  rcases Int.lt_trichotomy x (medI l) with hlt | he | hgt
  · have := mostN_le_lessN l hlt; omega
  · exact he
  · have := mostN_le_lessN l hgt; omega
theorem medI_perm {l l' : List Int} (h : l.Perm l') : medI l = medI l' := by
  by_cases h0 : 0 < l.length
  · have hl := h.length_eq
    obtain ⟨h1, h2⟩ := medI_spec h0
    exact medI_unique (by omega) (by rw [← lessN_perm h, ← hl]; exact h1) (by rw [← mostN_perm h, ← hl]; exact h2)
  · have : l = [] := List.eq_nil_of_length_eq_zero (by omega)
    subst this
    rw [List.nil_perm.1 h]
end Go.Proofs.Ytbdklfcgcmdgaaa
namespace Go.Proofs.Ytbdklfcgcmdgaaa
set_option linter.unusedVariables false
set_option linter.unusedSimpArgs false

def okI (a : Int) : Bool := decide (0 ≤ a) && decide (a ≤ 1099511627776)
def okAge (h : Hd) : Bool := h.is && okI (ageL h.c)
def oneAge (h : Hd) : List Int := if okAge h then [ageL h.c] else []
def agesOf (L : List Hd) : List Int := L.flatMap oneAge
def commonF (n : Int) (L : List Hd) : Int := if 4 ≤ n ∧ n ≤ 16 then (if ((agesOf (L.take n.toNat)).length : Int) < n - 1 then -1 else medI (agesOf (L.take n.toNat))) else -1
theorem agesOf_nil : agesOf [] = [] := rfl
theorem agesOf_app (L M : List Hd) : agesOf (L ++ M) = agesOf L ++ agesOf M := by simp [agesOf]
theorem agesOf_succ {L : List Hd} {k : Nat} {h : Hd} (hk : L[k]? = some h) : agesOf (L.take (k + 1)) = agesOf (L.take k) ++ oneAge h := by
  rw [List.take_add_one, hk, agesOf_app]; simp [agesOf]
theorem oneAge_len (h : Hd) : (oneAge h).length ≤ 1 := by unfold oneAge; split <;> simp
theorem agesOf_len (L : List Hd) : (agesOf L).length ≤ L.length := by
  induction L with
  | nil => exact Nat.le_refl _
  | cons h L ih =>
    have := oneAge_len h
    have e : agesOf (h :: L) = oneAge h ++ agesOf L := by simp [agesOf]
    rw [e, List.length_append, List.length_cons]; omega
theorem agesOf_ok {L : List Hd} {x : Int} (h : x ∈ agesOf L) : 0 ≤ x ∧ x ≤ 1099511627776 := by
  unfold agesOf at h
  obtain ⟨y, -, hx⟩ := List.mem_flatMap.1 h
  unfold oneAge at hx
  split at hx
  · rename_i hok
    simp only [List.mem_singleton] at hx
    subst hx
    simp [okAge, okI] at hok
    exact hok.2
  · cases hx
theorem agesOf_perm {L M : List Hd} (h : L.Perm M) : (agesOf L).Perm (agesOf M) := h.flatMap_right _
theorem commonF_perm {n : Int} {L M : List Hd} (hL : L.length ≤ n.toNat) (h : L.Perm M) : commonF n L = commonF n M := by
  have hM : M.length ≤ n.toNat := by rw [← h.length_eq]; exact hL
  unfold commonF
  rw [List.take_of_length_le hL, List.take_of_length_le hM]
  have h2 := agesOf_perm h
  rw [h2.length_eq, medI_perm h2]
theorem commonF_range (n : Int) (L : List Hd) : -1 ≤ commonF n L ∧ commonF n L ≤ 1099511627776 := by
  unfold commonF
  split
  · rename_i hn
    split
    · omega
    · rename_i hl
      have := agesOf_ok (medI_mem (l := agesOf (L.take n.toNat)) (by omega))
      omega
  · omega
theorem commonF_take {n : Int} {L : List Hd} {m : Nat} (h : n.toNat ≤ m) : commonF n (L.take m) = commonF n L := by
  unfold commonF
  rw [List.take_take, Nat.min_eq_left h]

/-- ages of the first k, one aside -/
def goodL (bad : Nat) (L : List Hd) : Nat → List Int
  | 0 => []
  | k + 1 => goodL bad L k ++ (if k = bad then [] else match L[k]? with | some h => oneAge h | none => [])
theorem goodL_succ {bad : Nat} {L : List Hd} {k : Nat} {h : Hd} (hk : L[k]? = some h) : goodL bad L (k + 1) = goodL bad L k ++ (if k = bad then [] else oneAge h) := by
  rw [goodL, hk]
theorem good_perm (bad : Nat) (L : List Hd) : ∀ k, k ≤ L.length → ∃ o : List Int, o.length ≤ 1 ∧ (agesOf (L.take k)).Perm (o ++ goodL bad L k) ∧ (k ≤ bad → o = [])
  | 0, _ => ⟨[], by simp, by simp [goodL, agesOf], fun _ => rfl⟩
  | k + 1, hk => by
    obtain ⟨o, h1, h2, h3⟩ := good_perm bad L k (by omega)
    obtain ⟨h, hh⟩ : ∃ h, L[k]? = some h := ⟨_, List.getElem?_eq_getElem (by omega)⟩
    rw [agesOf_succ hh, goodL_succ hh]
    by_cases hb : k = bad
    · have := h3 (by omega)
      subst this
      rw [if_pos hb, List.append_nil]
      exact ⟨oneAge h, oneAge_len h, (h2.append_right _).trans (by rw [List.nil_append]; exact List.perm_append_comm), fun h => by omega⟩
    · rw [if_neg hb]
      exact ⟨o, h1, by rw [← List.append_assoc]; exact h2.append_right _, fun h => h3 (by omega)⟩
theorem goodL_ok {bad : Nat} {L : List Hd} : ∀ {k : Nat} {x : Int}, x ∈ goodL bad L k → 0 ≤ x ∧ x ≤ 1099511627776
  | 0, x, h => by cases h
  | k + 1, x, h => by
    rw [goodL] at h
    rcases List.mem_append.1 h with h | h
    · exact goodL_ok h
    · split at h
      · cases h
      · split at h
        · rename_i y _
          exact agesOf_ok (L := [y]) (by simpa [agesOf] using h)
        · cases h
theorem goodL_len {bad : Nat} {L : List Hd} : ∀ (k : Nat), (goodL bad L k).length ≤ if bad < k then k - 1 else k
  | 0 => by simp [goodL]
  | k + 1 => by
    have ih := goodL_len (bad := bad) (L := L) k
    rw [goodL, List.length_append]
    by_cases hb : k = bad
    · rw [if_pos hb]; simp; split at ih <;> split <;> omega
    · have : (match L[k]? with | some h => oneAge h | none => [] : List Int).length ≤ 1 := by
        split
        · exact oneAge_len _
        · simp
      generalize (match L[k]? with | some h => oneAge h | none => [] : List Int) = o at this ⊢
      rw [if_neg hb]
      by_cases h1 : bad < k
      · rw [if_pos h1] at ih; rw [if_pos (by omega)]; omega
      · rw [if_neg h1] at ih; rw [if_neg (by omega)]; omega
/-- the least, the greatest of a list; -1: there is none -/
def LeastP (G : List Int) (v : Int) : Prop := (G = [] ∧ v = -1) ∨ (v ∈ G ∧ ∀ x ∈ G, v ≤ x)
def MostAP (G : List Int) (v : Int) : Prop := (G = [] ∧ v = -1) ∨ (v ∈ G ∧ ∀ x ∈ G, x ≤ v)
theorem LeastP.push {G : List Int} {v a : Int} (h : LeastP G v) (hG : ∀ x ∈ G, 0 ≤ x) (ha : 0 ≤ a) : LeastP (G ++ [a]) (if v < 0 ∨ a < v then a else v) := by
  rcases h with ⟨rfl, rfl⟩ | ⟨h1, h2⟩
  · exact .inr ⟨by simp, by simp⟩
  · have := hG v h1
    by_cases hv : a < v
    · rw [if_pos (.inr hv)]
      exact .inr ⟨by simp, fun x hx => by
        rcases List.mem_append.1 hx with hx | hx
        · have := h2 x hx; omega
        · simp at hx; omega⟩
    · rw [if_neg (by omega)]
      exact .inr ⟨by simp [h1], fun x hx => by
        rcases List.mem_append.1 hx with hx | hx
        · exact h2 x hx
        · simp at hx; omega⟩
theorem MostAP.push {G : List Int} {v a : Int} (h : MostAP G v) (ha : 0 ≤ a) : MostAP (G ++ [a]) (max v a) := by
  rcases h with ⟨rfl, rfl⟩ | ⟨h1, h2⟩
  · exact .inr ⟨by simp; omega, by simp; omega⟩
  · by_cases hv : a ≤ v
    · rw [Int.max_eq_left hv]
      exact .inr ⟨by simp [h1], fun x hx => by
        rcases List.mem_append.1 hx with hx | hx
        · exact h2 x hx
        · simp at hx; omega⟩
    · rw [Int.max_eq_right (by omega)]
      exact .inr ⟨by simp, fun x hx => by
        rcases List.mem_append.1 hx with hx | hx
        · have := h2 x hx; omega
        · simp at hx; omega⟩
/-- the stage's theorem -/
theorem middle {n : Nat} (h4 : 4 ≤ n) (h16 : n ≤ 16) {L : List Hd} (hL : L.length = n) (bad : Nat) {least most : Int} (hl : LeastP (goodL bad L n) least) (hm : MostAP (goodL bad L n) most) :
    (0 ≤ commonF n L → n - 2 ≤ (goodL bad L n).length ∧ least ≤ commonF n L ∧ commonF n L ≤ most) ∧
    ((goodL bad L n).length = n - 1 → 0 ≤ commonF n L ∧ (least = most → commonF n L = least)) := by
  obtain ⟨o, h1, h2, -⟩ := good_perm bad L n (by omega)
  have hc : commonF n L = if (agesOf (L.take n)).length < n - 1 then -1 else medI (agesOf (L.take n)) := by
    unfold commonF
    rw [if_pos (by omega)]
    simp only [Int.toNat_natCast]
    split <;> split <;> first | rfl | omega
  have hlen := h2.length_eq
  rw [List.length_append] at hlen
  have key : n - 1 ≤ (agesOf (L.take n)).length → least ≤ medI (agesOf (L.take n)) ∧ medI (agesOf (L.take n)) ≤ most ∧ 0 ≤ medI (agesOf (L.take n)) := by
    intro hge
    have hpos : 0 < (agesOf (L.take n)).length := by omega
    obtain ⟨s1, s2⟩ := medI_spec hpos
    have hnn := (agesOf_ok (medI_mem hpos)).1
    generalize hmm : medI (agesOf (L.take n)) = m at *
    rw [lessN_perm h2] at s1
    rw [mostN_perm h2] at s2
    rw [h2.length_eq, List.length_append] at s1 s2
    have hG0 : goodL bad L n ≠ [] := by
      intro h0
      rw [h0] at hlen
      simp at hlen; omega
    unfold lessN at s1
    unfold mostN at s2
    rw [List.countP_append] at s1 s2
    have ho := List.countP_le_length (p := fun y => decide (y ≤ m)) (l := o)
    refine ⟨?_, ?_, hnn⟩
    · rcases hl with ⟨h, -⟩ | ⟨-, hall⟩
      · exact absurd h hG0
      · rcases Int.lt_or_le m least with hlt | hge'
        · have h0 : (goodL bad L n).countP (fun y => decide (y ≤ m)) = 0 := by
            rw [List.countP_eq_zero]
            intro x hx
            have := hall x hx
            simp; omega
          omega
        · exact hge'
    · rcases hm with ⟨h, -⟩ | ⟨-, hall⟩
      · exact absurd h hG0
      · rcases Int.lt_or_le most m with hlt | hge'
        · have h0 : (goodL bad L n).countP (fun y => decide (y < m)) = (goodL bad L n).length := by
            rw [List.countP_eq_length]
            intro x hx
            have := hall x hx
            simp; omega
          omega
        · exact hge'
  rw [hc]
  constructor
  · intro h0
    split at h0
    · omega
    · rename_i hge
      rw [if_neg hge]
      obtain ⟨k1, k2, -⟩ := key (by omega)
      exact ⟨by omega, k1, k2⟩
  · intro h0
    rw [if_neg (by omega)]
    obtain ⟨k1, k2, k3⟩ := key (by omega)
    exact ⟨k3, fun h => by omega⟩
theorem turned {n : Nat} {L : List Hd} (hL : L.length = n) (k : Nat) : commonF n (L.drop k ++ L.take k) = commonF n L := by
  have hp : (L.drop k ++ L.take k).Perm L := by
    have := List.perm_append_comm (l₁ := L.drop k) (l₂ := L.take k)
    rwa [List.take_append_drop] at this
  exact commonF_perm (by rw [hp.length_eq]; simp; omega) hp

/-! ### a clock's ages -/
def ownF (n common cold : Int) : Int := if okI (if okI common then common + 2 * n else cold) then (if okI common then common + 2 * n else cold) else -1
theorem ownF_range (n common cold : Int) : -1 ≤ ownF n common cold ∧ ownF n common cold ≤ 1099511627776 := by
  unfold ownF
  generalize (if okI common then common + 2 * n else cold) = a
  split
  · rename_i h
    simp [okI] at h
    omega
  · omega
/-- what a window of ages shows (the newest one last) -/
def bestW : List Int → Int
  | [] => -1
  | a :: W => if 0 ≤ a then max (a + W.length) (bestW W) else bestW W
def showF (W : List Int) : Int := if bestW W ≤ 1099511627776 then bestW W else -1
theorem bestW_ge (W : List Int) : -1 ≤ bestW W := by
  induction W with
  | nil => exact Int.le_refl _
  | cons a W ih => unfold bestW; split <;> omega
def MaxP (W : List Int) (I : Nat → Prop) (v : Int) : Prop := -1 ≤ v ∧ (∀ (i : Nat) (a : Int), I i → W[i]? = some a → 0 ≤ a → a + (W.length : Int) - 1 - i ≤ v) ∧ (v = -1 ∨ ∃ (i : Nat) (a : Int), I i ∧ W[i]? = some a ∧ 0 ≤ a ∧ v = a + (W.length : Int) - 1 - i)
theorem MaxP.unique {W : List Int} {I : Nat → Prop} {v v' : Int} (h : MaxP W I v) (h' : MaxP W I v') : v = v' := by
  obtain ⟨a1, a2, a3⟩ := h
  obtain ⟨b1, b2, b3⟩ := h'
  rcases a3 with a3 | ⟨i, a, ia, ib, ic, id⟩ <;> rcases b3 with b3 | ⟨j, b, ja, jb, jc, jd⟩
  · omega
  · have := a2 j b ja jb jc; omega
  · have := b2 i a ia ib ic; omega
  · have h1 := a2 j b ja jb jc
    have h2 := b2 i a ia ib ic
    omega
theorem bestW_max : ∀ (W : List Int), MaxP W (fun _ => True) (bestW W)
  | [] => ⟨Int.le_refl _, by simp, .inl rfl⟩
  | x :: W => by
    obtain ⟨a1, a2, a3⟩ := bestW_max W
    refine ⟨bestW_ge _, fun i a _ hi ha => ?_, ?_⟩
    · cases i with
      | zero =>
        simp at hi
        subst hi
        unfold bestW
        rw [if_pos ha]
        simp; omega
      | succ i =>
        have := a2 i a trivial (by simpa using hi) ha
        have h2 : bestW W ≤ bestW (x :: W) := by
          conv => rhs; unfold bestW
          split <;> omega
        simp; omega
    · have tail : bestW W = -1 ∨ ∃ (i : Nat) (a : Int), True ∧ (x :: W)[i]? = some a ∧ 0 ≤ a ∧ bestW W = a + ((x :: W).length : Int) - 1 - i := by
        rcases a3 with a3 | ⟨i, a, -, ib, ic, id⟩
        · exact .inl a3
        · exact .inr ⟨i + 1, a, trivial, by simpa using ib, ic, by simp; omega⟩
      unfold bestW
      split
      · rename_i hx
        by_cases hm : x + (W.length : Int) ≤ bestW W
        · rw [Int.max_eq_right hm]; exact tail
        · rw [Int.max_eq_left (by omega)]
          exact .inr ⟨0, x, trivial, rfl, hx, by simp; omega⟩
      · exact tail
theorem MaxP.best {W : List Int} {I : Nat → Prop} {v : Int} (h : MaxP W I v) (hI : ∀ i, i < W.length → I i) : v = bestW W := by
  refine h.unique ?_
  obtain ⟨a1, a2, a3⟩ := bestW_max W
  refine ⟨a1, fun i a _ => a2 i a trivial, ?_⟩
  rcases a3 with a3 | ⟨i, a, -, ib, ic⟩
  · exact .inl a3
  · exact .inr ⟨i, a, hI i (List.getElem?_eq_some_iff.1 ib).1, ib, ic⟩
theorem MaxP.start (W : List Int) {I : Nat → Prop} (h : ∀ i, ¬ I i) : MaxP W I (-1) := ⟨Int.le_refl _, fun i _ hi => absurd hi (h i), .inl rfl⟩
/-- one more place is looked at -/
theorem MaxP.step {W : List Int} {I I' : Nat → Prop} {v : Int} (h : MaxP W I v) {k : Nat} {a : Int} (hk : W[k]? = some a) (hI : ∀ i, I' i ↔ I i ∨ i = k) :
    MaxP W I' (if 0 ≤ a then max v (a + (W.length : Int) - 1 - k) else v) := by
  obtain ⟨a1, a2, a3⟩ := h
  have hkl : k < W.length := (List.getElem?_eq_some_iff.1 hk).1
  by_cases ha : 0 ≤ a
  · rw [if_pos ha]
    refine ⟨by omega, fun i b hi hb h0 => ?_, ?_⟩
    · rcases (hI i).1 hi with hi | rfl
      · have := a2 i b hi hb h0; omega
      · rw [hk] at hb; cases hb; omega
    · by_cases hm : a + (W.length : Int) - 1 - k ≤ v
      · rw [Int.max_eq_left hm]
        rcases a3 with a3 | ⟨i, b, ia, ib⟩
        · exact .inl a3
        · exact .inr ⟨i, b, (hI i).2 (.inl ia), ib⟩
      · rw [Int.max_eq_right (by omega)]
        exact .inr ⟨k, a, (hI k).2 (.inr rfl), hk, ha, rfl⟩
  · rw [if_neg ha]
    refine ⟨a1, fun i b hi hb h0 => ?_, ?_⟩
    · rcases (hI i).1 hi with hi | rfl
      · exact a2 i b hi hb h0
      · rw [hk] at hb; cases hb; omega
    · rcases a3 with a3 | ⟨i, b, ia, ib⟩
      · exact .inl a3
      · exact .inr ⟨i, b, (hI i).2 (.inl ia), ib⟩
theorem bestW_le {W : List Int} {B : Int} (h : ∀ a ∈ W, a ≤ B) (hB : 0 ≤ B) : bestW W ≤ B + W.length := by
  induction W with
  | nil => unfold bestW; simp; omega
  | cons a W ih =>
    have h1 := h a (by simp)
    have h2 := ih fun x hx => h x (by simp [hx])
    unfold bestW
    split <;> simp <;> omega
theorem bestW_newest {W : List Int} {b : Int} (hb : 0 ≤ b) : b ≤ bestW (W ++ [b]) := by
  induction W with
  | nil => simp only [List.nil_append]; unfold bestW; rw [if_pos hb]; simp; omega
  | cons a W ih =>
    rw [List.cons_append]
    unfold bestW
    split <;> omega
theorem bestW_snoc : ∀ (W : List Int) (b : Int), (∀ x ∈ W, 0 ≤ x) → 0 ≤ b → W ≠ [] → bestW (W ++ [b]) = max (bestW W + 1) b
  | [], b, h, hb, hne => absurd rfl hne
  | [x], b, h, hb, _ => by
    have := h x (by simp)
    simp [bestW, hb, this]; omega
  | x :: y :: W, b, h, hb, _ => by
    have hx := h x (by simp)
    have ih := bestW_snoc (y :: W) b (fun z hz => h z (by simp [hz])) hb (by simp)
    rw [List.cons_append]
    unfold bestW
    rw [if_pos hx, ih]
    conv => rhs; rw [if_pos hx]
    simp [List.length_append]
    omega
/-- a window that turns: the oldest age comes again, so much later -/
theorem bestW_turn (a : Int) (W : List Int) (ha : 0 ≤ a) (h : ∀ x ∈ W, 0 ≤ x) (hne : W ≠ []) : bestW (W ++ [a + (W.length : Int) + 1]) = bestW (a :: W) + 1 := by
  rw [bestW_snoc W _ h (by omega) hne]
  have : bestW (a :: W) = max (a + W.length) (bestW W) := by
    conv => lhs; unfold bestW
    rw [if_pos ha]
  rw [this]
  omega
end Go.Proofs.Ytbdklfcgcmdgaaa
namespace Go.Proofs.Ytbdklfcgcmdgaaa
open Go.RowKit
set_option linter.unusedVariables false
set_option linter.unusedSimpArgs false

theorem agmay_any (n : Int) (w : World) : Calls Try.prog 91 #[.int .i64 n] w fun e w' => e = .returned (.bool (decide (4 ≤ n) && decide (n ≤ 16))) ∧ w = w' := by
  by_cases h : 4 ≤ n
  all_goals
    go_enter Try.func91, Try.ntmps91
    go_wp2
    go_ret
    refine ⟨?_, rfl⟩
    first | (rw [show decide (4 ≤ n) = true from by simp; omega]; simp) | (rw [show decide (4 ≤ n) = false from by simp; omega]; simp)
theorem agis_any (n : Int) (w : World) : Calls Try.prog 97 #[.int .i64 n] w fun e w' => e = .returned (.bool (okI n)) ∧ w = w' := by
  by_cases h : 0 ≤ n
  all_goals
    go_enter Try.func97, Try.ntmps97
    go_wp2
    go_ret
    refine ⟨?_, rfl⟩
    first | (rw [okI, show decide (0 ≤ n) = true from by simp; omega]; simp) | (rw [okI, show decide (0 ≤ n) = false from by simp; omega]; simp)
theorem app_ages : AppOk Try.prog 203 2 1 := appOk_of Try.underlying203 (by kernel_rfl)

/-- ages so far: the variable's block, what it owns -/
def AgV (W : World) (g : Nat) (xs : List Int) (w : World) : Prop :=
  ∃ v, Blk w g 203 #[v] ∧ w.ownsRow W.heap.size 2 1 v xs.length (xs.map (Value.int .i64)) ∧ Below W.heap.size W w ∧ W.heap.size ≤ g
theorem AgV.start (W : World) : AgV W W.heap.size [] (W.alloc (.cells #[.slice none 0 0] 203)) :=
  ⟨_, Blk.new _ _ _, World.ownsRow_nil _ _ _ _, (Below.refl _ _).alloc (Nat.le_refl _) _, Nat.le_refl _⟩
theorem AgV.below {W : World} {g : Nat} {xs : List Int} {w w' : World} (h : AgV W g xs w) (hb : Below w.heap.size w w') : AgV W g xs w' := by
  obtain ⟨v, h1, h2, h3, h4⟩ := h
  exact ⟨v, h1.below hb h1.lt, own_block h2 (fun k hk => hb.block k (h2.lt k hk).2), below_trans h3 hb, h4⟩
where below_trans {W w w' : World} (h3 : Below W.heap.size W w) (hb : Below w.heap.size w w') : Below W.heap.size W w' := h3.trans (hb.mono h3.size)

theorem hd_cell1 {h : Hd} (hk : h.ok) : h.vals.all cell1 = true := by
  have := okL_cell1 hk
  simp only [Hd.vals, List.all_cons, this, Bool.and_true]; rfl
theorem rdHs_take {S : Nat → Prop} {w : World} {x : Option Addr} {m : Nat} {l : List Hd} (h : RdHs S w x m l) {k : Nat} (hk : k ≤ m) : RdHs S w x k (l.take k) :=
  ⟨by rw [List.length_take, h.1]; omega, fun y hy => h.2.1 y (List.mem_of_mem_take hy), fun j y hj => by
    rw [List.getElem?_take] at hj
    split at hj
    · exact h.2.2 j y hj
    · cases hj⟩
theorem own_slice {w : World} {base : Nat} {e : TypeId} {size : Nat} {v : Value} {n : Nat} {xs : List Value} (h : w.ownsRow base e size v n xs) : ∃ a cap, v = .slice a n cap := by
  rcases h.2 with ⟨rfl, rfl⟩ | ⟨g, cap, cur, rfl, -⟩
  · exact ⟨_, _, rfl⟩
  · exact ⟨_, _, rfl⟩
theorem own_nn {w : World} {base : Nat} {e : TypeId} {size : Nat} {v : Value} {n : Nat} {xs : List Value} (h : w.ownsRow base e size v n xs) (hn : 0 < n) : v ≠ .slice none 0 0 := by
  rcases h.2 with ⟨rfl, h0⟩ | ⟨g, cap, cur, rfl, -⟩
  · omega
  · simp
/-- what a boxed entry is good for -/
theorem blk_held {w : World} {g : Nat} {is : Bool} {n : Int} {r : List Value} (h : Blk w g 114 (Value.bool is :: .int .i64 n :: r).toArray) : w.cell? ⟨g, 0, none⟩ = some (.bool is) ∧ w.cell? ⟨g, 1, none⟩ = some (.int .i64 n) := by
  rw [h.cell, h.cell]; simp

set_option maxRecDepth 100000 in
set_option maxHeartbeats 1000000 in
theorem add_any (W : World) (g : Nat) (xs : List Int) (h : Hd) (hok : h.ok) (w : World) (hv : AgV W g xs w) (hx : xs.length ≤ 1000) :
    Calls Try.prog 94 #[.pointer (some ⟨g, 0, none⟩), .agg h.vals.toArray] w fun e w' => e = .returned (.tuple #[]) ∧ AgV W g (xs ++ oneAge h) w' := by
  obtain ⟨is, c⟩ := h
  obtain ⟨n, r, rfl, hn0, hn1⟩ := cell_age hok
  have hlr : r.length = 54 := by have := Hd.ok_len hok; simpa using this
  simp only [Hd.vals]
  have hbx : Blk (w.alloc (.cells (Value.bool is :: .int .i64 n :: r).toArray 114)) w.heap.size 114 (Value.bool is :: .int .i64 n :: r).toArray := Blk.new _ _ _
  have hv1 : AgV W g xs (w.alloc (.cells (Value.bool is :: .int .i64 n :: r).toArray 114)) := hv.below ((Below.refl _ _).alloc (Nat.le_refl _) _)
  have e1 : oneAge ⟨is, .int .i64 n :: r⟩ = if is && okI n then [n] else [] := by simp [oneAge, okAge, ageL]
  rw [e1]
  obtain ⟨hc0, hc1⟩ := blk_held hbx
  clear hv
  cases his : (is && okI n) with
  | false =>
    have HV := Lib.hid hv1
    clear hv1 hbx e1
    cases is with
    | false =>
      go_enter Try.func94, Try.ntmps94
      go_wp2_with fail
      generalize w.alloc (.cells (Value.bool false :: .int .i64 n :: r).toArray 114) = w1 at *
      go_end0
      exact ⟨rfl, by simpa using HV.out⟩
    | true =>
      have hn : okI n = false := by simpa using his
      go_enter Try.func94, Try.ntmps94
      go_wp2_with fail
      refine (agis_any n _).mono ?_
      rintro e w2 ⟨rfl, rfl⟩
      go_wp2_with fail
      go_end0
      exact ⟨rfl, by simpa using HV.out⟩
  | true =>
    obtain ⟨rfl, hn⟩ : is = true ∧ okI n = true := by simpa using his
    go_enter Try.func94, Try.ntmps94
    go_wp2_with fail
    refine (agis_any n _).mono ?_
    rintro e w2 ⟨rfl, rfl⟩
    obtain ⟨v, h1, h2, h3, h4⟩ := hv1
    have hsz : w.heap.size < (w.alloc (.cells (Value.bool true :: .int .i64 n :: r).toArray 114)).heap.size := hbx.lt
    generalize w.alloc (.cells (Value.bool true :: .int .i64 n :: r).toArray 114) = w1 at *
    have d0 : w1.cell? ⟨g, 0, none⟩ = some v := h1.cell 0
    have d1 : w1.frozen? ⟨g, 0, none⟩ = false := h1.frozen 0
    have hne := own_not h2 h1 (by decide)
    have hgl := h1.lt
    have hWl := h3.size
    have HH := Lib.hid (And.intro h1 (And.intro h2 (And.intro h3 (And.intro h4 (And.intro hne hbx)))))
    clear h1 h2 h3 h4 hne hbx his
    go_upto_region 2 with fail
    go_region_law (first
      | (refine step_app app_ages (by rfl) (.tmp 15) (.tmp 19) (by rfl) W.heap.size _ _ _ (by rfl) ((HH.out.2.1.alloc _).drew) ⟨w1.heap.size, 0, none⟩ 1 1 [.int .i64 n] (by rfl) (by simp)
            (hasRow_new w1 _ _ 0 1 (by simp)) ((rowOf_new w1 _ _ 0 1 (by simp)).trans rfl) (by simp [cell1]) (by omega) (by omega) (by simp; omega) ?_; intro gg cap' w3 hown1 hgrow; have HB1 : Hid (Blk w3 g 203 #[v]) := Lib.hid ((hgrow.block g (by simp; omega) (fun h => HH.out.2.2.2.2.1 h.symm)).trans ((HH.out.1.alloc _).drew)); have q0 : w3.cell? ⟨g, 0, none⟩ = some v := HB1.out.cell 0; have q1 : w3.frozen? ⟨g, 0, none⟩ = false := HB1.out.frozen 0))
    all_goals
      have HX : Hid (AgV W g (xs ++ [n]) (w3.setCell ⟨g, 0, none⟩ (.slice (some ⟨gg, 0, none⟩) (xs.length + 1) cap'))) := Lib.hid (by
        have hn1 := own_not hown1 HB1.out (by decide)
        have hb2 : Blk (w3.setCell ⟨g, 0, none⟩ (.slice (some ⟨gg, 0, none⟩) (xs.length + 1) cap')) g 203 #[.slice (some ⟨gg, 0, none⟩) (xs.length + 1) cap'] := by simpa using HB1.out.set_ 0 (.slice (some ⟨gg, 0, none⟩) (xs.length + 1) cap')
        have hB3 : Below W.heap.size W w3 := (HH.out.2.2.1.alloc hWl _).drew.grown hgrow (by simp; omega) (fun k hk => (HH.out.2.1.lt k hk).1)
        refine ⟨_, hb2, ?_, hB3.setCell (p := ⟨g, 0, none⟩) HH.out.2.2.2.1 _, HH.out.2.2.2.1⟩
        refine own_block ?_ (fun k hk => Below.heap_setCell _ _ _ _ (fun h => hn1 (by rw [hk, h])))
        simpa using hown1)
      clear hown1 hgrow HB1 q0 q1 d0 d1 hc0 hc1 HH
      go_wp2_with fail
      go_end0
      exact ⟨rfl, HX.out⟩
end Go.Proofs.Ytbdklfcgcmdgaaa
namespace Go.Proofs.Ytbdklfcgcmdgaaa
open Go.RowKit
set_option linter.unusedVariables false
set_option linter.unusedSimpArgs false

/-- a slice of one-cell elements, in a block from B on, that may be written up to its capacity -/
def RmV (B : Nat) (w : World) (e : TypeId) (v : Value) (xs : List Value) : Prop :=
  (v = .slice none 0 0 ∧ xs = []) ∨ ∃ g off cap cur, v = .slice (some ⟨g, off, none⟩) xs.length cap ∧ B ≤ g ∧ Blk w g e cur ∧ off + cap ≤ cur.size ∧ xs.length ≤ cap ∧ cap ≤ maxLen ∧ ∀ (j : Nat) (u : Value), xs[j]? = some u → cur[off + j]? = some u
theorem RmV.nil (B : Nat) (w : World) (e : TypeId) : RmV B w e (.slice none 0 0) [] := .inl ⟨rfl, rfl⟩
theorem RmV.of_own {B : Nat} {w : World} {e : TypeId} {v : Value} {n : Nat} {xs : List Value} (h : w.ownsRow B e 1 v n xs) : RmV B w e v xs := by
  have hl : xs.length = n := by have := h.1; omega
  rcases h.2 with ⟨rfl, h0⟩ | ⟨g, cap, cur, rfl, h1, h2, h3, h4, h5, h6⟩
  · exact .inl ⟨rfl, List.eq_nil_of_length_eq_zero (by omega)⟩
  · subst hl
    refine .inr ⟨g, 0, cap, cur, rfl, h1, h2, by omega, h3, h4, fun j u hj => ?_⟩
    have hjl : j < xs.length := (List.getElem?_eq_some_iff.1 hj).1
    rw [← h6, List.getElem?_take, if_pos (by omega)] at hj
    simpa using hj
theorem RmV.lt {B : Nat} {w : World} {e : TypeId} {v : Value} {xs : List Value} (h : RmV B w e v xs) : ∀ k, v.ownBlock = some k → B ≤ k ∧ k < w.heap.size := fun k hk => by
  rcases h with ⟨rfl, -⟩ | ⟨g, off, cap, cur, rfl, h1, h2, -⟩
  · cases hk
  · simp only [Value.ownBlock, Option.some.injEq] at hk
    subst hk
    exact ⟨h1, h2.lt⟩
theorem RmV.block {B : Nat} {w w' : World} {e : TypeId} {v : Value} {xs : List Value} (h : RmV B w e v xs) (hb : ∀ k, v.ownBlock = some k → w'.heap[k]? = w.heap[k]?) : RmV B w' e v xs := by
  rcases h with h | ⟨g, off, cap, cur, rfl, h1, h2, h3⟩
  · exact .inl h
  · exact .inr ⟨g, off, cap, cur, rfl, h1, (hb g rfl).trans h2, h3⟩
theorem RmV.not_ {B : Nat} {w : World} {e t : TypeId} {v : Value} {xs : List Value} {g : Nat} {cs : Array Value} (h : RmV B w e v xs) (hg : Blk w g t cs) (hne : e ≠ t) : v.ownBlock ≠ some g := by
  rcases h with ⟨rfl, -⟩ | ⟨g', off, cap, cur, rfl, h1, h2, -⟩
  · simp [Value.ownBlock]
  · intro he
    simp only [Value.ownBlock, Option.some.injEq] at he
    subst he
    exact Blk.ne_ h2 hg hne rfl
theorem RmV.shape {B : Nat} {w : World} {e : TypeId} {v : Value} {xs : List Value} (h : RmV B w e v xs) : ∃ a cap, v = .slice a xs.length cap := by
  rcases h with ⟨rfl, rfl⟩ | ⟨g, off, cap, cur, rfl, -⟩
  · exact ⟨_, _, rfl⟩
  · exact ⟨_, _, rfl⟩
/-- where there is an element: its address, its cells -/
theorem RmV.at1 {B : Nat} {w : World} {e : TypeId} {v : Value} {xs : List Value} (h : RmV B w e v xs) (hn : 0 < xs.length) : ∃ g off cap, v = .slice (some ⟨g, off, none⟩) xs.length cap ∧ xs.length ≤ cap ∧ cap ≤ maxLen ∧ g < w.heap.size ∧ ∀ (j : Nat) (u : Value), xs[j]? = some u → w.cell? ⟨g, off + j, none⟩ = some u := by
  rcases h with ⟨rfl, rfl⟩ | ⟨g, off, cap, cur, rfl, h1, h2, h3, h4, h5, h6⟩
  · simp at hn
  · exact ⟨g, off, cap, rfl, h4, h5, h2.lt, fun j u hj => by rw [h2.cell]; exact h6 j u hj⟩
/-- the first ones are let go -/
theorem RmV.drop {B : Nat} {w : World} {e : TypeId} {g off n cap : Nat} {xs : List Value} (h : RmV B w e (.slice (some ⟨g, off, none⟩) n cap) xs) {k : Nat} (hk : k ≤ xs.length) : RmV B w e (.slice (some ⟨g, off + k, none⟩) (xs.length - k) (xs.length - k)) (xs.drop k) := by
  rcases h with ⟨h, -⟩ | ⟨g', off', cap', cur, he, h1, h2, h3, h4, h5, h6⟩
  · cases h
  · cases he
    refine .inr ⟨g, off + k, xs.length - k, cur, by rw [List.length_drop], h1, h2, by omega, by rw [List.length_drop]; omega, by omega, fun j u hj => ?_⟩
    rw [List.getElem?_drop] at hj
    have := h6 _ u hj
    rwa [← Nat.add_assoc] at this

theorem run_appR {P : Program} {t e : TypeId} (hA : AppOk P t e 1) {B : Nat} {w : World} (hB : B ≤ w.heap.size) (ty : TypeId) {v : Value} {xs : List Value} (h : RmV B w e v xs) (ad : Addr) (c : Nat) (x : Value) (hx : w.cell? ad = some x) (h1 : cell1 x = true) (hn : xs.length ≤ 100000000) :
    ∃ v' w', (Builtin.append_ #[t, t] ty #[v, .slice (some ad) 1 c]).run P w = .ok v' w' ∧ RmV B w' e v' (xs ++ [x]) ∧ w.grownBy w' v.ownBlock ∧ (v'.ownBlock = v.ownBlock ∨ v'.ownBlock = some w.heap.size ∨ ∀ k, v'.ownBlock = some k → w.heap.size ≤ k) := by
  obtain ⟨ht, i, z, hi, hz, hsize, hby, hzs, hsz⟩ := hA
  have hnews : ∀ (j : Nat) (u : Value), [x][j]? = some u → w.cell? (ad.add j) = some u := fun j u hj => by
    cases j with
    | zero => simp at hj; subst hj; simpa [Addr.add] using hx
    | succ j => simp at hj
  have h1' : ∀ u ∈ [x], u.oneCell' = true := fun u hu => by simp at hu; subst hu; exact cell1_one h1
  have hby2 : ∀ n, n ≤ 1000000000 → n * i.bytes ≤ 140737488355328 := fun n hn => Nat.le_trans (Nat.mul_le_mul hn hby) (by omega)
  have grown : ∀ {v' w'}, w'.ownsRow w.heap.size e 1 v' (xs.length + 1) (xs ++ [x]) → w.grownBy w' none → RmV B w' e v' (xs ++ [x]) ∧ w.grownBy w' v.ownBlock ∧ (v'.ownBlock = v.ownBlock ∨ v'.ownBlock = some w.heap.size ∨ ∀ k, v'.ownBlock = some k → w.heap.size ≤ k) := fun {v' w'} ho hg => by
    refine ⟨?_, ⟨hg.os, hg.tape, hg.output, hg.size, fun k hk _ => hg.block k hk (by simp)⟩, .inr (.inr fun k hk => (ho.lt k hk).1)⟩
    rcases RmV.of_own ho with h | ⟨g, off, cap, cur, h2, h3, h4⟩
    · exact .inl h
    · exact .inr ⟨g, off, cap, cur, h2, by omega, h4⟩
  rcases h with ⟨rfl, rfl⟩ | ⟨g, off, cap, cur, rfl, g1, g2, g3, g4, g5, g6⟩
  · obtain ⟨v', w', r1, r2, r3, -⟩ := run_append_own (P := P) w w.heap.size t ty e i z 1 i.bytes ht hi hz hsize rfl hzs hsz (.slice none 0 0) 0 [] (World.ownsRow_nil w _ e 1) ad 1 c [x] rfl hnews h1' (by simp [maxLen]) (hby2 _ (by omega)) (Nat.le_refl _)
    exact ⟨v', w', r1, grown r2 r3⟩
  · by_cases hroom : xs.length + 1 ≤ cap
    · have hf : w.frozen? ⟨g, off + xs.length, none⟩ = false := g2.frozen _
      have hcl : (w.cell? ⟨g, off + xs.length, none⟩).isSome = true := by
        rw [g2.cell, Array.getElem?_eq_getElem (by omega)]; rfl
      have hr := run_append_room_cells (P := P) w t ty e i ht hi g off xs.length cap ad 1 c [x] (by simp [hsize]) hnews h1' hroom (fun j hj => by simp at hj; subst hj; simpa [hsize] using hcl) (fun j hj => by simp at hj; subst hj; simpa [hsize] using hf)
      refine ⟨_, _, hr, ?_, ?_, .inl rfl⟩
      · have hb := g2.set_ (off + xs.length) x
        have e : w.setCells g (off + xs.length * i.size) [x] = w.setCell ⟨g, off + xs.length, none⟩ x := by simp [World.setCells, hsize]
        rw [e]
        refine .inr ⟨g, off, cap, _, by simp, g1, hb, by simpa using g3, by simpa using hroom, g5, fun j u hj => ?_⟩
        rw [Array.getElem?_setIfInBounds]
        by_cases hj1 : j < xs.length
        · rw [List.getElem?_append_left hj1] at hj
          rw [if_neg (by omega)]
          exact g6 j u hj
        · have : j = xs.length := by
            have := (List.getElem?_eq_some_iff.1 hj).1
            simp at this; omega
          subst this
          simp at hj
          subst hj
          rw [if_pos rfl, if_pos (by omega)]
      · have e : w.setCells g (off + xs.length * i.size) [x] = w.setCell ⟨g, off + xs.length, none⟩ x := by simp [World.setCells, hsize]
        rw [e]
        exact ⟨rfl, rfl, rfl, by simp, fun k hk hne => Below.heap_setCell _ _ _ _ (by rintro rfl; exact hne rfl)⟩
    · obtain ⟨v', w', r1, r2, r3⟩ := run_append_arg_grows (P := P) w t ty e i z 1 i.bytes ht hi hz hsize rfl hzs hsz ⟨g, off, none⟩ xs.length cap xs (by omega) (fun j u hj => by rw [add_at, g2.cell]; exact g6 j u hj) ad 1 c [x] rfl hnews (by omega) (by simp [maxLen]; omega) (hby2 _ (by omega))
      exact ⟨v', w', r1, grown r2 r3⟩

/-- at the list of a plain region's operations -/
theorem wpList_appR {P : Program} {t e : TypeId} (hA : AppOk P t e 1) {B : Nat} {w : World} {ops : Array Oper} {rest : List Oper} {o : Oper} {a : Act} {Q : Exit → Act → World → Prop} (hgd : o.guard = none) (s x : Operand)
    (ho : o.op = .call { callee := .builtin .append, args := #[s, x], argTypes := #[t, t] })
    (hB : B ≤ w.heap.size) (v : Value) (xs : List Value) (hs : a.eval s = v) (h : RmV B w e v xs) (ad : Addr) (c : Nat) (y : Value) (hx : a.eval x = .slice (some ad) 1 c) (hy : w.cell? ad = some y) (h1 : cell1 y = true) (hn : xs.length ≤ 100000000)
    (hK : ∀ v' w', RmV B w' e v' (xs ++ [y]) → w.grownBy w' v.ownBlock → (v'.ownBlock = v.ownBlock ∨ v'.ownBlock = some w.heap.size ∨ ∀ k, v'.ownBlock = some k → w.heap.size ≤ k) → wpList P ops Q rest (a.put o.dst v') w') : wpList P ops Q (o :: rest) a w := by
  refine wpList_plain hgd fun K hK' => ?_
  obtain ⟨v', w', hrun, r1, r2, r3⟩ := run_appR hA hB o.type h ad c y hy h1 hn
  unfold Oper.wp execOp
  simp only [ho, resolve, invoke, builtin, Sem.run_bind, Sem.run_pure, Result.andThen_ok, List.map_toArray, List.map_cons, List.map_nil, hs, hx, hrun]
  exact hK' _ _ (hK v' w' r1 r2 r3)
end Go.Proofs.Ytbdklfcgcmdgaaa
