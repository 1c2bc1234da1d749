/-
  The four paths from a source to a node. Plain. What is certified of a source that is not the faulty one. Plain.
-/
import Derived.Test.YtbdklfcgcmdgaaaGa05
namespace Go.Proofs.Ytbdklfcgcmdgaaa
open Go.RowKit
set_option linter.unusedVariables false
set_option linter.unusedSimpArgs false

theorem mod3 {y N : Nat} (h : y < 3 * N) : y % N = if y < N then y else if y < 2 * N then y - N else y - 2 * N := by
  split
  · exact Nat.mod_eq_of_lt ‹_›
  · split
    · rw [show y = (y - N) + N from by omega, Nat.add_mod_right, Nat.mod_eq_of_lt (by omega)]; omega
    · rw [show y = (y - 2 * N) + N + N from by omega, Nat.add_mod_right, Nat.add_mod_right, Nat.mod_eq_of_lt (by omega)]; omega
/-- the node so far from s, one way -/
def nodeAt (N way s e : Nat) : Nat := if way = 0 then (s + e) % N else (s + N - e) % N
theorem nodeAt_lt {N way s e : Nat} (h : 0 < N) : nodeAt N way s e < N := by unfold nodeAt; split <;> exact Nat.mod_lt _ h
theorem dist_node {N way s e : Nat} (hs : s < N) (he : e < N) : distM N (nodeAt N way s e) way s = e := by
  have h0 : 0 < N := by omega
  unfold nodeAt distM
  by_cases hw : way = 0
  · rw [if_pos hw, if_pos hw, mod3 (y := s + e) (by omega)]
    split
    · rw [mod3 (by omega)]; (repeat' split) <;> omega
    · split
      · rw [mod3 (by omega)]; (repeat' split) <;> omega
      · omega
  · rw [if_neg hw, if_neg hw, mod3 (y := s + N - e) (by omega)]
    split
    · rw [mod3 (by omega)]; (repeat' split) <;> omega
    · split
      · rw [mod3 (by omega)]; (repeat' split) <;> omega
      · omega
theorem node_dist {N way s x : Nat} (hs : s < N) (hx : x < N) : nodeAt N way s (distM N x way s) = x := by
  have h0 : 0 < N := by omega
  unfold nodeAt distM
  by_cases hw : way = 0
  · rw [if_pos hw, if_pos hw, mod3 (y := x + N - s) (by omega)]
    split
    · rw [mod3 (by omega)]; (repeat' split) <;> omega
    · split
      · rw [mod3 (by omega)]; (repeat' split) <;> omega
      · omega
  · rw [if_neg hw, if_neg hw, mod3 (y := s + N - x) (by omega)]
    split
    · rw [mod3 (by omega)]; (repeat' split) <;> omega
    · split
      · rw [mod3 (by omega)]; (repeat' split) <;> omega
      · omega
theorem dist_sum {N x s : Nat} (hs : s < N) (hx : x < N) (hne : s ≠ x) : distM N x 0 s + distM N x 1 s = N ∧ 1 ≤ distM N x 0 s ∧ 1 ≤ distM N x 1 s := by
  unfold distM
  rw [if_pos rfl, if_neg (by decide), mod3 (y := x + N - s) (by omega), mod3 (y := s + N - x) (by omega)]
  (repeat' split) <;> omega
/-- the node whose word comes at a link -/
def prevN (N way x k : Nat) : Nat := if way = 0 then (x + 2 * N - k) % N else (x + 2 * N + k) % N
theorem prev_node {N way s e k : Nat} (hs : s < N) (he : e < N) (hk : k ≤ e) (hk2 : k ≤ 2) (h4 : 4 ≤ N) : prevN N way (nodeAt N way s e) k = nodeAt N way s (e - k) := by
  unfold prevN nodeAt
  by_cases hw : way = 0
  · rw [if_pos hw, if_pos hw, if_pos hw, mod3 (y := s + e) (by omega), mod3 (y := s + (e - k)) (by omega)]
    rw [show ∀ z, z + 2 * N - k = z + 2 * N - k from fun _ => rfl]
    split
    · rw [show s + e + 2 * N - k = (s + e - k) + N + N from by omega, Nat.add_mod_right, Nat.add_mod_right, mod3 (by omega)]
      (repeat' split) <;> omega
    · split
      · rcases Nat.lt_or_ge (s + e - N) k with h | h
        · rw [show s + e - N + 2 * N - k = (s + e - k) + N from by omega, Nat.add_mod_right, mod3 (by omega)]
          (repeat' split) <;> omega
        · rw [show s + e - N + 2 * N - k = (s + e - N - k) + N + N from by omega, Nat.add_mod_right, Nat.add_mod_right, mod3 (by omega)]
          (repeat' split) <;> omega
      · omega
  · rw [if_neg hw, if_neg hw, if_neg hw, mod3 (y := s + N - e) (by omega), mod3 (y := s + N - (e - k)) (by omega)]
    split
    · rw [show s + N - e + 2 * N + k = (s + N - e + k) + N + N from by omega, Nat.add_mod_right, Nat.add_mod_right, mod3 (by omega)]
      (repeat' split) <;> omega
    · split
      · rw [show s + N - e - N + 2 * N + k = (s + N - e - N + k) + N + N from by omega, Nat.add_mod_right, Nat.add_mod_right, mod3 (by omega)]
        (repeat' split) <;> omega
      · omega

section
variable (N : Nat) (F : FltM) (on : Nat → Nat → Bool) (own : Nat → Nat → Rw)
/-- may a link say what it likes? -/
def oddL (i k : Nat) : Bool := decide (F.at_ % N = i) && (!F.link || decide (F.which % 4 = k)) && !F.acts.isEmpty
theorem sentT_good {t i k : Nat} (h : oddL N F i k = false) : sentT N F on own t i k = if on t i = true then tab N (trk N F on own t i (if k < 2 then 0 else 2)) else [] := by
  have ho : ((rgT N F on own t).hear (on t)).odd i k = false := by
    have hN := rgT_N N F on own t
    unfold RingM.odd
    rw [show ((rgT N F on own t).hear (on t)).F = F from hN.2, show ((rgT N F on own t).hear (on t)).N = N from hN.1]
    exact h
  have hsd : ∀ a b : List Rw, ((rgT N F on own t).hear (on t)).saidM i k a b = a := fun a b => by
    unfold RingM.saidM
    rw [if_neg (by rw [ho]; simp)]
  unfold sentT RingM.outM
  rw [hsd, hsd]
  by_cases hon : on t i = true
  · rw [if_pos hon]
    by_cases hk : k < 2
    · rw [if_pos hk, if_pos hk]; exact word_all N F on own t i 0 hon (.inl rfl)
    · rw [if_neg hk, if_neg hk]; exact word_all N F on own t i 2 hon (.inr rfl)
  · rw [if_neg hon]
    have hoff : on t i = false := by simpa using hon
    by_cases hk : k < 2
    · rw [if_pos hk]; exact word_off N F on own t i 0 hoff
    · rw [if_neg hk]; exact word_off N F on own t i 2 hoff
/-- what comes at a link -/
theorem insT_eq {t x way p : Nat} (hw : way < 2) (hp : p < 2) (ht : p + 1 ≤ t) : insT N F on own t x (2 * way + p) = sentT N F on own (t - (p + 1)) (prevN N way x (p + 1)) (2 * way + p) := by
  have hN := (rgT_N N F on own t).1
  have hl := rgT_len N F on own t
  have key : ∀ (y k ago : Nat), 1 ≤ ago → ago ≤ t → (rgT N F on own t).sentM y k ago = sentT N F on own (t - ago) (y % N) k := fun y k ago h1 h2 => by
    unfold RingM.sentM
    rw [hl, if_neg (by omega), List.getD_eq_getElem?_getD, rgT_sent N F on own t (t - ago) (by omega), hN]
    rfl
  unfold insT RingM.insM prevN
  rw [hN]
  have hc : (way = 0 ∧ p = 0) ∨ (way = 0 ∧ p = 1) ∨ (way = 1 ∧ p = 0) ∨ (way = 1 ∧ p = 1) := by omega
  rcases hc with ⟨rfl, rfl⟩ | ⟨rfl, rfl⟩ | ⟨rfl, rfl⟩ | ⟨rfl, rfl⟩
  · exact key _ 0 1 (by omega) ht
  · exact key _ 1 2 (by omega) ht
  · exact key _ 2 1 (by omega) ht
  · exact key _ 3 2 (by omega) ht
/-- nothing (and somebody is off), or the truth -/
def OkV (x v : Rw) : Prop := x = v ∨ (x = rw0 ∧ ∃ t i, i < N ∧ on t i = false)
theorem row_good {t y k s : Nat} {v : Rw} (hy : y < N) (hs : s < N) (ho : oddL N F y k = false) (hv : v.plain N = v) (h : on t y = true → OkV N on (trk N F on own t y (if k < 2 then 0 else 2) s) v) : OkV N on (inRow N (sentT N F on own t y k) s) v := by
  rw [sentT_good N F on own ho]
  by_cases hon : on t y = true
  · rw [if_pos hon]
    have e : inRow N (tab N (trk N F on own t y (if k < 2 then 0 else 2))) s = (trk N F on own t y (if k < 2 then 0 else 2) s).plain N := by
      unfold inRow; rw [tab_at hs]
    rw [e]
    rcases h hon with h | ⟨h, h2⟩
    · left; rw [h, hv]
    · right; rw [h]; exact ⟨rw0_plain _, h2⟩
  · rw [if_neg hon]
    exact .inr ⟨rfl, t, y, hy, by simpa using hon⟩
/-- along one way's track -/
theorem path_track {way s τ : Nat} (hw : way < 2) (h4 : 4 ≤ N) (hs : s < N) {v : Rw} (hv : v = (own τ s).plain N) (hvp : v.plain N = v) : ∀ e, e < N →
    (∀ e', e' < e → (e - e') % 2 = 0 → oddL N F (nodeAt N way s e') (2 * way + 1) = false) → (e % 2 = 1 → oddL N F (nodeAt N way s 0) (2 * way) = false) →
    OkV N on (trk N F on own (τ + e) (nodeAt N way s e) (2 * way) s) v
  | 0, he, _, _ => by
    have hx : nodeAt N way s 0 = s := by unfold nodeAt; split <;> simp [Nat.mod_eq_of_lt hs]
    left
    unfold trk
    rw [hx, if_pos ⟨by omega, rfl⟩, hv]; rfl
  | 1, he, _, h1 => by
    have hd := dist_node (way := way) hs he
    have hne : s ≠ nodeAt N way s 1 := fun e => by
      rw [← e] at hd
      have : distM N s way s = 0 := by unfold distM; split <;> simp
      omega
    have h0 : nodeAt N way s 0 = s := by unfold nodeAt; split <;> simp [Nat.mod_eq_of_lt hs]
    unfold trk
    rw [if_neg (fun h => hne h.2)]
    unfold momM sideM
    rw [show 2 * way / 2 = way from by omega, hd, if_neg (by decide), if_pos rfl, show 2 * way % 2 = 0 from by omega, if_pos rfl]
    have hi := insT_eq N F on own (t := τ + 1) (x := nodeAt N way s 1) (p := 0) hw (by omega) (by omega)
    rw [show 2 * way + 0 = 2 * way from rfl] at hi
    rw [hi, prev_node hs he (by omega) (by omega) h4]
    refine row_good N F on own (nodeAt_lt (by omega)) hs (h1 rfl) hvp fun _ => ?_
    rw [show 1 - (0 + 1) = 0 from rfl, h0]
    left
    unfold trk
    have hq : (if 2 * way < 2 then 0 else 2) % 2 = 0 := by split <;> rfl
    rw [if_pos ⟨hq, rfl⟩, hv]
    rfl
  | e + 2, he, hf, h1 => by
    have ih := path_track hw h4 hs hv hvp e (by omega) (fun e' h h' => hf e' (by omega) (by omega)) (fun h => h1 (by omega))
    have hd := dist_node (way := way) hs he
    have hne : s ≠ nodeAt N way s (e + 2) := fun e' => by
      rw [← e'] at hd
      have : distM N s way s = 0 := by unfold distM; split <;> simp
      omega
    unfold trk
    rw [if_neg (fun h => hne h.2)]
    unfold momM sideM
    rw [show 2 * way / 2 = way from by omega, hd, if_neg (by omega), if_neg (by omega), show 2 * way % 2 = 0 from by omega, if_pos rfl]
    have hi := insT_eq N F on own (t := τ + (e + 2)) (x := nodeAt N way s (e + 2)) (p := 1) hw (by omega) (by omega)
    rw [hi, prev_node hs he (by omega) (by omega) h4, show e + 2 - (1 + 1) = e from by omega, show τ + (e + 2) - (1 + 1) = τ + e from by omega]
    refine row_good N F on own (nodeAt_lt (by omega)) hs (hf e (by omega) (by omega)) hvp fun _ => ?_
    have hq : (if 2 * way + 1 < 2 then 0 else 2) = 2 * way := by
      have : way = 0 ∨ way = 1 := by omega
      rcases this with rfl | rfl <;> rfl
    rw [hq]
    exact ih
/-- the near copy -/
theorem path_near {way s τ d : Nat} (hw : way < 2) (h4 : 4 ≤ N) (hs : s < N) {v : Rw} (hv : v = (own τ s).plain N) (hvp : v.plain N = v) (hd2 : 2 ≤ d) (hd : d < N) (hn : oddL N F (nodeAt N way s (d - 1)) (2 * way) = false)
    (hf : ∀ e', e' < d - 1 → (d - 1 - e') % 2 = 0 → oddL N F (nodeAt N way s e') (2 * way + 1) = false) (h1 : (d - 1) % 2 = 1 → oddL N F (nodeAt N way s 0) (2 * way) = false) :
    OkV N on (trk N F on own (τ + d) (nodeAt N way s d) (2 * way + 1) s) v := by
  have ih := path_track N F on own hw h4 hs hv hvp (d - 1) (by omega) hf h1
  have hdd := dist_node (way := way) hs hd
  unfold trk
  rw [if_neg (fun h => by omega)]
  unfold momM sideM
  rw [show (2 * way + 1) / 2 = way from by omega, hdd, if_neg (by omega), if_neg (by omega), show (2 * way + 1) % 2 = 1 from by omega, if_neg (by decide)]
  have hi := insT_eq N F on own (t := τ + d) (x := nodeAt N way s d) (p := 0) hw (by omega) (by omega)
  rw [show 2 * way + 0 = 2 * way from rfl] at hi
  rw [hi, prev_node hs hd (by omega) (by omega) h4, show τ + d - (0 + 1) = τ + (d - 1) from by omega]
  refine row_good N F on own (nodeAt_lt (by omega)) hs hn hvp fun _ => ?_
  have hq : (if 2 * way < 2 then 0 else 2) = 2 * way := by
    have : way = 0 ∨ way = 1 := by omega
    rcases this with rfl | rfl <;> rfl
  rw [hq]
  exact ih
theorem near_none {way s τ d : Nat} (hw : way < 2) (hs : s < N) (h4 : 4 ≤ N) (hd : d < N) (hd1 : d ≤ 1) : trk N F on own (τ + d) (nodeAt N way s d) (2 * way + 1) s = rw0 := by
  have hdd := dist_node (way := way) hs hd
  unfold trk
  rw [if_neg (fun h => by omega)]
  unfold momM sideM
  rw [show (2 * way + 1) / 2 = way from by omega, hdd, show (2 * way + 1) % 2 = 1 from by omega]
  by_cases h : d = 0
  · rw [if_pos h]
  · rw [if_neg h, if_pos (by omega), if_neg (by decide)]
end
end Go.Proofs.Ytbdklfcgcmdgaaa
namespace Go.Proofs.Ytbdklfcgcmdgaaa
open Go.RowKit
set_option linter.unusedVariables false
set_option linter.unusedSimpArgs false

section
variable (N : Nat) (F : FltM) (on : Nat → Nat → Bool) (own : Nat → Nat → Rw)
/-- may the faulty one spoil links of that number? -/
def KL (k : Nat) : Prop := F.link = false ∨ F.which % 4 = k
theorem oddL_true {i k : Nat} (h : oddL N F i k = true) : F.at_ % N = i ∧ KL F k := by
  unfold oddL at h
  simp only [Bool.and_eq_true, Bool.or_eq_true, decide_eq_true_eq, Bool.not_eq_true'] at h
  exact ⟨h.1.1, h.1.2⟩
/-- the track of a way is spoiled: the faulty one is a away from the source, the node d -/
def PT (a d w : Nat) : Prop := (a < d ∧ (d - a) % 2 = 0 ∧ KL F (2 * w + 1)) ∨ (d % 2 = 1 ∧ a = 0 ∧ KL F (2 * w))
def PN (a d w : Nat) : Prop := 2 ≤ d ∧ ((a = d - 1 ∧ KL F (2 * w)) ∨ (a < d - 1 ∧ (d - 1 - a) % 2 = 0 ∧ KL F (2 * w + 1)) ∨ ((d - 1) % 2 = 1 ∧ a = 0 ∧ KL F (2 * w)))
theorem copy_t {way s τ i : Nat} (hw : way < 2) (h4 : 4 ≤ N) (hs : s < N) (hi : i < N) {v : Rw} (hv : v = (own τ s).plain N) (hvp : v.plain N = v) (hP : ¬ PT F (distM N (F.at_ % N) way s) (distM N i way s) way) :
    OkV N on (trk N F on own (τ + distM N i way s) i (2 * way) s) v := by
  have hd : distM N i way s < N := by unfold distM; split <;> exact Nat.mod_lt _ (by omega)
  have := path_track N F on own (way := way) (τ := τ) hw h4 hs hv hvp (distM N i way s) hd (fun e' h1 h2 => by
    rw [Bool.eq_false_iff]
    intro ho
    obtain ⟨o1, o2⟩ := oddL_true N F ho
    have hde := dist_node (N := N) (way := way) (s := s) (e := e') hs (by omega)
    rw [← o1] at hde
    exact hP (.inl ⟨by omega, by rw [hde]; exact h2, o2⟩)) (fun h1 => by
    rw [Bool.eq_false_iff]
    intro ho
    obtain ⟨o1, o2⟩ := oddL_true N F ho
    have hde := dist_node (N := N) (way := way) (s := s) (e := 0) hs (by omega)
    rw [← o1] at hde
    exact hP (.inr ⟨h1, hde, o2⟩))
  rwa [node_dist hs hi] at this
theorem copy_n {way s τ i : Nat} (hw : way < 2) (h4 : 4 ≤ N) (hs : s < N) (hi : i < N) {v : Rw} (hv : v = (own τ s).plain N) (hvp : v.plain N = v) (hP : ¬ PN F (distM N (F.at_ % N) way s) (distM N i way s) way) :
    (2 ≤ distM N i way s → OkV N on (trk N F on own (τ + distM N i way s) i (2 * way + 1) s) v) ∧ (distM N i way s < 2 → trk N F on own (τ + distM N i way s) i (2 * way + 1) s = rw0) := by
  have hd : distM N i way s < N := by unfold distM; split <;> exact Nat.mod_lt _ (by omega)
  refine ⟨fun h2 => ?_, fun h2 => ?_⟩
  · have := path_near N F on own (way := way) (τ := τ) hw h4 hs hv hvp h2 hd (by
      rw [Bool.eq_false_iff]
      intro ho
      obtain ⟨o1, o2⟩ := oddL_true N F ho
      have hde := dist_node (N := N) (way := way) (s := s) (e := distM N i way s - 1) hs (by omega)
      rw [← o1] at hde
      exact hP ⟨h2, .inl ⟨hde, o2⟩⟩) (fun e' h1 h3 => by
      rw [Bool.eq_false_iff]
      intro ho
      obtain ⟨o1, o2⟩ := oddL_true N F ho
      have hde := dist_node (N := N) (way := way) (s := s) (e := e') hs (by omega)
      rw [← o1] at hde
      exact hP ⟨h2, .inr (.inl ⟨by omega, by rw [hde]; exact h3, o2⟩)⟩) (fun h1 => by
      rw [Bool.eq_false_iff]
      intro ho
      obtain ⟨o1, o2⟩ := oddL_true N F ho
      have hde := dist_node (N := N) (way := way) (s := s) (e := 0) hs (by omega)
      rw [← o1] at hde
      exact hP ⟨h2, .inr (.inr ⟨h1, hde, o2⟩)⟩)
    rwa [node_dist hs hi] at this
  · have := near_none N F on own (way := way) (s := s) (τ := τ) (d := distM N i way s) hw hs h4 hd (by omega)
    rwa [node_dist hs hi] at this
/-- of two copies one is not spoiled -/
theorem one_bad {s i : Nat} (h4 : 4 ≤ N) (hs : s < N) (hi : i < N) (hne : s ≠ i) (bs : F.at_ % N = s → F.link = true) (bi : F.at_ % N = i → F.link = true) :
    ∀ j k, j < k → k < 4 → ¬ ((if j = 0 then PT F (distM N (F.at_ % N) 0 s) (distM N i 0 s) 0 else if j = 1 then PN F (distM N (F.at_ % N) 0 s) (distM N i 0 s) 0 else if j = 2 then PT F (distM N (F.at_ % N) 1 s) (distM N i 1 s) 1 else PN F (distM N (F.at_ % N) 1 s) (distM N i 1 s) 1) ∧
      (if k = 0 then PT F (distM N (F.at_ % N) 0 s) (distM N i 0 s) 0 else if k = 1 then PN F (distM N (F.at_ % N) 0 s) (distM N i 0 s) 0 else if k = 2 then PT F (distM N (F.at_ % N) 1 s) (distM N i 1 s) 1 else PN F (distM N (F.at_ % N) 1 s) (distM N i 1 s) 1)) := by
  have hf : F.at_ % N < N := Nat.mod_lt _ (by omega)
  obtain ⟨e1, e2, e3⟩ := dist_sum hs hi hne
  have hA : (distM N (F.at_ % N) 0 s = 0 ∧ distM N (F.at_ % N) 1 s = 0 ∧ F.link = true) ∨ (distM N (F.at_ % N) 0 s + distM N (F.at_ % N) 1 s = N ∧ 1 ≤ distM N (F.at_ % N) 0 s ∧ 1 ≤ distM N (F.at_ % N) 1 s ∧ (distM N (F.at_ % N) 0 s = distM N i 0 s → F.link = true)) := by
    by_cases h : F.at_ % N = s
    · left
      rw [h]
      exact ⟨by unfold distM; simp, by unfold distM; simp, bs h⟩
    · right
      obtain ⟨q1, q2, q3⟩ := dist_sum hs hf (Ne.symm h)
      refine ⟨q1, q2, q3, fun hd => bi ?_⟩
      have n1 := node_dist (way := 0) hs hf
      have n2 := node_dist (way := 0) hs hi
      rw [hd, n2] at n1
      exact n1.symm
  generalize distM N (F.at_ % N) 0 s = a at *
  generalize distM N (F.at_ % N) 1 s = b at *
  generalize distM N i 0 s = d0 at *
  generalize distM N i 1 s = d1 at *
  have hK : (F.link = false) ∨ (F.link = true) := by cases F.link <;> simp
  rintro j k hjk hk ⟨h1, h2⟩
  have hj : j = 0 ∨ j = 1 ∨ j = 2 := by omega
  have hk' : k = 1 ∨ k = 2 ∨ k = 3 := by omega
  rcases hK with hl | hl
  · have hA' : a + b = N ∧ 1 ≤ a ∧ 1 ≤ b ∧ a ≠ d0 := by
      rcases hA with h | h
      · rw [hl] at h; exact absurd h.2.2 (by decide)
      · exact ⟨h.1, h.2.1, h.2.2.1, fun e => by have := h.2.2.2 e; rw [hl] at this; cases this⟩
    have hKL : ∀ k, KL F k ↔ True := fun k => ⟨fun _ => trivial, fun _ => .inl hl⟩
    simp only [PT, PN, hKL, and_true] at h1 h2
    rcases hj with rfl | rfl | rfl <;> rcases hk' with rfl | rfl | rfl <;> simp at h1 h2 hjk <;> omega
  · have hA' : (a = 0 ∧ b = 0) ∨ (a + b = N ∧ 1 ≤ a ∧ 1 ≤ b) := by
      rcases hA with h | h
      · exact .inl ⟨h.1, h.2.1⟩
      · exact .inr ⟨h.1, h.2.1, h.2.2.1⟩
    have hKL : ∀ k, KL F k ↔ F.which % 4 = k := fun k => ⟨fun h => by rcases h with h | h; rw [hl] at h; cases h; exact h, fun h => .inr h⟩
    simp only [PT, PN, hKL] at h1 h2
    rcases hj with rfl | rfl | rfl <;> rcases hk' with rfl | rfl | rfl <;> simp at h1 h2 hjk <;> omega
end
/-- the law of four copies, of which one may be anything -/
theorem cert_four {c0 c1 c2 c3 v : Rw} {B : Nat → Prop} {off : Prop} {d0 d1 : Nat} (hB : ∀ j k, j < k → k < 4 → ¬ (B j ∧ B k)) (hv0 : v.is = false → v = rw0)
    (h0 : ¬ B 0 → c0 = v ∨ (c0 = rw0 ∧ off)) (h1 : ¬ B 1 → (2 ≤ d0 → c1 = v ∨ (c1 = rw0 ∧ off)) ∧ (d0 < 2 → c1 = rw0)) (h2 : ¬ B 2 → c2 = v ∨ (c2 = rw0 ∧ off)) (h3 : ¬ B 3 → (2 ≤ d1 → c3 = v ∨ (c3 = rw0 ∧ off)) ∧ (d1 < 2 → c3 = rw0)) (hd : 4 ≤ d0 + d1) :
    certM [c0, c1, c2, c3] = v ∨ (certM [c0, c1, c2, c3] = rw0 ∧ off) := by
  have hr0 : ∀ {r : Rw}, r.is = true → r = rw0 → False := fun h e => by rw [e] at h; cases h
  have key : ∀ q, q < 4 → ¬ B q → ∀ r : Rw, [c0, c1, c2, c3][q]? = some r → r.is = true → r = v := fun q hq hb r hr his => by
    have hq' : q = 0 ∨ q = 1 ∨ q = 2 ∨ q = 3 := by omega
    rcases hq' with rfl | rfl | rfl | rfl
    · simp at hr; subst hr
      rcases h0 hb with h | h
      · exact h
      · exact (hr0 his h.1).elim
    · simp at hr; subst hr
      by_cases hd0 : 2 ≤ d0
      · rcases (h1 hb).1 hd0 with h | h
        · exact h
        · exact (hr0 his h.1).elim
      · exact (hr0 his ((h1 hb).2 (by omega))).elim
    · simp at hr; subst hr
      rcases h2 hb with h | h
      · exact h
      · exact (hr0 his h.1).elim
    · simp at hr; subst hr
      by_cases hd1 : 2 ≤ d1
      · rcases (h3 hb).1 hd1 with h | h
        · exact h
        · exact (hr0 his h.1).elim
      · exact (hr0 his ((h3 hb).2 (by omega))).elim
  have hall : ∀ r, Dup [c0, c1, c2, c3] r → r = v := fun r hr => by
    obtain ⟨his, j, k, hjk, e1, e2⟩ := hr
    have hk : k < 4 := by have := (List.getElem?_eq_some_iff.1 e2).1; simpa using this
    by_cases hb : B j
    · exact key k hk (fun h => hB j k hjk hk ⟨hb, h⟩) r e2 his
    · exact key j (by omega) hb r e1 his
  by_cases hoff : off
  · rcases certM_or [c0, c1, c2, c3] with h | h
    · exact .inr ⟨h, hoff⟩
    · exact .inl (hall _ h)
  · left
    have g0 : ¬ B 0 → c0 = v := fun h => (h0 h).resolve_right fun h => hoff h.2
    have g1 : ¬ B 1 → 2 ≤ d0 → c1 = v := fun h hd => ((h1 h).1 hd).resolve_right fun h => hoff h.2
    have g2 : ¬ B 2 → c2 = v := fun h => (h2 h).resolve_right fun h => hoff h.2
    have g3 : ¬ B 3 → 2 ≤ d1 → c3 = v := fun h hd => ((h3 h).1 hd).resolve_right fun h => hoff h.2
    cases hvi : v.is with
    | false =>
      rcases certM_or [c0, c1, c2, c3] with h | h
      · rw [h, hv0 hvi]
      · exact hall _ h
    | true =>
      have hdup : ∀ {j k : Nat}, j < k → [c0, c1, c2, c3][j]? = some v → [c0, c1, c2, c3][k]? = some v → certM [c0, c1, c2, c3] = v := fun hjk e1 e2 => certM_one ⟨hvi, _, _, hjk, e1, e2⟩ hall
      by_cases b0 : B 0
      · have x2 := g2 (fun h => hB 0 2 (by omega) (by omega) ⟨b0, h⟩)
        by_cases hd0 : 2 ≤ d0
        · have x1 := g1 (fun h => hB 0 1 (by omega) (by omega) ⟨b0, h⟩) hd0
          exact hdup (j := 1) (k := 2) (by omega) (by rw [x1]; rfl) (by rw [x2]; rfl)
        · have x3 := g3 (fun h => hB 0 3 (by omega) (by omega) ⟨b0, h⟩) (by omega)
          exact hdup (j := 2) (k := 3) (by omega) (by rw [x2]; rfl) (by rw [x3]; rfl)
      · have x0 := g0 b0
        by_cases b2 : B 2
        · by_cases hd0 : 2 ≤ d0
          · have x1 := g1 (fun h => hB 1 2 (by omega) (by omega) ⟨h, b2⟩) hd0
            exact hdup (j := 0) (k := 1) (by omega) (by rw [x0]; rfl) (by rw [x1]; rfl)
          · have x3 := g3 (fun h => hB 2 3 (by omega) (by omega) ⟨b2, h⟩) (by omega)
            exact hdup (j := 0) (k := 3) (by omega) (by rw [x0]; rfl) (by rw [x3]; rfl)
        · have x2 := g2 b2
          exact hdup (j := 0) (k := 2) (by omega) (by rw [x0]; rfl) (by rw [x2]; rfl)
section
variable (N : Nat) (F : FltM) (on : Nat → Nat → Bool) (own : Nat → Nat → Rw)
/-- what a node certifies of another one, N ticks later: neither is the faulty one -/
theorem cert_truth {s i t : Nat} (h4 : 4 ≤ N) (hs : s < N) (hi : i < N) (hne : s ≠ i) (bs : F.at_ % N = s → F.link = true) (bi : F.at_ % N = i → F.link = true) (ht : N ≤ t) (ho : (own (t - N) s).ok) :
    OkV N on (ofM N i s (fun ago => trk N F on own (t - ago) i)) ((own (t - N) s).plain N) := by
  obtain ⟨e1, e2, e3⟩ := dist_sum hs hi hne
  have hvp : ((own (t - N) s).plain N).plain N = (own (t - N) s).plain N := Rw.plain_twice ho
  unfold ofM
  rw [if_neg hne]
  dsimp only
  have q0 : t - (N - distM N i 0 s) = t - N + distM N i 0 s := by omega
  have q1 : t - (N - distM N i 1 s) = t - N + distM N i 1 s := by omega
  rw [q0, q1]
  refine cert_four (d0 := distM N i 0 s) (d1 := distM N i 1 s) (B := fun j => if j = 0 then PT F (distM N (F.at_ % N) 0 s) (distM N i 0 s) 0 else if j = 1 then PN F (distM N (F.at_ % N) 0 s) (distM N i 0 s) 0 else if j = 2 then PT F (distM N (F.at_ % N) 1 s) (distM N i 1 s) 1 else PN F (distM N (F.at_ % N) 1 s) (distM N i 1 s) 1)
    (one_bad N F h4 hs hi hne bs bi) plain_no ?_ ?_ ?_ ?_ (by omega)
  · intro h; exact copy_t N F on own (way := 0) (by omega) h4 hs hi rfl hvp h
  · intro h; exact copy_n N F on own (way := 0) (by omega) h4 hs hi rfl hvp h
  · intro h; exact copy_t N F on own (way := 1) (by omega) h4 hs hi rfl hvp h
  · intro h; exact copy_n N F on own (way := 1) (by omega) h4 hs hi rfl hvp h
/-- what a node that is on holds of a source: neither is the faulty one -/
theorem held_truth {s i t : Nat} (h4 : 4 ≤ N) (hs : s < N) (hi : i < N) (bs : F.at_ % N = s → F.link = true) (bi : F.at_ % N = i → F.link = true) (ho : ∀ t s, (own t s).ok) (hon : on t i = true) :
    ∃ r, (((rgT N F on own t).hear (on t)).held i)[s]? = some r ∧ ((∀ t i, i < N → on t i = true) → r = if N ≤ t then (own (t - N) s).plain N else rw0) ∧ (r.is = true → N ≤ t ∧ r = (own (t - N) s).plain N) := by
  refine ⟨_, by rw [held_all N F on own t i hon hi]; exact tab_at hs, ?_⟩
  have hrl := runs_le on t i
  by_cases hc : N < runs on t i
  · rw [if_pos hc]
    have ht : N ≤ t := by omega
    rw [if_pos ht]
    have key : OkV N on (ofM N i s (fun ago => trk N F on own (t - ago) i)) ((own (t - N) s).plain N) := by
      by_cases hne : s = i
      · subst hne
        left
        unfold ofM
        rw [if_pos rfl]
        show trk N F on own (t - N) s 0 s = _
        unfold trk
        rw [if_pos ⟨rfl, rfl⟩]
      · exact cert_truth N F on own h4 hs hi hne bs bi ht (ho _ _)
    refine ⟨fun hall => ?_, fun his => ⟨ht, ?_⟩⟩
    · rcases key with h | ⟨-, t', i', h1, h2⟩
      · exact h
      · rw [hall t' i' h1] at h2; cases h2
    · rcases key with h | ⟨h, -⟩
      · exact h
      · rw [h] at his; cases his
  · rw [if_neg hc]
    refine ⟨fun hall => ?_, fun his => by cases his⟩
    have hr : ∀ t, runs on t i = t + 1 := fun t => by
      induction t with
      | zero => unfold runs; rw [if_pos (hall 0 i hi)]
      | succ t ih => rw [runs, if_pos (hall _ i hi), ih]
    rw [hr] at hc
    rw [if_neg (by omega)]
end
end Go.Proofs.Ytbdklfcgcmdgaaa
