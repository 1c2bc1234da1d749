/-
  Nodes that start: those that are sure show the same; once all are on, all are sure, and count on. No program in sight. The power of a node, walked: its step. Nodes that start: where they lie in memory. sennitlaw18.NewStart. sennitlaw18's Start.Agrees, where those that are sure show the same.
-/
import Derived.Test.YtbdklfcgcmdgaaaGb50
import Derived.Test.YtbdklfcgcmdgaaaRows
import Derived.WalkKit
import Derived.WalkSpells
import Derived.WalkLawsBesides
import Derived.Outline
import Derived.Deep.QuietTactic
import Derived.BigQuiet
import Derived.Deep.Light
import Derived.Test.YtbdklfcgcmdgaaaGb38
import Derived.Test.YtbdklfcgcmdgaaaGb43
namespace Go.Proofs.Ytbdklfcgcmdgaaa
open Go.RowKit
set_option linter.unusedVariables false
set_option linter.unusedSimpArgs false

/-! ### counting -/
theorem evenN_ge {L : List Hd} {c : Int} {B : Nat} (h : ∀ (s : Nat) (x : Hd), s ≠ B → L[s]? = some x → x.is = true ∧ ageL x.c = c) : ∀ k, k ≤ L.length → k ≤ evenN (L.take k) c + (if B < k then 1 else 0)
  | 0, _ => by omega
  | k + 1, hk => by
    obtain ⟨x, hx⟩ : ∃ x, L[k]? = some x := ⟨_, List.getElem?_eq_getElem (by omega)⟩
    have ih := evenN_ge h k (by omega)
    rw [evenN_succ L c k x hx]
    by_cases hB : k = B
    · subst hB
      rw [if_neg (by omega)] at ih
      rw [if_pos (Nat.lt_succ_self k)]
      omega
    · obtain ⟨h1, h2⟩ := h k x hB hx
      have e : (if (x.is && ageL x.c == c) = true then 1 else 0 : Nat) = 1 := by rw [h1, h2]; simp
      rw [e]
      split at ih <;> split <;> omega
theorem evenN_miss {L : List Hd} {c : Int} {a b : Nat} (hab : a ≠ b) (ha : ∀ x, L[a]? = some x → ¬ (x.is = true ∧ ageL x.c = c)) (hb : ∀ x, L[b]? = some x → ¬ (x.is = true ∧ ageL x.c = c)) : ∀ k, k ≤ L.length → evenN (L.take k) c + (if a < k then 1 else 0) + (if b < k then 1 else 0) ≤ k
  | 0, _ => by simp [evenN]
  | k + 1, hk => by
    obtain ⟨x, hx⟩ : ∃ x, L[k]? = some x := ⟨_, List.getElem?_eq_getElem (by omega)⟩
    have ih := evenN_miss hab ha hb k (by omega)
    rw [evenN_succ L c k x hx]
    have h0 : ¬ (x.is = true ∧ ageL x.c = c) → (if (x.is && ageL x.c == c) = true then 1 else 0 : Nat) = 0 := fun h => if_neg (by simpa using h)
    have h1 : (if (x.is && ageL x.c == c) = true then 1 else 0 : Nat) ≤ 1 := by split <;> omega
    by_cases hka : k = a
    · have e := h0 (ha x (hka ▸ hx))
      rw [e]
      split at ih <;> split at ih <;> split <;> split <;> omega
    · by_cases hkb : k = b
      · have e := h0 (hb x (hkb ▸ hx))
        rw [e]
        split at ih <;> split at ih <;> split <;> split <;> omega
      · generalize (if (x.is && ageL x.c == c) = true then 1 else 0 : Nat) = z at h1 ⊢
        have e1 : (if a < k + 1 then 1 else 0 : Nat) = if a < k then 1 else 0 := by split <;> split <;> omega
        have e2 : (if b < k + 1 then 1 else 0 : Nat) = if b < k then 1 else 0 := by split <;> split <;> omega
        rw [e1, e2]
        omega
/-- there a vector has an age -/
def HitA (L : List Hd) (c : Int) (s : Nat) : Prop := ∃ x, L[s]? = some x ∧ x.is = true ∧ ageL x.c = c
theorem even_two {L : List Hd} {c : Int} {n : Nat} (hl : L.length = n) (he : n ≤ evenN L c + 1) {a b : Nat} (hab : a ≠ b) (ha : a < n) (hb : b < n) : HitA L c a ∨ HitA L c b := by
  by_cases h1 : HitA L c a
  · exact .inl h1
  · by_cases h2 : HitA L c b
    · exact .inr h2
    · have := evenN_miss hab (fun x hx h => h1 ⟨x, hx, h⟩) (fun x hx h => h2 ⟨x, hx, h⟩) L.length (Nat.le_refl _)
      rw [List.take_length, if_pos (by omega), if_pos (by omega)] at this
      omega
theorem even_parts {n : Nat} {L : List Hd} {c : Int} (hl : L.length = n) (h : evenF n L c = true) : 0 ≤ c ∧ c ≤ 1099511627776 ∧ n ≤ evenN L c + 1 := by
  unfold evenF at h
  simp only [Bool.and_eq_true, decide_eq_true_eq] at h
  obtain ⟨⟨⟨⟨h1, h2⟩, h3⟩, h4⟩, h5⟩ := h
  rw [Int.toNat_natCast, ← hl, List.take_length] at h5
  exact ⟨h3, h4, by omega⟩
/-- two even vectors that differ at one place have one age -/
theorem com_same {n B : Nat} (h4 : 4 ≤ n) {L L' : List Hd} (hl : L.length = n) (hl' : L'.length = n) {c c' : Int} (h : evenF n L c = true) (h' : evenF n L' c' = true)
    (he : ∀ (s : Nat) (x y : Hd), s < n → s ≠ B → L[s]? = some x → L'[s]? = some y → x.is = true → y.is = true → ageL x.c = ageL y.c) : c = c' := by
  obtain ⟨-, -, e⟩ := even_parts hl h
  obtain ⟨-, -, e'⟩ := even_parts hl' h'
  have key : ∀ s, s < n → s ≠ B → HitA L c s → HitA L' c' s → c = c' := fun s h1 h2 ⟨x, hx, hxi, hxc⟩ ⟨y, hy, hyi, hyc⟩ => by
    have := he s x y h1 h2 hx hy hxi hyi
    omega
  obtain ⟨p, q, r, hpq, hqr, hr, hp', hq', hr'⟩ : ∃ p q r : Nat, p < q ∧ q < r ∧ r < 4 ∧ p ≠ B ∧ q ≠ B ∧ r ≠ B := by
    by_cases h0 : B = 0
    · exact ⟨1, 2, 3, by omega, by omega, by omega, by omega, by omega, by omega⟩
    · by_cases h1 : B = 1
      · exact ⟨0, 2, 3, by omega, by omega, by omega, by omega, by omega, by omega⟩
      · by_cases h2 : B = 2
        · exact ⟨0, 1, 3, by omega, by omega, by omega, by omega, by omega, by omega⟩
        · exact ⟨0, 1, 2, by omega, by omega, by omega, by omega, by omega, by omega⟩
  have a1 := even_two hl e (a := p) (b := q) (by omega) (by omega) (by omega)
  have a2 := even_two hl e (a := p) (b := r) (by omega) (by omega) (by omega)
  have a3 := even_two hl e (a := q) (b := r) (by omega) (by omega) (by omega)
  have b1 := even_two hl' e' (a := p) (b := q) (by omega) (by omega) (by omega)
  have b2 := even_two hl' e' (a := p) (b := r) (by omega) (by omega) (by omega)
  have b3 := even_two hl' e' (a := q) (b := r) (by omega) (by omega) (by omega)
  have kp := key p (by omega) hp'
  have kq := key q (by omega) hq'
  have kr := key r (by omega) hr'
  by_cases x1 : HitA L c p <;> by_cases x2 : HitA L c q <;> by_cases x3 : HitA L c r <;> by_cases y1 : HitA L' c' p <;> by_cases y2 : HitA L' c' q <;> by_cases y3 : HitA L' c' r <;> simp_all
/-! ### the middle age -/
theorem most_ex (G : List Int) : ∃ v, MostAP G v := by
  induction G with
  | nil => exact ⟨-1, .inl ⟨rfl, rfl⟩⟩
  | cons a G ih =>
    obtain ⟨v, ⟨rfl, rfl⟩ | ⟨h1, h2⟩⟩ := ih
    · exact ⟨a, .inr ⟨by simp, by simp⟩⟩
    · by_cases h : a ≤ v
      · exact ⟨v, .inr ⟨by simp [h1], fun x hx => by rcases List.mem_cons.1 hx with rfl | hx; exact h; exact h2 x hx⟩⟩
      · exact ⟨a, .inr ⟨by simp, fun x hx => by rcases List.mem_cons.1 hx with rfl | hx; exact Int.le_refl _; have := h2 x hx; omega⟩⟩
theorem least_ex (G : List Int) : ∃ v, LeastP G v := by
  induction G with
  | nil => exact ⟨-1, .inl ⟨rfl, rfl⟩⟩
  | cons a G ih =>
    obtain ⟨v, ⟨rfl, rfl⟩ | ⟨h1, h2⟩⟩ := ih
    · exact ⟨a, .inr ⟨by simp, by simp⟩⟩
    · by_cases h : v ≤ a
      · exact ⟨v, .inr ⟨by simp [h1], fun x hx => by rcases List.mem_cons.1 hx with rfl | hx; exact h; exact h2 x hx⟩⟩
      · exact ⟨a, .inr ⟨by simp, fun x hx => by rcases List.mem_cons.1 hx with rfl | hx; exact Int.le_refl _; have := h2 x hx; omega⟩⟩
theorem goodL_mem {bad : Nat} {L : List Hd} : ∀ (k : Nat) (x : Int), k ≤ L.length → x ∈ goodL bad L k → ∃ s h, s < k ∧ s ≠ bad ∧ L[s]? = some h ∧ okAge h = true ∧ x = ageL h.c
  | 0, x, _, h => by cases h
  | k + 1, x, hk, h => by
    obtain ⟨y, hy⟩ : ∃ y, L[k]? = some y := ⟨_, List.getElem?_eq_getElem (by omega)⟩
    rw [goodL_succ hy] at h
    rcases List.mem_append.1 h with h | h
    · obtain ⟨s, z, h1, h2⟩ := goodL_mem k x (by omega) h
      exact ⟨s, z, by omega, h2⟩
    · split at h
      · cases h
      · rename_i hb
        unfold oneAge at h
        split at h
        · rename_i ho
          exact ⟨k, y, by omega, hb, hy, ho, by simpa using h⟩
        · cases h
theorem goodL_full {bad : Nat} {L : List Hd} : ∀ k, k ≤ L.length → (∀ (s : Nat) (h : Hd), s < k → s ≠ bad → L[s]? = some h → okAge h = true) → (goodL bad L k).length = if bad < k then k - 1 else k
  | 0, _, _ => by simp [goodL]
  | k + 1, hk, h => by
    obtain ⟨y, hy⟩ : ∃ y, L[k]? = some y := ⟨_, List.getElem?_eq_getElem (by omega)⟩
    have ih := goodL_full k (by omega) fun s z h1 => h s z (by omega)
    rw [goodL_succ hy, List.length_append, ih]
    by_cases hb : k = bad
    · rw [if_pos hb]
      simp only [List.length_nil]
      split <;> split <;> omega
    · rw [if_neg hb]
      have := h k y (by omega) hb hy
      unfold oneAge
      rw [if_pos this]
      simp only [List.length_cons, List.length_nil]
      split <;> split <;> omega

/-! ### the ring's nodes -/
section
variable {N : Nat} {F : FltM} {boot : Nat → Int} {on : Nat → Nat → Bool} {cell : Nat → Nat → List Value}
variable (hF : ∀ a ∈ F.acts, a.row.ok) (hc : ∀ t i, okL cellK (cell t i) = true) (hb : ∀ i, 0 ≤ boot i) (h4 : 4 ≤ N) (h16 : N ≤ 16)
theorem ag_len (h4 : 4 ≤ N) (h16 : N ≤ 16) (t i : Nat) : (agT N F boot on cell t i).length = N := agreeL_len N h4 h16 _
theorem not_bd {s : Nat} (h : s ≠ F.at_ % N) : ¬ Bd N F s := fun hb => h hb.1.symm
theorem cold_le (hb : ∀ i, 0 ≤ boot i) (t i : Nat) : coldM (pwT N F boot on cell t i) ≤ t + 1 := by
  have h := (pw_inv (N := N) (F := F) (on := on) (cell := cell) hb (t + 1) i).2.2.2.2.1
  rw [ndT_succ, ((ndT N F boot on cell t i).step_s N (boot i) (on t i) (agT N F boot on cell t i)).2.2] at h
  unfold coldM pwT
  split
  · push_cast at h; exact h
  · omega
include hF hc h4 h16
theorem ag_at {t i s : Nat} (hi : i < N) (hs : s < N) (bi : ¬ Bd N F i) (bs : ¬ Bd N F s) (ho : on t i = true) {x : Hd} (hx : (agT N F boot on cell t i)[s]? = some x) (his : x.is = true) :
    2 * N ≤ t ∧ sayT N F boot on cell (t - 2 * N) s = true ∧ ageL x.c = ageT N F boot on cell (t - 2 * N) s := by
  obtain ⟨y, hy, -, h2⟩ := agree_rightO (bt_say (boot := boot) (on := on) hF hc) h4 h16 hi hs bi bs ho
  have : (agT N F boot on cell t i)[s]? = some y := hy
  rw [hx] at this
  cases this
  obtain ⟨h3, h5, h6⟩ := h2 his
  refine ⟨h3, h5, ?_⟩
  rw [h6]
  exact age_nrm (hc _ _) (ageT_range N F boot on cell _ _).1 (ageT_range N F boot on cell _ _).2
include hb
theorem age_com : ∀ t i : Nat, i < N → ¬ Bd N F i → on t i = true → ageT N F boot on cell t i ≤ t + 1 ∧ (0 ≤ comT N F boot on cell t i → comT N F boot on cell t i + 2 * N ≤ t + 1) := by
  intro t
  induction t using Nat.strongRecOn with
  | _ t ih =>
    intro i hi bi ho
    have hl := ag_len (F := F) (boot := boot) (on := on) (cell := cell) h4 h16 t i
    obtain ⟨least, hle⟩ := least_ex (goodL (F.at_ % N) (agT N F boot on cell t i) N)
    obtain ⟨most, hmo⟩ := most_ex (goodL (F.at_ % N) (agT N F boot on cell t i) N)
    have hm := (middle h4 h16 hl (F.at_ % N) hle hmo).1
    have h2 : 0 ≤ comT N F boot on cell t i → comT N F boot on cell t i + 2 * N ≤ t + 1 := fun h0 => by
      obtain ⟨k1, k2, k3⟩ := hm h0
      rcases hmo with ⟨he, -⟩ | ⟨hmem, -⟩
      · rw [he] at k1; simp at k1; omega
      · obtain ⟨s, x, hs, hsb, hx, hok, rfl⟩ := goodL_mem N most (by omega) hmem
        unfold okAge at hok
        simp only [Bool.and_eq_true] at hok
        obtain ⟨q1, q2, q3⟩ := ag_at hF hc h4 h16 hi hs bi (not_bd hsb) ho hx hok.1
        have q4 : on (t - 2 * N) s = true := by unfold sayT at q2; simp at q2; exact q2.1
        have := (ih (t - 2 * N) (by omega) s hs (not_bd hsb) q4).1
        rw [← q3] at this
        have k3' : comT N F boot on cell t i ≤ ageL x.c := k3
        omega
    refine ⟨?_, h2⟩
    have hcl := cold_le (N := N) (F := F) (on := on) (cell := cell) hb t i
    rw [ageT_eq]
    unfold ownF
    by_cases hoc : okI (comT N F boot on cell t i) = true
    · rw [if_pos hoc]
      unfold okI at hoc
      simp only [Bool.and_eq_true, decide_eq_true_eq] at hoc
      have := h2 hoc.1
      split <;> omega
    · rw [if_neg hoc]
      split <;> omega
theorem age_of {t i : Nat} (ht : t ≤ 1000000) (hi : i < N) (bi : ¬ Bd N F i) (ho : on t i = true) (h0 : 0 ≤ comT N F boot on cell t i) : ageT N F boot on cell t i = comT N F boot on cell t i + 2 * N := by
  have h2 := (age_com hF hc hb h4 h16 t i hi bi ho).2 h0
  rw [ageT_eq]
  unfold ownF
  have hoc : okI (comT N F boot on cell t i) = true := by simp [okI]; omega
  rw [if_pos hoc, if_pos (by simp [okI]; omega)]
/-- those that are sure show the same -/
theorem one_same {t i j : Nat} (ht : t ≤ 1000000) (hi : i < N) (hj : j < N) (bi : ¬ Bd N F i) (bj : ¬ Bd N F j) (si : (ndT N F boot on cell (t + 1) i).sure = true) (sj : (ndT N F boot on cell (t + 1) j).sure = true) :
    (ndT N F boot on cell (t + 1) i).shows = (ndT N F boot on cell (t + 1) j).shows ∧ 0 ≤ (ndT N F boot on cell (t + 1) i).shows := by
  obtain ⟨oi, li⟩ := (sure_iff t i).1 si
  obtain ⟨oj, lj⟩ := (sure_iff t j).1 sj
  obtain ⟨ht2, ri⟩ := long_run (t + 1) (2 * N) (by rw [li]; push_cast; omega)
  obtain ⟨-, rj⟩ := long_run (t + 1) (2 * N) (by rw [lj]; push_cast; omega)
  have fi := ck_full (F := F) (boot := boot) (cell := cell) (i := i) (t := t + 1) ht2 fun d hd => (ri d hd).1
  have fj := ck_full (F := F) (boot := boot) (cell := cell) (i := j) (t := t + 1) ht2 fun d hd => (rj d hd).1
  have each : ∀ d, d < 2 * N → comT N F boot on cell (t - d) i = comT N F boot on cell (t - d) j ∧ 0 ≤ comT N F boot on cell (t - d) i ∧ ageT N F boot on cell (t - d) i = comT N F boot on cell (t - d) i + 2 * N ∧ ageT N F boot on cell (t - d) j = comT N F boot on cell (t - d) i + 2 * N ∧ ageT N F boot on cell (t - d) i ≤ t + 1 := fun d hd => by
    obtain ⟨o1, e1⟩ := ri d hd
    obtain ⟨o2, e2⟩ := rj d hd
    rw [show t + 1 - 1 - d = t - d from by omega] at o1 o2 e1 e2
    have hla := ag_len (F := F) (boot := boot) (on := on) (cell := cell) h4 h16 (t - d) i
    have hlb := ag_len (F := F) (boot := boot) (on := on) (cell := cell) h4 h16 (t - d) j
    have hce := com_same (B := F.at_ % N) h4 hla hlb e1 e2 fun s x y hs hsb hx hy hxi hyi => by
      rw [(ag_at hF hc h4 h16 hi hs bi (not_bd hsb) o1 hx hxi).2.2, (ag_at hF hc h4 h16 hj hs bj (not_bd hsb) o2 hy hyi).2.2]
    have h0 := (even_parts hla e1).1
    have g1 := age_of hF hc hb h4 h16 (t := t - d) (by omega) hi bi o1 h0
    have g2 := age_of hF hc hb h4 h16 (t := t - d) (by omega) hj bj o2 (by rw [← hce]; exact h0)
    have g3 := (age_com hF hc hb h4 h16 (t - d) i hi bi o1).1
    exact ⟨hce, h0, g1, by rw [g2, hce], by omega⟩
  have hck : (ndT N F boot on cell (t + 1) i).ck = (ndT N F boot on cell (t + 1) j).ck := by
    rw [fi, fj]
    refine List.map_congr_left fun k hk => ?_
    have hk' := List.mem_range.1 hk
    obtain ⟨-, -, g1, g2, -⟩ := each (2 * N - 1 - k) (by omega)
    rw [show t + 1 - 2 * N + k = t - (2 * N - 1 - k) from by omega, g1, g2]
  refine ⟨by rw [shows_on oi, shows_on oj, hck], ?_⟩
  rw [shows_on oi, fi]
  obtain ⟨-, h0, g1, -, -⟩ := each 0 (by omega)
  have hlast : (List.range (2 * N)).map (fun k => ageT N F boot on cell (t + 1 - 2 * N + k) i) = (List.range (2 * N - 1)).map (fun k => ageT N F boot on cell (t + 1 - 2 * N + k) i) ++ [ageT N F boot on cell (t - 0) i] := by
    conv => lhs; rw [show 2 * N = (2 * N - 1) + 1 from by omega, List.range_succ, List.map_append]
    simp only [List.map_cons, List.map_nil]
    congr 2
    · funext k; congr 1; omega
    · congr 1; omega
  have hge := bestW_newest (W := (List.range (2 * N - 1)).map (fun k => ageT N F boot on cell (t + 1 - 2 * N + k) i)) (b := ageT N F boot on cell (t - 0) i) (by omega)
  rw [← hlast] at hge
  have hle := bestW_le (W := (List.range (2 * N)).map (fun k => ageT N F boot on cell (t + 1 - 2 * N + k) i)) (B := (t : Int) + 1) (fun a ha => by
    obtain ⟨k, hk, rfl⟩ := List.mem_map.1 ha
    have hk' := List.mem_range.1 hk
    have := (each (2 * N - 1 - k) (by omega)).2.2.2.2
    rwa [show t - (2 * N - 1 - k) = t + 1 - 2 * N + k from by omega] at this) (by omega)
  rw [List.length_map, List.length_range] at hle
  unfold showF
  rw [if_pos (by push_cast at hle; omega)]
  omega
/-! ### once all are on -/
theorem age_say {t i : Nat} (ht : t ≤ 1000000) (hi : i < N) (bi : ¬ Bd N F i) (hs : sayT N F boot on cell t i = true) : 0 ≤ ageT N F boot on cell t i := by
  have hs' := hs
  unfold sayT at hs'
  simp at hs'
  obtain ⟨ho, h2⟩ := hs'
  by_cases h0 : okI (comT N F boot on cell t i) = true
  · unfold okI at h0
    simp only [Bool.and_eq_true, decide_eq_true_eq] at h0
    have := age_of hF hc hb h4 h16 ht hi bi ho h0.1
    omega
  · have hp := (pw_inv (N := N) (F := F) (on := on) (cell := cell) hb (t + 1) i).2.2.2
    rw [ndT_succ, ((ndT N F boot on cell t i).step_s N (boot i) (on t i) (agT N F boot on cell t i)).2.2] at hp
    rw [ageT_eq]
    unfold ownF
    rw [if_neg h0]
    have e : coldM (pwT N F boot on cell t i) = (pwM (boot i) (ndT N F boot on cell t i) (on t i)).2.2 := by
      unfold coldM
      rw [if_pos h2]; rfl
    rw [e, if_pos (by unfold okI; simp; omega)]
    omega
variable {T : Nat} (hall : ∀ t i, i < N → T ≤ t → on t i = true) (hsy : ∀ t k, k < N → ¬ Bd N F k → T ≤ t → sayT N F boot on cell t k = true)
include hall hsy
theorem full_at {t i s : Nat} (ht : T + 2 * N ≤ t) (hi : i < N) (hs : s < N) (bi : ¬ Bd N F i) (bs : ¬ Bd N F s) : ∃ x, (agT N F boot on cell t i)[s]? = some x ∧ x.is = true ∧ ageL x.c = ageT N F boot on cell (t - 2 * N) s := by
  have _ := hb
  obtain ⟨y, hy, h1, -⟩ := agree_rightO (bt_say (boot := boot) (on := on) hF hc) h4 h16 hi hs bi bs (hall t i hi (by omega))
  have h6 := h1 T ht hall hsy
  refine ⟨y, hy, by rw [h6], ?_⟩
  rw [h6]
  exact age_nrm (hc _ _) (ageT_range N F boot on cell _ _).1 (ageT_range N F boot on cell _ _).2
theorem com_ok {t i : Nat} (ht : T + 2 * N ≤ t) (ht2 : t ≤ 1000000) (hi : i < N) (bi : ¬ Bd N F i) : 0 ≤ comT N F boot on cell t i ∧
    (∀ a, (∀ s, s < N → ¬ Bd N F s → ageT N F boot on cell (t - 2 * N) s = a) → comT N F boot on cell t i = a ∧ evenF N (agT N F boot on cell t i) (comT N F boot on cell t i) = true) := by
  have hl := ag_len (F := F) (boot := boot) (on := on) (cell := cell) h4 h16 t i
  have hat : F.at_ % N < N := Nat.mod_lt _ (by omega)
  obtain ⟨least, hle⟩ := least_ex (goodL (F.at_ % N) (agT N F boot on cell t i) N)
  obtain ⟨most, hmo⟩ := most_ex (goodL (F.at_ % N) (agT N F boot on cell t i) N)
  have hm := (middle h4 h16 hl (F.at_ % N) hle hmo).2
  have hfl := goodL_full (bad := F.at_ % N) (L := agT N F boot on cell t i) N (by omega) fun s x hs hsb hx => by
    obtain ⟨y, hy, hyi, hya⟩ := full_at hF hc hb h4 h16 hall hsy ht hi hs bi (not_bd hsb)
    rw [hx] at hy
    cases hy
    have h0 := age_say hF hc hb h4 h16 (t := t - 2 * N) (by omega) hs (not_bd hsb) (hsy _ _ hs (not_bd hsb) (by omega))
    have h1 := (ageT_range N F boot on cell (t - 2 * N) s).2
    unfold okAge okI
    rw [hyi, hya]
    simp
    omega
  rw [if_pos hat] at hfl
  obtain ⟨k1, k2⟩ := hm hfl
  refine ⟨k1, fun a ha => ?_⟩
  have hmem : ∀ x ∈ goodL (F.at_ % N) (agT N F boot on cell t i) N, x = a := fun x hx => by
    obtain ⟨s, y, hs, hsb, hy, -, rfl⟩ := goodL_mem N x (by omega) hx
    obtain ⟨z, hz, -, hza⟩ := full_at hF hc hb h4 h16 hall hsy ht hi hs bi (not_bd hsb)
    rw [hy] at hz
    cases hz
    rw [hza, ha s hs (not_bd hsb)]
  have hne : ∀ v, (goodL (F.at_ % N) (agT N F boot on cell t i) N = [] ∧ v = (-1 : Int)) → False := fun v h => by
    rw [h.1] at hfl; simp at hfl; omega
  have e1 : least = a := by
    rcases hle with h | ⟨h, -⟩
    · exact (hne _ h).elim
    · exact hmem _ h
  have e2 : most = a := by
    rcases hmo with h | ⟨h, -⟩
    · exact (hne _ h).elim
    · exact hmem _ h
  have e3 : comT N F boot on cell t i = a := (k2 (by rw [e1, e2])).trans e1
  refine ⟨e3, ?_⟩
  have hcnt := evenN_ge (L := agT N F boot on cell t i) (c := a) (B := F.at_ % N) (fun s x hsb hx => by
    have hs : s < N := by rw [← hl]; exact (List.getElem?_eq_some_iff.1 hx).1
    obtain ⟨z, hz, hzi, hza⟩ := full_at hF hc hb h4 h16 hall hsy ht hi hs bi (not_bd hsb)
    rw [hx] at hz
    cases hz
    exact ⟨hzi, by rw [hza, ha s hs (not_bd hsb)]⟩) N (by omega)
  rw [if_pos hat] at hcnt
  have hr := commonF_range (N : Int) (agT N F boot on cell t i)
  have hr2 : comT N F boot on cell t i ≤ 1099511627776 := hr.2
  unfold evenF
  simp only [Bool.and_eq_true, decide_eq_true_eq, Int.toNat_natCast]
  rw [← e3] at hcnt
  exact ⟨⟨⟨⟨by omega, by omega⟩, k1⟩, hr2⟩, by omega⟩
theorem age_all {t i j : Nat} (ht : T + 2 * N ≤ t) (ht2 : t ≤ 1000000) (hi : i < N) (hj : j < N) (bi : ¬ Bd N F i) (bj : ¬ Bd N F j) : ageT N F boot on cell t i = ageT N F boot on cell t j := by
  have c1 := (com_ok hF hc hb h4 h16 hall hsy ht ht2 hi bi).1
  have c2 := (com_ok hF hc hb h4 h16 hall hsy ht ht2 hj bj).1
  rw [age_of hF hc hb h4 h16 ht2 hi bi (hall t i hi (by omega)) c1, age_of hF hc hb h4 h16 ht2 hj bj (hall t j hj (by omega)) c2]
  have e : agT N F boot on cell t i = agT N F boot on cell t j := agree_sameO (bt_say (boot := boot) (on := on) hF hc) h4 h16 hall hsy ht hi hj bi bj
  unfold comT
  rw [e]
theorem late {t i : Nat} (ht : T + 4 * N ≤ t) (ht2 : t ≤ 1000000) (hi : i < N) (bi : ¬ Bd N F i) : ageT N F boot on cell t i = ageT N F boot on cell (t - 2 * N) i + 2 * N ∧ evenF N (agT N F boot on cell t i) (comT N F boot on cell t i) = true := by
  obtain ⟨c0, h⟩ := com_ok hF hc hb h4 h16 hall hsy (t := t) (by omega) ht2 hi bi
  obtain ⟨h1, h2⟩ := h (ageT N F boot on cell (t - 2 * N) i) fun s hs bs => age_all hF hc hb h4 h16 hall hsy (by omega) (by omega) hs hi bs bi
  exact ⟨by rw [age_of hF hc hb h4 h16 ht2 hi bi (hall t i hi (by omega)) c0, h1], h2⟩
/-- all are sure -/
theorem sure_late {t i : Nat} (ht : T + 6 * N ≤ t) (ht2 : t ≤ 1000000) (hi : i < N) (bi : ¬ Bd N F i) : (ndT N F boot on cell (t + 1) i).sure = true := by
  rw [sure_iff]
  refine ⟨hall t i hi (by omega), ?_⟩
  have h1 := long_le (N := N) (F := F) (boot := boot) (on := on) (cell := cell) (t + 1) i
  have key : ∀ k : Nat, k ≤ 2 * N → (k : Int) ≤ (ndT N F boot on cell (t + 1 - 2 * N + k) i).long := fun k => by
    induction k with
    | zero => exact fun _ => long_ge0 _ _
    | succ k ih =>
      intro hk
      have h3 := ih (by omega)
      have h5 := (late hF hc hb h4 h16 hall hsy (t := t + 1 - 2 * N + k) (by omega) (by omega) hi bi).2
      have h6 := hall (t + 1 - 2 * N + k) i hi (by omega)
      exact long_step h6 h5 h3 hk
  have := key (2 * N) (Nat.le_refl _)
  rw [show t + 1 - 2 * N + 2 * N = t + 1 from by omega] at this
  push_cast at this
  omega
/-- and count on -/
theorem shows_late {t i : Nat} (ht : T + 6 * N ≤ t) (ht2 : t ≤ 100000) (hi : i < N) (bi : ¬ Bd N F i) : (ndT N F boot on cell (t + 1 + 1) i).shows = (ndT N F boot on cell (t + 1) i).shows + 1 := by
  have o1 := hall t i hi (by omega)
  have o2 := hall (t + 1) i hi (by omega)
  have f1 := ck_full (N := N) (F := F) (boot := boot) (cell := cell) (i := i) (t := t + 1) (by omega) fun d hd => hall _ i hi (by omega)
  have f2 := ck_full (N := N) (F := F) (boot := boot) (cell := cell) (i := i) (t := t + 1 + 1) (by omega) fun d hd => hall _ i hi (by omega)
  rw [shows_on o1, shows_on o2, f1, f2]
  have hpos : ∀ k, T ≤ k → k ≤ 1000000 → 0 ≤ ageT N F boot on cell k i := fun k h1 h2 => age_say hF hc hb h4 h16 h2 hi bi (hsy k i hi bi h1)
  have hle : ∀ k, T ≤ k → k ≤ 1000000 → ageT N F boot on cell k i ≤ k + 1 := fun k h1 h2 => (age_com hF hc hb h4 h16 k i hi bi (hall k i hi h1)).1
  have hrec := (late hF hc hb h4 h16 hall hsy (t := t + 1) (by omega) (by omega) hi bi).1
  obtain ⟨m, hm⟩ : ∃ m, 2 * N = m + 1 := ⟨2 * N - 1, by omega⟩
  have e1 : (List.range (2 * N)).map (fun k => ageT N F boot on cell (t + 1 - 2 * N + k) i) = ageT N F boot on cell (t + 1 - 2 * N) i :: (List.range m).map (fun k => ageT N F boot on cell (t + 1 - 2 * N + 1 + k) i) := by
    rw [hm, List.range_succ_eq_map, List.map_cons, List.map_map]
    congr 1
    refine List.map_congr_left fun k hk => ?_
    show ageT N F boot on cell (t + 1 - (m + 1) + (k + 1)) i = _
    congr 1; omega
  have e2 : (List.range (2 * N)).map (fun k => ageT N F boot on cell (t + 1 + 1 - 2 * N + k) i) = (List.range m).map (fun k => ageT N F boot on cell (t + 1 - 2 * N + 1 + k) i) ++ [ageT N F boot on cell (t + 1) i] := by
    rw [hm, List.range_succ, List.map_append]
    congr 1
    · refine List.map_congr_left fun k hk => ?_
      congr 1; omega
    · simp only [List.map_cons, List.map_nil]
      congr 2; omega
  rw [e1, e2]
  have hW : ((List.range m).map (fun k => ageT N F boot on cell (t + 1 - 2 * N + 1 + k) i)).length = m := by simp
  have hb1 := bestW_turn (ageT N F boot on cell (t + 1 - 2 * N) i) ((List.range m).map (fun k => ageT N F boot on cell (t + 1 - 2 * N + 1 + k) i)) (hpos _ (by omega) (by omega)) (fun x hx => by
    obtain ⟨k, hk, rfl⟩ := List.mem_map.1 hx
    have hk' := List.mem_range.1 hk
    exact hpos _ (by omega) (by omega)) (fun h => by rw [h] at hW; simp at hW; omega)
  rw [hW] at hb1
  have e3 : ageT N F boot on cell (t + 1) i = ageT N F boot on cell (t + 1 - 2 * N) i + (m : Int) + 1 := by rw [hrec]; omega
  rw [← e3] at hb1
  have hB := bestW_le (W := ageT N F boot on cell (t + 1 - 2 * N) i :: (List.range m).map (fun k => ageT N F boot on cell (t + 1 - 2 * N + 1 + k) i)) (B := (t : Int) + 2) (fun a ha => by
    rcases List.mem_cons.1 ha with rfl | ha
    · have := hle (t + 1 - 2 * N) (by omega) (by omega); omega
    · obtain ⟨k, hk, rfl⟩ := List.mem_map.1 ha
      have hk' := List.mem_range.1 hk
      have := hle (t + 1 - 2 * N + 1 + k) (by omega) (by omega); omega) (by omega)
  rw [List.length_cons, hW] at hB
  have hms : (m : Int) ≤ 31 := by omega
  unfold showF
  rw [hb1, if_pos (by push_cast at hB; omega), if_pos (by push_cast at hB; omega)]
end
end Go.Proofs.Ytbdklfcgcmdgaaa
namespace Go.Proofs.Ytbdklfcgcmdgaaa
open Go.RowKit
set_option linter.unusedVariables false
set_option linter.unusedSimpArgs false


def StepPost (g : Nat) (boot s left cold : Int) (p : Bool) (e : Ending) (w w' : World) : Prop :=
  ∃ s' l' c', (s', l', c') = (if p then pwOn boot s left cold else (0, left, cold)) ∧
    e = .returned (.tuple #[.int .u8 s', .int .i64 (if s' = 2 then c' else -1)]) ∧ Blk w' g 196 (pwCells boot s' l' c') ∧ Chg (· = g) w w'

theorem pwOn_s (boot s left cold : Int) : (pwOn boot s left cold).1 = 1 ∨ (pwOn boot s left cold).1 = 2 := by
  unfold pwOn; repeat' split
  all_goals simp

set_option maxHeartbeats 400000 in
theorem step_off (g : Nat) (boot s left cold : Int) (w : World)
    (hg : Blk w g 196 (pwCells boot s left cold)) :
    Calls Try.prog 71 #[.pointer (some ⟨g, 0, none⟩), .bool false] w fun e w' => StepPost g boot s left cold false e w w' := by
  have hc0 : w.cell? ⟨g, 0, none⟩ = some (.bool true) := hg.cell 0
  have hc2 : w.cell? ⟨g, 2, none⟩ = some (.int .u8 s) := hg.cell 2
  have hf : ∀ i, w.frozen? ⟨g, i, none⟩ = false := hg.frozen
  have HG := Lib.hid hg
  clear hg
  go_enter Try.func71, Try.ntmps71
  go_wp2
  go_ret2
  go_light
  exact ⟨0, left, cold, rfl, rfl, HG.out.set_ 2 (.int .u8 0), (Chg.refl _ _).set_at _ _⟩

set_option maxHeartbeats 400000 in
theorem step_on (g : Nat) (boot s left cold : Int) (w : World) (hs : s = 0 ∨ s = 1 ∨ s = 2) (hb0 : 0 ≤ boot) (hb1 : boot ≤ 4096) (hl0 : 0 ≤ left) (hl1 : left ≤ 4096)
    (h0 : -1 ≤ cold) (h1 : cold ≤ 1099511627776) (hg : Blk w g 196 (pwCells boot s left cold)) :
    Calls Try.prog 71 #[.pointer (some ⟨g, 0, none⟩), .bool true] w fun e w' => StepPost g boot s left cold true e w w' := by
  have hc0 : w.cell? ⟨g, 0, none⟩ = some (.bool true) := hg.cell 0
  have h12 := pwOn_s boot s left cold
  obtain ⟨s', l', c', hp⟩ : ∃ s' l' c', pwOn boot s left cold = (s', l', c') := ⟨_, _, _, rfl⟩
  have hon := on_any g boot s left cold w hs hb0 hb1 hl0 hl1 h0 h1 hg
  unfold OnPost at hon
  rw [hp] at hon h12
  have H := Lib.hid hon
  have HP := Lib.hid hp
  clear hon hp hg hs
  dsimp only at h12
  rcases h12 with rfl | rfl
  · go_enter Try.func71, Try.ntmps71
    go_wp2_with fail
    refine H.out.mono ?_
    rintro e w' ⟨rfl, hb, hc⟩
    have hd2 : w'.cell? ⟨g, 2, none⟩ = some (.int .u8 1) := hb.cell 2
    have HB := Lib.hid hb
    clear hb
    go_wp2
    go_ret2
    go_light
    exact ⟨1, l', c', HP.out.symm, rfl, HB.out, hc⟩
  · go_enter Try.func71, Try.ntmps71
    go_wp2_with fail
    refine H.out.mono ?_
    rintro e w' ⟨rfl, hb, hc⟩
    have hd2 : w'.cell? ⟨g, 2, none⟩ = some (.int .u8 2) := hb.cell 2
    have hd4 : w'.cell? ⟨g, 4, none⟩ = some (.int .i64 c') := hb.cell 4
    have HB := Lib.hid hb
    clear hb
    go_wp2
    go_quiet (fail)
    go_wp2
    go_ret2
    go_light
    exact ⟨2, l', c', HP.out.symm, rfl, HB.out, hc.drewN _⟩

/-- of a power that is not there, or that no call made: it is off -/
theorem step_nil (p : Bool) (w : World) :
    Calls Try.prog 71 #[.pointer none, .bool p] w fun e w' => e = .returned (.tuple #[.int .u8 0, .int .i64 (-1)]) ∧ w' = w := by
  go_enter Try.func71, Try.ntmps71
  go_wp2
  go_ret2
  exact ⟨rfl, rfl⟩

theorem step_unmade (g : Nat) (p : Bool) (w : World) (hc0 : w.cell? ⟨g, 0, none⟩ = some (.bool false)) :
    Calls Try.prog 71 #[.pointer (some ⟨g, 0, none⟩), .bool p] w fun e w' => e = .returned (.tuple #[.int .u8 0, .int .i64 (-1)]) ∧ w' = w := by
  go_enter Try.func71, Try.ntmps71
  go_wp2
  go_ret2
  exact ⟨rfl, rfl⟩

theorem pwnew_ok (boot : Int) (w : World) (h0 : 0 ≤ boot) (h1 : boot ≤ 4096) :
    Calls Try.prog 70 #[.int .i64 boot] w fun e w' => e = .returned (.tuple #[.pointer (some ⟨w.heap.size, 0, none⟩), .int .i64 0]) ∧ w' = w.alloc (.cells (pwCells boot 0 0 0) 196) := by
  go_enter Try.func70, Try.ntmps70
  go_wp2
  go_ret2
  exact ⟨rfl, rfl⟩

theorem pwnew_bad (boot : Int) (w : World) (h : boot < 0 ∨ 4096 < boot) :
    Calls Try.prog 70 #[.int .i64 boot] w fun e w' => e = .returned (.tuple #[.pointer none, .int .i64 1]) ∧ w' = w := by
  rcases h with h | h
  all_goals
    go_enter Try.func70, Try.ntmps70
    go_wp2
    go_ret2
    exact ⟨rfl, rfl⟩

end Go.Proofs.Ytbdklfcgcmdgaaa
namespace Go.Proofs.Ytbdklfcgcmdgaaa
open Go.RowKit
set_option linter.unusedVariables false
set_option linter.unusedSimpArgs false

/-- where a node lies: itself, its power, its clock, its clique; its clock's ages, what it agreed on -/
structure NdP where
  g : Nat
  p : Nat
  c : Nat
  q : Nat
  v : Value
  a : Value
def ptrIf (b : Bool) (x : Nat) : Value := if b then .pointer (some ⟨x, 0, none⟩) else .pointer none
def ndCells (x : NdM) (P : NdP) : Array Value := #[.pointer (some ⟨P.p, 0, none⟩), ptrIf (!x.ck.isEmpty) P.c, ptrIf (!x.ck.isEmpty) P.q, .int .u8 x.s, .int .i64 x.shows, .bool x.sure, P.a]
structure NodeAt (base n : Nat) (I : Nat → Prop) (w : World) (boot : Int) (x : NdM) (P : NdP) : Prop where
  node : Blk w P.g 136 (ndCells x P)
  pw : Blk w P.p 196 (pwCells boot x.s x.left x.cold)
  made : x.ck ≠ [] → CkR base P.c n P.v x.ck w ∧ Blk w P.q 202 (cqCells x.long (2 * n) n)
  ig : I P.g
  ip : I P.p
  im : x.ck ≠ [] → I P.c ∧ I P.q ∧ ∀ k, P.v.ownBlock = some k → I k
theorem CkR.keep {B c n : Nat} {v : Value} {L : List Int} {w w' : World} (h : CkR B c n v L w) (hk : ∀ b, b < w.heap.size → (b = c ∨ v.ownBlock = some b) → w'.heap[b]? = w.heap[b]?) : CkR B c n v L w' :=
  ⟨(hk c h.1.lt (.inl rfl)).trans h.1, h.2.block fun k e => hk k (h.2.lt k e).2 (.inr e)⟩
theorem NodeAt.keep {base n : Nat} {I : Nat → Prop} {w w' : World} {boot : Int} {x : NdM} {P : NdP} (h : NodeAt base n I w boot x P) (hk : ∀ b, I b → b < w.heap.size → w'.heap[b]? = w.heap[b]?) : NodeAt base n I w' boot x P :=
  ⟨(hk _ h.ig h.node.lt).trans h.node, (hk _ h.ip h.pw.lt).trans h.pw, fun hm => by
    obtain ⟨h1, h2⟩ := h.made hm
    obtain ⟨i1, i2, i3⟩ := h.im hm
    exact ⟨h1.keep fun b hl hb => hk b (by rcases hb with rfl | hb; exact i1; exact i3 b hb) hl, (hk _ i2 h2.lt).trans h2⟩, h.ig, h.ip, h.im⟩
theorem NodeAt.mono {base n : Nat} {I I' : Nat → Prop} {w : World} {boot : Int} {x : NdM} {P : NdP} (h : NodeAt base n I w boot x P) (hi : ∀ b, b < w.heap.size → I b → I' b) : NodeAt base n I' w boot x P :=
  ⟨h.node, h.pw, h.made, hi _ h.node.lt h.ig, hi _ h.pw.lt h.ip, fun hm => by
    obtain ⟨h1, h2⟩ := h.made hm
    obtain ⟨i1, i2, i3⟩ := h.im hm
    exact ⟨hi _ h1.1.lt i1, hi _ h2.lt i2, fun k e => hi _ (h1.2.lt k e).2 (i3 k e)⟩⟩

/-- a start lies so: who owns a block (i + 1: node i; n + 1: the start; 99: nobody) -/
structure StAt (base n : Nat) (nt : Nat → Nat) (w : World) (sg rg gl cap : Nat) (T : Int) (boot : Nat → Int) (nd : Nat → NdM) (Q : Nat → NdP) : Prop where
  s : Blk w sg 127 #[.pointer (some ⟨rg, 0, none⟩), .slice (some ⟨gl, 0, none⟩) n cap, .int .i64 T]
  row : ∃ cur, Blk w gl 137 cur ∧ ∀ i, i < n → cur[i]? = some (.pointer (some ⟨(Q i).g, 0, none⟩))
  nd : ∀ i, i < n → NodeAt base n (fun b => nt b = i + 1) w (boot i) (nd i) (Q i)
  os : nt sg = n + 1
  ol : nt gl = n + 1
  hi : ∀ b, w.heap.size ≤ b → nt b = 99
  len : n ≤ cap ∧ cap ≤ maxLen ∧ n ≤ 16
section
variable {base n : Nat} {nt : Nat → Nat} {w w' : World} {sg rg gl cap : Nat} {T : Int} {boot : Nat → Int} {nd nd' : Nat → NdM} {Q : Nat → NdP}
theorem StAt.at_ (h : StAt base n nt w sg rg gl cap T boot nd Q) {i : Nat} (hi : i < n) : w.cell? ⟨gl, i, none⟩ = some (.pointer (some ⟨(Q i).g, 0, none⟩)) := by
  obtain ⟨cur, h1, h2⟩ := h.row
  rw [h1.cell]; exact h2 i hi
theorem StAt.keep (h : StAt base n nt w sg rg gl cap T boot nd Q) (hs : w.heap.size ≤ w'.heap.size) (hk : ∀ b, b < w.heap.size → nt b ≠ 99 → w'.heap[b]? = w.heap[b]?) : StAt base n nt w' sg rg gl cap T boot nd Q := by
  have h16 := h.len.2.2
  obtain ⟨cur, h1, h2⟩ := h.row
  exact ⟨(hk _ h.s.lt (by rw [h.os]; omega)).trans h.s, ⟨cur, (hk _ h1.lt (by rw [h.ol]; omega)).trans h1, h2⟩, fun i hi => (h.nd i hi).keep fun b hb hl => hk b hl (by omega), h.os, h.ol, fun b hb => h.hi b (by omega), h.len⟩
theorem StAt.chg (h : StAt base n nt w sg rg gl cap T boot nd Q) {S : Nat → Prop} (hc : Chg S w w') (hS : ∀ b, S b → nt b = 99) : StAt base n nt w' sg rg gl cap T boot nd Q :=
  h.keep hc.size fun b hl hn => hc.block b hl fun hs => hn (hS b hs)
theorem StAt.below (h : StAt base n nt w sg rg gl cap T boot nd Q) (hb : Below w.heap.size w w') : StAt base n nt w' sg rg gl cap T boot nd Q :=
  h.keep hb.size fun b hl _ => hb.block b hl
theorem StAt.congr (h : StAt base n nt w sg rg gl cap T boot nd Q) (e : ∀ i, i < n → nd' i = nd i) : StAt base n nt w sg rg gl cap T boot nd' Q :=
  ⟨h.s, h.row, fun i hi => by rw [e i hi]; exact h.nd i hi, h.os, h.ol, h.hi, h.len⟩
/-- a tick is counted -/
theorem StAt.tick (h : StAt base n nt w sg rg gl cap T boot nd Q) (T' : Int) : StAt base n nt (w.setCell ⟨sg, 2, none⟩ (.int .i64 T')) sg rg gl cap T' boot nd Q := by
  have hc : Chg (· = sg) w (w.setCell ⟨sg, 2, none⟩ (.int .i64 T')) := (Chg.refl _ _).set_at _ _
  have h16 := h.len.2.2
  obtain ⟨cur, h1, h2⟩ := h.row
  refine ⟨by simpa using h.s.set_ 2 (.int .i64 T'), ⟨cur, h1.chg hc (Blk.ne_ h1 h.s (by decide)), h2⟩, fun i hi => (h.nd i hi).keep fun b hb hl => hc.block b hl (fun e => by have := h.os; rw [← e, hb] at this; omega), h.os, h.ol, fun b hb => h.hi b (by have := hc.size; omega), h.len⟩
/-- a node turned: what is new since is its own -/
theorem StAt.turn (h : StAt base n nt w sg rg gl cap T boot nd Q) {i : Nat} (hi : i < n) (hc : Chg (fun b => nt b = i + 1) w w') {x : NdM} {P : NdP} (hn : NodeAt base n (fun b => nt b = i + 1 ∨ w.heap.size ≤ b) w' (boot i) x P) (hg : P.g = (Q i).g) (he : nd' i = x) (ho : ∀ j, j < n → j ≠ i → nd' j = nd j) :
    StAt base n (tagR nt w.heap.size w'.heap.size (i + 1)) w' sg rg gl cap T boot nd' (fun j => if j = i then P else Q j) := by
  have h16 := h.len.2.2
  have hs := hc.size
  obtain ⟨cur, h1, h2⟩ := h.row
  have hlo : ∀ b, b < w.heap.size → tagR nt w.heap.size w'.heap.size (i + 1) b = nt b := fun b hb => tagR_lo hb
  refine ⟨h.s.chg hc (by rw [h.os]; omega), ⟨cur, h1.chg hc (by rw [h.ol]; omega), fun j hj => ?_⟩, fun j hj => ?_, by rw [hlo _ h.s.lt]; exact h.os, by rw [hlo _ h1.lt]; exact h.ol, fun b hb => by rw [tagR_hi hb]; exact h.hi b (by omega), h.len⟩
  · rw [h2 j hj]
    by_cases hji : j = i
    · subst hji; rw [if_pos rfl, hg]
    · rw [if_neg hji]
  · by_cases hji : j = i
    · subst hji
      rw [if_pos rfl, he]
      refine hn.mono fun b hb hI => ?_
      by_cases hbw : b < w.heap.size
      · show tagR _ _ _ _ b = _
        rw [hlo b hbw]
        rcases hI with hI | hI
        · exact hI
        · omega
      · exact tagR_in (by omega) hb
    · rw [if_neg hji, ho j hj hji]
      have := (h.nd j hj).keep (w' := w') fun b hb hl => hc.block b hl (by omega)
      refine NodeAt.mono ((h.nd j hj).mono (I' := fun b => nt b = j + 1 ∧ b < w.heap.size) (fun b hb e => ⟨e, hb⟩) |>.keep (w' := w') fun b hb hl => hc.block b hl (by have := hb.1; omega)) fun b hb hI => ?_
      show tagR _ _ _ _ b = _
      rw [hlo b hI.2]; exact hI.1
end

/-! ### a node in the middle of a tick -/
structure NdW (base n : Nat) (I : Nat → Prop) (wq : World) (boot : Int) (P : NdP) (cs : Array Value) (q : Int × Int × Int) (mk : Bool) (L : List Int) (long : Int) (w : World) : Prop where
  node : Blk w P.g 136 cs
  pw : Blk w P.p 196 (pwCells boot q.1 q.2.1 q.2.2)
  made : mk = true → CkR base P.c n P.v L w ∧ Blk w P.q 202 (cqCells long (2 * n) n)
  c : Chg I wq w
  ig : I P.g
  ip : I P.p
  im : mk = true → (I P.c ∨ wq.heap.size ≤ P.c) ∧ (I P.q ∨ wq.heap.size ≤ P.q) ∧ ∀ k, P.v.ownBlock = some k → I k ∨ wq.heap.size ≤ k
section
variable {base n : Nat} {I : Nat → Prop} {wq w w' : World} {boot : Int} {P : NdP} {cs : Array Value} {q : Int × Int × Int} {mk : Bool} {L : List Int} {long : Int}
theorem NodeAt.open_ {x : NdM} (h : NodeAt base n I w boot x P) : NdW base n I w boot P (ndCells x P) (x.s, x.left, x.cold) (!x.ck.isEmpty) x.ck x.long w :=
  ⟨h.node, h.pw, fun hm => h.made (by intro e; rw [e] at hm; cases hm), Chg.refl _ _, h.ig, h.ip, fun hm => by
    obtain ⟨i1, i2, i3⟩ := h.im (by intro e; rw [e] at hm; cases hm)
    exact ⟨.inl i1, .inl i2, fun k e => .inl (i3 k e)⟩⟩
theorem NdW.below (h : NdW base n I wq boot P cs q mk L long w) (hb : Below w.heap.size w w') : NdW base n I wq boot P cs q mk L long w' :=
  ⟨h.node.below hb h.node.lt, h.pw.below hb h.pw.lt, fun hm => ⟨(h.made hm).1.keep fun b hl _ => hb.block b hl, (h.made hm).2.below hb (h.made hm).2.lt⟩, h.c.trans (Chg.of_below hb _), h.ig, h.ip, h.im⟩
/-- a field of the node's is set -/
theorem NdW.set (h : NdW base n I wq boot P cs q mk L long w) (k : Nat) (u : Value) : NdW base n I wq boot P (cs.setIfInBounds k u) q mk L long (w.setCell ⟨P.g, k, none⟩ u) := by
  have hc : Chg (· = P.g) w (w.setCell ⟨P.g, k, none⟩ u) := (Chg.refl _ _).set_at _ _
  refine ⟨h.node.set_ k u, h.pw.chg hc (Blk.ne_ h.pw h.node (by decide)), fun hm => ?_, h.c.setCell (p := ⟨P.g, k, none⟩) (.inl h.ig) u, h.ig, h.ip, h.im⟩
  obtain ⟨h1, h2⟩ := h.made hm
  exact ⟨h1.keep fun b hl hb => hc.block b hl (by
    rcases hb with rfl | hb
    · exact Blk.ne_ h1.1 h.node (by decide)
    · rintro rfl; exact h1.2.not_ h.node (by decide) hb), h2.chg hc (Blk.ne_ h2 h.node (by decide))⟩
theorem NdW.power (h : NdW base n I wq boot P cs q mk L long w) {q' : Int × Int × Int} (hb : Blk w' P.p 196 (pwCells boot q'.1 q'.2.1 q'.2.2)) (hc : Chg (· = P.p) w w') : NdW base n I wq boot P cs q' mk L long w' := by
  refine ⟨h.node.chg hc (Blk.ne_ h.node h.pw (by decide)), hb, fun hm => ?_, h.c.trans (hc.mono fun k _ e => e ▸ h.ip), h.ig, h.ip, h.im⟩
  obtain ⟨h1, h2⟩ := h.made hm
  exact ⟨h1.keep fun b hl hb => hc.block b hl (by
    rcases hb with rfl | hb
    · exact Blk.ne_ h1.1 h.pw (by decide)
    · rintro rfl; exact h1.2.not_ h.pw (by decide) hb), h2.chg hc (Blk.ne_ h2 h.pw (by decide))⟩
/-- a clock and a clique are made -/
theorem NdW.make (h : NdW base n I wq boot P cs q mk L long w) (hB : base ≤ w.heap.size) : NdW base n I wq boot { P with c := w.heap.size, q := w.heap.size + 1, v := .slice none 0 0 } cs q true [] 0 ((w.alloc (.cells #[.int .i64 n, .slice none 0 0] 198)).alloc (.cells (cqCells 0 (2 * n) n) 202)) := by
  have hb : Below w.heap.size w ((w.alloc (.cells #[.int .i64 n, .slice none 0 0] 198)).alloc (.cells (cqCells 0 (2 * n) n) 202)) := ((Below.refl _ _).alloc (Nat.le_refl _) _).alloc (by simp) _
  have h2 := h.below hb
  have hs := h.c.size
  have hq := Blk.new (w.alloc (.cells #[.int .i64 n, .slice none 0 0] 198)) 202 (cqCells 0 (2 * n) n)
  rw [show (w.alloc (.cells #[.int .i64 n, .slice none 0 0] 198)).heap.size = w.heap.size + 1 from by simp] at hq
  exact ⟨h2.node, h2.pw, fun _ => ⟨⟨(Blk.new w 198 #[.int .i64 n, .slice none 0 0]).alloc _, RmV.nil _ _ _⟩, hq⟩, h2.c, h.ig, h.ip, fun _ => ⟨.inr hs, .inr (by show _ ≤ w.heap.size + 1; omega), fun k e => by simp [Value.ownBlock] at e⟩⟩
/-- the clock turns -/
theorem NdW.clock (h : NdW base n I wq boot P cs q true L long w) {v' : Value} {L' : List Int} (hr : CkR base P.c n v' L' w') (hv : v'.ownBlock = P.v.ownBlock ∨ ∀ k, v'.ownBlock = some k → w.heap.size ≤ k) (hc : Chg (fun b => b = P.c ∨ some b = P.v.ownBlock) w w') : NdW base n I wq boot { P with v := v' } cs q true L' long w' := by
  obtain ⟨h1, h2⟩ := h.made rfl
  obtain ⟨i1, i2, i3⟩ := h.im rfl
  have hs := h.c.size
  have ne : ∀ {g : Nat} {t : TypeId} {cs : Array Value}, Blk w g t cs → 198 ≠ t → 2 ≠ t → ¬ (g = P.c ∨ some g = P.v.ownBlock) := fun {g t cs} hb e1 e2 hh => by
    rcases hh with hh | hh
    · exact (Blk.ne_ h1.1 hb e1) hh.symm
    · exact h1.2.not_ hb e2 hh.symm
  refine ⟨h.node.chg hc (ne h.node (by decide) (by decide)), h.pw.chg hc (ne h.pw (by decide) (by decide)), fun _ => ⟨hr, h2.chg hc (ne h2 (by decide) (by decide))⟩, h.c.trans' hc (fun b hb hh => ?_), h.ig, h.ip, fun _ => ⟨i1, i2, fun k e => ?_⟩⟩
  · rcases hh with rfl | hh
    · rcases i1 with i | i
      · exact i
      · omega
    · rcases i3 b hh.symm with i | i
      · exact i
      · omega
  · rcases hv with hv | hv
    · exact i3 k (hv.symm.trans e)
    · exact .inr (by have := hv k e; omega)
/-- the clique turns -/
theorem NdW.clique (h : NdW base n I wq boot P cs q true L long w) {long' : Int} (hr : Blk w' P.q 202 (cqCells long' (2 * n) n)) (hc : Chg (· = P.q) w w') : NdW base n I wq boot P cs q true L long' w' := by
  obtain ⟨h1, h2⟩ := h.made rfl
  obtain ⟨i1, i2, i3⟩ := h.im rfl
  refine ⟨h.node.chg hc (Blk.ne_ h.node h2 (by decide)), h.pw.chg hc (Blk.ne_ h.pw h2 (by decide)), fun _ => ⟨h1.keep fun b hl hb => hc.block b hl (by
    rcases hb with rfl | hb
    · exact Blk.ne_ h1.1 h2 (by decide)
    · rintro rfl; exact h1.2.not_ h2 (by decide) hb), hr⟩, h.c.trans' hc (fun b hb hh => by
      subst hh
      rcases i2 with i | i
      · exact i
      · omega), h.ig, h.ip, fun _ => ⟨i1, i2, i3⟩⟩
theorem NdW.agreed (h : NdW base n I wq boot P cs q mk L long w) (a : Value) : NdW base n I wq boot { P with a := a } cs q mk L long w := ⟨h.node, h.pw, h.made, h.c, h.ig, h.ip, h.im⟩
/-- the tick is over -/
theorem NdW.done (h : NdW base n I wq boot P cs q mk L long w) {x : NdM} (e1 : cs = ndCells x P) (e2 : q = (x.s, x.left, x.cold)) (e3 : x.ck ≠ [] → mk = true ∧ L = x.ck ∧ long = x.long) : NodeAt base n (fun b => I b ∨ wq.heap.size ≤ b) w boot x P := by
  subst e1
  refine ⟨h.node, by have := h.pw; rw [e2] at this; exact this, fun hm => ?_, .inl h.ig, .inl h.ip, fun hm => ?_⟩
  · obtain ⟨a1, a2, a3⟩ := e3 hm
    have := h.made a1
    rw [a2, a3] at this
    exact this
  · exact h.im (e3 hm).1
end
end Go.Proofs.Ytbdklfcgcmdgaaa
namespace Go.Proofs.Ytbdklfcgcmdgaaa
open Go.RowKit
set_option linter.unusedVariables false
set_option linter.unusedSimpArgs false

theorem app_node : AppOk Try.prog 125 137 1 := appOk_of Try.underlying125 (by kernel_rfl)
def nodeV (p : Nat) : Array Value := #[.pointer (some ⟨p, 0, none⟩), .pointer none, .pointer none, .int .u8 0, .int .i64 (-1), .bool false, .slice none 0 0]
/-- a start is being made: k of its nodes are there -/
structure NsP (w wS : World) (sg rg N : Nat) (boot : Nat → Int) (k : Nat) (nt : Nat → Nat) (v : Value) (Q : Nat → NdP) (wr : World) : Prop where
  b : Blk wr sg 127 #[.pointer (some ⟨rg, 0, none⟩), v, .int .i64 0]
  own : wr.ownsRow (sg + 1) 137 1 v k (ptrs (fun j => (Q j).g) k)
  nd : ∀ j, j < k → NodeAt w.heap.size N (fun b => nt b = j + 1) wr (boot j) NdM.new (Q j)
  lo : ∀ b, b ≤ sg → nt b = 99
  tv : ∀ g, v.ownBlock = some g → nt g = 99
  hi : ∀ b, wr.heap.size ≤ b → nt b = 99
  bel : Below sg wS wr
  sz : sg < wr.heap.size
theorem NsP.step {w wS : World} {sg rg N : Nat} {boot : Nat → Int} {k : Nat} {nt : Nat → Nat} {v : Value} {Q : Nat → NdP} {wr w3 : World} (h : NsP w wS sg rg N boot k nt v Q wr) (h16 : N ≤ 16) (hk : k < N) {o : Obj}
    (hg : ((((wr.alloc (.cells (pwCells (boot k) 0 0 0) 196)).alloc (.cells (nodeV wr.heap.size) 136))).alloc o).grownBy w3 v.ownBlock) {g cap : Nat}
    (ho : w3.ownsRow (sg + 1) 137 1 (.slice (some ⟨g, 0, none⟩) (k + 1) cap) (k + 1) (ptrs (fun j => (Q j).g) k ++ [.pointer (some ⟨wr.heap.size + 1, 0, none⟩)]))
    (hlie : v.ownBlock = some g ∨ g = ((((wr.alloc (.cells (pwCells (boot k) 0 0 0) 196)).alloc (.cells (nodeV wr.heap.size) 136))).alloc o).heap.size) :
    ∃ nt' Q', NsP w wS sg rg N boot (k + 1) nt' (.slice (some ⟨g, 0, none⟩) (k + 1) cap) Q' (w3.setCell ⟨sg, 1, none⟩ (.slice (some ⟨g, 0, none⟩) (k + 1) cap)) := by
  obtain ⟨w1, hw1⟩ : ∃ w1, w1 = (wr.alloc (.cells (pwCells (boot k) 0 0 0) 196)).alloc (.cells (nodeV wr.heap.size) 136) := ⟨_, rfl⟩
  have hbp : Blk w1 wr.heap.size 196 (pwCells (boot k) 0 0 0) := by rw [hw1]; exact (Blk.new _ _ _).alloc _
  have hbn : Blk w1 (wr.heap.size + 1) 136 (nodeV wr.heap.size) := by
    rw [hw1]
    have := Blk.new (wr.alloc (.cells (pwCells (boot k) 0 0 0) 196)) 136 (nodeV wr.heap.size)
    simpa using this
  have hs1 : w1.heap.size = wr.heap.size + 2 := by rw [hw1]; simp
  have hb : Below wr.heap.size wr w1 := by rw [hw1]; exact ((Below.refl _ _).alloc (Nat.le_refl _) _).alloc (by simp) _
  rw [← hw1] at hg hlie
  clear hw1
  have hs2 : (w1.alloc o).heap.size = w1.heap.size + 1 := by simp
  have hs3 := hg.size
  have hsz := h.sz
  have hown : ∀ b, v.ownBlock = some b → b < wr.heap.size ∧ nt b = 99 ∧ sg < b := fun b hb => ⟨(h.own.lt b hb).2, h.tv b hb, (h.own.lt b hb).1⟩
  have hgl := ho.lt g rfl
  have hss : (w3.setCell ⟨sg, 1, none⟩ (.slice (some ⟨g, 0, none⟩) (k + 1) cap)).heap.size = w3.heap.size := by simp
  have k1 : ∀ b, b < wr.heap.size → v.ownBlock ≠ some b → w3.heap[b]? = wr.heap[b]? := fun b hbl hne =>
    (hg.block b (by omega) (fun e => hne e.symm)).trans ((Below.heap_alloc _ _ _ (by omega)).trans (hb.block b hbl))
  have k2 : ∀ b, b ≠ sg → (w3.setCell ⟨sg, 1, none⟩ (.slice (some ⟨g, 0, none⟩) (k + 1) cap)).heap[b]? = w3.heap[b]? := fun b hne => Below.heap_setCell _ _ _ _ hne
  have nr : v.ownBlock ≠ some sg := fun e => by have := (hown _ e).2.2; omega
  have hb3 : Blk w3 sg 127 #[.pointer (some ⟨rg, 0, none⟩), v, .int .i64 0] := (k1 _ h.b.lt nr).trans h.b
  have hgne : g ≠ sg := by omega
  -- what is new stays
  have k3 : ∀ b, wr.heap.size ≤ b → b < w1.heap.size → (w3.setCell ⟨sg, 1, none⟩ (.slice (some ⟨g, 0, none⟩) (k + 1) cap)).heap[b]? = w1.heap[b]? := fun b h1 h2 =>
    (k2 b (by omega)).trans ((hg.block b (by omega) (fun e => by have := (hown b e.symm).1; omega)).trans (Below.heap_alloc _ _ _ h2))
  refine ⟨tagR nt wr.heap.size w1.heap.size (k + 1), fun j => if j = k then ⟨wr.heap.size + 1, wr.heap.size, 0, 0, .slice none 0 0, .slice none 0 0⟩ else Q j, ⟨by simpa using hb3.set_ 1 (.slice (some ⟨g, 0, none⟩) (k + 1) cap), ?_, ?_, fun b hb => by rw [tagR_lo (by omega)]; exact h.lo b hb, ?_, fun b hb => ?_, ?_, by rw [hss]; omega⟩⟩
  · have e : ptrs (fun j => ((if j = k then (⟨wr.heap.size + 1, wr.heap.size, 0, 0, .slice none 0 0, .slice none 0 0⟩ : NdP) else Q j)).g) (k + 1) = ptrs (fun j => (Q j).g) k ++ [.pointer (some ⟨wr.heap.size + 1, 0, none⟩)] := by
      rw [← ptrs_snoc]
      unfold ptrs
      refine List.map_congr_left fun i hi => ?_
      by_cases h : i = k <;> simp [h]
    rw [e]
    exact own_block ho fun b hb => by
      simp only [Value.ownBlock, Option.some.injEq] at hb
      subst hb
      exact k2 _ hgne
  · intro j hj
    by_cases hjk : j = k
    · subst hjk
      simp only [if_true]
      exact ⟨(k3 _ (by show wr.heap.size ≤ wr.heap.size + 1; omega) (by show wr.heap.size + 1 < _; omega)).trans hbn, (k3 _ (Nat.le_refl _) (by show wr.heap.size < _; omega)).trans hbp, fun hm => absurd rfl hm, tagR_in (by show wr.heap.size ≤ wr.heap.size + 1; omega) (by show wr.heap.size + 1 < _; omega), tagR_in (Nat.le_refl _) (by show wr.heap.size < _; omega), fun hm => absurd rfl hm⟩
    · simp only [if_neg hjk]
      refine (NodeAt.mono (I' := fun b => nt b = j + 1 ∧ b < wr.heap.size) (h.nd j (by omega)) (fun b hb e => ⟨e, hb⟩) |>.keep (w' := w3.setCell ⟨sg, 1, none⟩ (.slice (some ⟨g, 0, none⟩) (k + 1) cap)) fun b hb hl => ?_).mono fun b hb hI => ?_
      · refine (k2 b ?_).trans (k1 b hl ?_)
        · rintro rfl; have := h.lo b (Nat.le_refl _); have := hb.1; omega
        · intro e; have := (hown b e).2.1; have := hb.1; omega
      · show tagR _ _ _ _ b = _
        rw [tagR_lo hI.2]; exact hI.1
  · intro b hb
    simp only [Value.ownBlock, Option.some.injEq] at hb
    subst hb
    rcases hlie with e | e
    · have := hown g e
      rw [tagR_lo this.1]; exact this.2.1
    · rw [tagR_hi (by omega)]; exact h.hi g (by omega)
  · rw [hss] at hb
    rw [tagR_hi (by omega)]
    exact h.hi b (by omega)
  · refine Below.setCell ?_ (by simp) _
    exact ((h.bel.trans (hb.mono (by omega))).alloc (by omega) _).grown hg (by omega) fun q hq => by have := (hown q hq).2.2; omega
/-- a start, made -/
def NewStartP (N : Nat) (F : FltM) (av : Value) (boot : Nat → Int) (w : World) (e : Ending) (w' : World) : Prop :=
  ∃ sg rg gl cap tag P nt Q, e = .returned (.pointer (some ⟨sg, 0, none⟩)) ∧ RingAt tag w' rg av (RingM.new N F) P ∧ StAt w.heap.size N nt w' sg rg gl cap 0 boot (fun _ => NdM.new) Q ∧ (∀ b, b < w.heap.size → tag b = 0 ∧ nt b = 99) ∧ (∀ b, nt b ≠ 99 → tag b = 98 ∧ w.heap.size ≤ b) ∧ Below w.heap.size w w'
theorem NsP.end_ {w wS : World} {sg rg N : Nat} {boot : Nat → Int} {nt : Nat → Nat} {v : Value} {Q : Nat → NdP} {wr : World} {F : FltM} {av : Value} {tag : Nat → Nat} {P : RgP} (h : NsP w wS sg rg N boot N nt v Q wr) (h4 : 4 ≤ N) (h16 : N ≤ 16)
    (hr : RingAt tag wS rg av (RingM.new N F) P) (hsz : wS.heap.size = sg) (hb : Below w.heap.size w wS) (hlo : ∀ b, b < w.heap.size → tag b = 0) : NewStartP N F av boot w (.returned (.pointer (some ⟨sg, 0, none⟩))) wr := by
  have hws := hb.size
  have hsg := h.sz
  rcases h.own.2 with ⟨-, h0⟩ | ⟨g, cap, cur, rfl, g1, g2, g3, g4, g5, g6⟩
  · omega
  have hg99 := h.tv g rfl
  have hgl := lt_of_some g2
  have hr2 : RingAt tag wr rg av (RingM.new N F) P := hr.below (by rw [hsz]; exact h.bel)
  refine ⟨sg, rg, g, cap, tag, P, fun b => if b = sg ∨ b = g then N + 1 else nt b, Q, rfl, hr2, ⟨h.b, ⟨cur, g2, fun i hi => ?_⟩, fun i hi => (h.nd i hi).mono fun b hb e => ?_, if_pos (.inl rfl), if_pos (.inr rfl), fun b hb => ?_, g3, g4, h16⟩, fun b hb => ⟨hlo b hb, ?_⟩, fun b hb => ?_, hb.trans (h.bel.mono (by omega))⟩
  · have e1 : cur[i]? = (cur.toList.take (N * 1))[i]? := by rw [List.getElem?_take, if_pos (by omega)]; simp
    rw [e1, g6, ptrs_at hi]
  · show (if b = sg ∨ b = g then N + 1 else nt b) = _
    rw [if_neg ?_]
    · exact e
    · rintro (rfl | rfl)
      · have := h.lo b (Nat.le_refl _); omega
      · omega
  · show (if b = sg ∨ b = g then N + 1 else nt b) = _
    rw [if_neg (by rintro (rfl | rfl) <;> omega)]
    exact h.hi b hb
  · show (if b = sg ∨ b = g then N + 1 else nt b) = _
    rw [if_neg (by rintro (rfl | rfl) <;> omega)]
    exact h.lo b (by omega)
  · have hge : sg ≤ b := by
      rcases Nat.lt_or_ge b sg with h1 | h1
      · exact absurd (by show (if b = sg ∨ b = g then N + 1 else nt b) = 99; rw [if_neg (by rintro (rfl | rfl) <;> omega)]; exact h.lo b (by omega)) hb
      · exact h1
    exact ⟨hr.tg b (by omega), by omega⟩
set_option maxRecDepth 100000 in
set_option maxHeartbeats 4000000 in
theorem newStart_any (N : Nat) (F : FltM) (aa : Option Addr) (an ac : Nat) (bb bc : Nat) (boot : Nat → Int) (w : World) (h4 : 4 ≤ N) (h16 : N ≤ 16) (hf : F.at_ < 256 ∧ F.which < 256)
    (hA : RdAs (· < w.heap.size) w aa an F.acts) (ha1 : an ≤ ac) (ha2 : ac ≤ maxLen) (ha3 : an ≤ 140737488355328)
    (hbb : bb < w.heap.size) (hbo : ∀ i, i < N → w.cell? ⟨bb, i, none⟩ = some (.int .i64 (boot i)) ∧ 0 ≤ boot i ∧ boot i ≤ 4096) :
    Calls Try.prog 44 #[.int .i64 N, .agg (F.vals (.slice aa an ac)).toArray, .slice (some ⟨bb, 0, none⟩) N bc] w (NewStartP N F (.slice aa an ac) boot w) := by
  have HNR : Hid (∀ w' : World, Below w.heap.size w w' → Calls Try.prog 30 #[.int .i64 N, .agg #[.bool F.link, .int .u8 F.at_, .int .u8 F.which, .slice aa an ac]] w' (NewRingP (tagV w') N F (.slice aa an ac) w')) := Lib.hid fun w' hb =>
    newRing_any (tagV w') N F aa an ac w' h4 h16 hf (fun b hb => tagV_hi hb) ((hA.below hb).mono fun b hbl _ => ⟨tagV_lo hbl, hbl⟩) ha1 ha2 ha3
  have HB0 : Hid (Below w.heap.size w (w.alloc (.cells #[.bool F.link, .int .u8 F.at_, .int .u8 F.which, .slice aa an ac] 88))) := Lib.hid ((Below.refl _ _).alloc (Nat.le_refl _) _)
  have HK0 : Hid (Blk (w.alloc (.cells #[.bool F.link, .int .u8 F.at_, .int .u8 F.which, .slice aa an ac] 88)) w.heap.size 88 #[.bool F.link, .int .u8 F.at_, .int .u8 F.which, .slice aa an ac]) := Lib.hid (Blk.new _ _ _)
  have HBO := Lib.hid hbo
  clear hA hf hbo
  show Calls _ _ #[.int .i64 N, .agg #[.bool F.link, .int .u8 F.at_, .int .u8 F.which, .slice aa an ac], .slice (some ⟨bb, 0, none⟩) N bc] w _
  go_enter Try.func44, Try.ntmps44
  go_upto_region 1 with fail
  generalize w.alloc (.cells #[.bool F.link, .int .u8 F.at_, .int .u8 F.which, .slice aa an ac] 88) = w0 at HB0 HK0 ⊢
  have c0 := HK0.out.cell 0
  have c1 := HK0.out.cell 1
  have c2 := HK0.out.cell 2
  have c3 := HK0.out.cell 3
  simp at c0 c1 c2 c3
  go_wp2_with fail
  (with_reducible refine (HNR.out w0 HB0.out).mono ?_)
  rintro e wS ⟨rg, tag, P, rfl, hr, htg, hrg, hbS⟩
  have hs0 := HB0.out.size
  have HRS : Hid (RingAt tag wS rg (.slice aa an ac) (RingM.new N F) P ∧ Below w.heap.size w wS ∧ ∀ b, b < w.heap.size → tag b = 0) := Lib.hid ⟨hr, HB0.out.trans (hbS.mono hs0), fun b hb => by rw [htg b (by omega)]; exact tagV_lo (by omega)⟩
  clear hr htg hbS c0 c1 c2 c3 HNR hrg
  go_upto_region 5 with fail
  have H0 : Hid (NsP w wS wS.heap.size rg N boot 0 (fun _ => 99) (.slice none 0 0) (fun _ => ⟨0, 0, 0, 0, .slice none 0 0, .slice none 0 0⟩) (wS.alloc (.cells #[.pointer (some ⟨rg, 0, none⟩), .slice none 0 0, .int .i64 0] 127))) := Lib.hid
    ⟨Blk.new _ _ _, World.ownsRow_nil _ _ _ _, fun j hj => absurd hj (by omega), fun _ _ => rfl, fun g hg => by simp [Value.ownBlock] at hg, fun _ _ => rfl, (Below.refl _ _).alloc (Nat.le_refl _) _, by simp⟩
  generalize wS.alloc (.cells #[.pointer (some ⟨rg, 0, none⟩), .slice none 0 0, .int .i64 0] 127) = wA at H0 ⊢
  obtain ⟨sg, hsg⟩ : ∃ sg, sg = wS.heap.size := ⟨_, rfl⟩
  rw [← hsg] at H0 ⊢
  have hwsg : w.heap.size ≤ sg := by rw [hsg]; exact HRS.out.2.1.size
  have HSG := Lib.hid hsg
  clear hsg
  go_wp2_with fail
  go_loopw [9] (fun s9 wr => ∃ k : Nat, k ≤ N ∧ s9 = .int .i64 k ∧ ∃ nt v Q, NsP w wS sg rg N boot k nt v Q wr) (fun i _ => N - (intOf i).toNat)
  case atStart => exact ⟨0, by omega, rfl, _, _, _, H0.out⟩
  case round =>
    obtain ⟨k, hk, rfl, nt, v, Q, hp⟩ := hrel
    by_cases hlt : k < N
    · have hlt1 : (k : Int) < N := by omega
      have hk0 : (0 : Int) ≤ k := by omega
      obtain ⟨b1, b2, b3⟩ := HBO.out k hlt
      have dx := (hp.bel.cell (p := ⟨bb, k, none⟩) (by show bb < sg; omega)).trans ((HRS.out.2.1.cell (p := ⟨bb, k, none⟩) hbb).trans b1)
      have HP := Lib.hid hp
      have hsz := hp.sz
      clear hp b1
      go_wp2_with fail
      (with_reducible refine (pwnew_ok (boot k) wr b2 b3).mono ?_)
      rintro e w1 ⟨rfl, rfl⟩
      have hb1 := HP.out.b.alloc (.cells (pwCells (boot k) 0 0 0) 196)
      have c1 := hb1.cell 1
      simp at c1
      clear dx hb1
      go_upto_region 11 with fail
      have hkk : k ≤ 16 := by omega
      have HO : Hid (((wr.alloc (.cells (pwCells (boot k) 0 0 0) 196)).alloc (.cells (nodeV wr.heap.size) 136)).ownsRow (sg + 1) 137 1 v k (ptrs (fun j => (Q j).g) k)) := Lib.hid ((HP.out.own.alloc _).alloc _)
      have hss : ((wr.alloc (.cells (pwCells (boot k) 0 0 0) 196)).alloc (.cells (nodeV wr.heap.size) 136)).heap.size = wr.heap.size + 1 + 1 := by simp
      have hsb : Blk ((wr.alloc (.cells (pwCells (boot k) 0 0 0) 196)).alloc (.cells (nodeV wr.heap.size) 136)) sg 127 #[.pointer (some ⟨rg, 0, none⟩), v, .int .i64 0] := (HP.out.b.alloc _).alloc _
      have HS := Lib.hid (fun (o : Obj) (w3 : World) hg (g cap : Nat) ho hlie => HP.out.step (o := o) (w3 := w3) h16 hlt hg (g := g) (cap := cap) ho hlie)
      have HSS := Lib.hid hss
      have HSB := Lib.hid hsb
      clear hss hsb
      go_wp2_with (at_builtin; (show wpList _ _ _ _ _ (((wr.alloc (.cells (pwCells (boot k) 0 0 0) 196)).alloc (.cells (nodeV wr.heap.size) 136)).alloc _)); (generalize (wr.alloc (.cells (pwCells (boot k) 0 0 0) 196)).alloc (.cells (nodeV wr.heap.size) 136) = w1 at HS HO HSS HSB ⊢); (have hss := HSS.out); (rw [← hss]); refine wpList_lies app_node (by rfl) (.tmp 39) (.tmp 43) (by rfl) (sg + 1) _ _ _ (by rfl) (HO.out.alloc _) ⟨w1.heap.size, 0, none⟩ 1 1 [.pointer (some ⟨wr.heap.size + 1, 0, none⟩)] (by rfl) (by simp) (hasRow_new w1 _ _ 0 1 (by simp)) (rowOf_new w1 _ _ 0 1 (by simp)) (by rfl) (by omega) (by omega) (by simp; omega) ?_; intro gg cp w3 hown1 hgrow hlie; have H8 := Lib.hid (HS.out _ _ hgrow _ _ hown1 hlie); have hb7 := ((hgrow.block sg (by simp; omega) (fun e => own_not HO.out HSB.out (by decide) e.symm)).trans (HSB.out.alloc _)); have z7 := Blk.frozen hb7 1; have c7 := Blk.cell hb7 1; simp at c7; clear hown1 hgrow hlie hb7 hss)
      obtain ⟨nt', Q', h8⟩ := H8.out
      exact ⟨⟨k + 1, by omega, by go_num, nt', _, Q', h8⟩, by simp [intOf]; omega⟩
    · have hlt1 : ¬ (k : Int) < N := by omega
      have hkN : k = N := by omega
      subst hkN
      have HR := Lib.hid (hp.end_ h4 h16 HRS.out.1 HSG.out.symm HRS.out.2.1 HRS.out.2.2)
      clear hp
      go_wp2_with fail
      go_ret
      exact HR.out
end Go.Proofs.Ytbdklfcgcmdgaaa
namespace Go.Proofs.Ytbdklfcgcmdgaaa
open Go.RowKit
set_option linter.unusedVariables false
set_option linter.unusedSimpArgs false

def badB (N : Nat) (F : FltM) (k : Nat) : Bool := !F.link && decide (F.at_ % N = k)
theorem badB_iff {N : Nat} {F : FltM} {k : Nat} : badB N F k = true ↔ Bd N F k := by
  unfold badB Bd
  simp only [Bool.and_eq_true, Bool.not_eq_true', decide_eq_true_eq]
  exact And.comm
theorem badB_not {N : Nat} {F : FltM} {k : Nat} (h : badB N F k = false) : ¬ Bd N F k := fun hb => by rw [badB_iff.2 hb] at h; cases h
/-- how many of the first k are right, and sure -/
def cntG (N : Nat) (F : FltM) (nd : Nat → NdM) : Nat → Nat
  | 0 => 0
  | k + 1 => cntG N F nd k + if badB N F k = false ∧ (nd k).sure = true then 1 else 0
theorem cntG_le (N : Nat) (F : FltM) (nd : Nat → NdM) (k : Nat) : cntG N F nd k ≤ k := by
  induction k with
  | zero => exact Nat.le_refl _
  | succ k ih => unfold cntG; split <;> omega
def AgreesP (m : Nat) (w : World) (e : Ending) (w' : World) : Prop := e = .returned (.tuple #[.bool true, .int .i64 m]) ∧ Below w.heap.size w w'
set_option maxRecDepth 100000 in
set_option maxHeartbeats 4000000 in
theorem agrees18_any {base N : Nat} {F : FltM} {nt tag : Nat → Nat} {w : World} {sg rg gl cap : Nat} {T : Int} {boot : Nat → Int} {nd : Nat → NdM} {Q : Nat → NdP} {av : Value} {R : RingM} {P : RgP}
    (hs : StAt base N nt w sg rg gl cap T boot nd Q) (hr : RingAt tag w rg av R P) (hN : R.N = N) (hF : R.F = F) (c : Int) (h : ∀ i, i < N → badB N F i = false → (nd i).sure = true → 0 ≤ (nd i).shows ∧ (nd i).shows = c) :
    Calls Try.prog 46 #[.pointer (some ⟨sg, 0, none⟩)] w (AgreesP (cntG N F nd N) w) := by
  have h16 := hs.len.2.2
  have hgc := hs.len.1
  have HC : Hid (∀ w' : World, Below w.heap.size w w' → w'.cell? ⟨sg, 0, none⟩ = some (.pointer (some ⟨rg, 0, none⟩)) ∧ w'.cell? ⟨sg, 1, none⟩ = some (.slice (some ⟨gl, 0, none⟩) N cap) ∧ w'.cell? ⟨rg, 0, none⟩ = some (.int .i64 N)) := Lib.hid fun w' hb => by
    have h2 := (hs.below hb).s
    have h3 := (hr.below hb).cells.1
    rw [hN] at h3
    exact ⟨h2.cell 0, h2.cell 1, h3⟩
  have HB : Hid (∀ w' : World, Below w.heap.size w w' → ∀ i, i < N → Calls Try.prog 34 #[.pointer (some ⟨rg, 0, none⟩), .int .i64 i] w' (BadPost (badB N F i) w')) := Lib.hid fun w' hb i hi => bad_node hr hb hN hF hi
  have HX : Hid (∀ w' : World, Below w.heap.size w w' → ∀ i, i < N → w'.cell? ⟨gl, i, none⟩ = some (.pointer (some ⟨(Q i).g, 0, none⟩)) ∧ w'.cell? ⟨(Q i).g, 4, none⟩ = some (.int .i64 (nd i).shows) ∧ w'.cell? ⟨(Q i).g, 5, none⟩ = some (.bool (nd i).sure)) := Lib.hid fun w' hb i hi => by
    have h2 := hs.below hb
    have h3 := (h2.nd i hi).node
    exact ⟨h2.at_ hi, h3.cell 4, h3.cell 5⟩
  have HH := Lib.hid h
  clear hs hr h hN hF
  go_enter Try.func46, Try.ntmps46
  go_wp2_with fail
  go_loopw [4, 5, 6] (fun s4 s5 s6 wr => ∃ (i : Nat) (z : Int), i ≤ N ∧ s6 = .int .i64 i ∧ s5 = .int .i64 (cntG N F nd i : Nat) ∧ s4 = .int .i64 z ∧ (0 < cntG N F nd i → z = c) ∧ Below w.heap.size w wr) (fun _ _ i _ => N - (intOf i).toNat)
  case atStart => exact ⟨0, -1, by omega, rfl, rfl, rfl, fun h => absurd h (by simp [cntG]), Below.refl _ _⟩
  case round =>
    obtain ⟨i, z, hi, rfl, rfl, rfl, hz, hb⟩ := hrel
    obtain ⟨wq, rfl⟩ : ∃ wq, wq = wr := ⟨_, rfl⟩
    have HBQ := Lib.hid hb
    have HZ := Lib.hid hz
    clear hb hz
    obtain ⟨c0, c1, c2⟩ := HC.out wq HBQ.out
    by_cases hiN : i < N
    · have hiN1 : (i : Int) < N := by omega
      have hi0 : (0 : Int) ≤ i := by omega
      obtain ⟨x0, x1, x2⟩ := HX.out wq HBQ.out i hiN
      have HBI := Lib.hid (HB.out wq HBQ.out i hiN)
      clear x1 x2
      obtain ⟨qi, hqi⟩ : ∃ qi, qi = badB N F i := ⟨_, rfl⟩
      rw [← hqi] at HBI
      have HQI := Lib.hid hqi
      clear hqi
      go_wp2_with fail
      (with_reducible refine HBI.out.mono ?_)
      rintro e wb ⟨rfl, hbb⟩
      have HBB := Lib.hid (HBQ.out.trans (hbb.mono HBQ.out.size))
      clear hbb HBI c0 c1 c2 x0
      obtain ⟨-, x1, x2⟩ := HX.out wb HBB.out i hiN
      have hcl := cntG_le N F nd i
      obtain ⟨m, hm⟩ : ∃ m, m = cntG N F nd i := ⟨_, rfl⟩
      rw [← hm] at hcl ⊢
      have HM := Lib.hid hm
      clear hm
      cases qi with
      | true =>
        have hn : cntG N F nd (i + 1) = m := by rw [cntG, if_neg (by rw [← HQI.out]; simp), ← HM.out]; rfl
        have HNN := Lib.hid hn
        clear hn
        go_wp2_with fail
        exact ⟨⟨i + 1, z, by omega, by go_num, by rw [HNN.out], rfl, by rw [HNN.out, HM.out]; exact HZ.out, HBB.out⟩, by simp [intOf]; omega⟩
      | false =>
        obtain ⟨su, hsu⟩ : ∃ su, su = (nd i).sure := ⟨_, rfl⟩
        rw [← hsu] at x2
        have HSU := Lib.hid hsu
        clear hsu
        cases su with
        | false =>
          have hn : cntG N F nd (i + 1) = m := by rw [cntG, if_neg (by rw [← HSU.out]; simp), ← HM.out]; rfl
          have HNN := Lib.hid hn
          clear hn
          go_wp2_with fail
          exact ⟨⟨i + 1, z, by omega, by go_num, by rw [HNN.out], rfl, by rw [HNN.out, HM.out]; exact HZ.out, HBB.out⟩, by simp [intOf]; omega⟩
        | true =>
          have hn : cntG N F nd (i + 1) = m + 1 := by rw [cntG, if_pos ⟨HQI.out.symm, HSU.out.symm⟩, ← HM.out]
          have HNN := Lib.hid hn
          obtain ⟨h0, hc⟩ := HH.out i hiN HQI.out.symm HSU.out.symm
          obtain ⟨z1, hz1⟩ : ∃ z1, z1 = (nd i).shows := ⟨_, rfl⟩
          rw [← hz1] at x1 h0 hc
          have HZ1 := Lib.hid hc
          have h01 : ¬ z1 < 0 := by omega
          have h02 : decide (z1 < 0) = false := by simp; omega
          have wm : IntKind.i64.wrap ((m : Int) + 1) = (m : Int) + 1 := IntWalk.i64_in _ (by omega)
          clear hn hz1 hc
          by_cases hm0 : 0 < m
          · have hm1 : (0 : Int) < m := by omega
            have hzc := HZ.out (by rw [← HM.out]; exact hm0)
            obtain rfl : z = z1 := hzc.trans HZ1.out.symm
            clear hzc
            go_wp2_with fail
            exact ⟨⟨i + 1, z, by omega, by go_num, by rw [HNN.out]; go_num, rfl, fun _ => HZ1.out, HBB.out⟩, by simp [intOf]; omega⟩
          · have hm1 : ¬ (0 : Int) < m := by omega
            have hm2 : decide ((0 : Int) < m) = false := by simp; omega
            go_wp2_with fail
            exact ⟨⟨i + 1, z1, by omega, by go_num, by rw [HNN.out]; go_num, rfl, fun _ => HZ1.out, HBB.out⟩, by simp [intOf]; omega⟩
    · have hiN1 : ¬ (i : Int) < N := by omega
      obtain rfl : N = i := by omega
      go_wp2_with fail
      go_ret2
      exact ⟨rfl, HBQ.out⟩
end Go.Proofs.Ytbdklfcgcmdgaaa
