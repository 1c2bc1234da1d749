/-
  Nodes that start: those that are sure show the same; once all are on, all are sure, and count on. No program in sight. Nets (chapter 31): nodes that all have power from the first tick on, without a fault: each says its number of ticks, is sure 4N ticks on, and shows it. No program in sight. Nets (chapter 31): a node of the net, tick by tick, is the node of the ring of chapter 18 that says the net's cells. No program in sight. Nets (chapter 31): the bounds that a tick of a node of the net wants; no slot begins in the first 16 ticks of four nodes. No program in sight.
-/
import Derived.Test.YtdilbjikeilhbaaGreatDoorGe44
import Derived.Test.YtdilbjikeilhbaaGreatDoorGe37
namespace Go.Proofs.YtdilbjikeilhbaaGreatDoor
open Go.RowKit
set_option linter.unusedVariables false
set_option linter.unusedSimpArgs false

/-! ### counting -/
theorem evenN_ge {L : List Hd} {c : Int} {B : Nat} (h : ∀ (s : Nat) (x : Hd), s ≠ B → L[s]? = some x → x.is = true ∧ ageL x.c = c) : ∀ k, k ≤ L.length → k ≤ evenN (L.take k) c + (if B < k then 1 else 0)
  | 0, _ => by omega
  | k + 1, hk => by
    obtain ⟨x, hx⟩ : ∃ x, L[k]? = some x := ⟨_, List.getElem?_eq_getElem (by omega)⟩
    have ih := evenN_ge h k (by omega)
    rw [evenN_succ L c k x hx]
    by_cases hB : k = B
    · subst hB
      rw [if_neg (by omega)] at ih
      rw [if_pos (Nat.lt_succ_self k)]
      omega
    · obtain ⟨h1, h2⟩ := h k x hB hx
      have e : (if (x.is && ageL x.c == c) = true then 1 else 0 : Nat) = 1 := by rw [h1, h2]; simp
      rw [e]
      split at ih <;> split <;> omega
theorem even_parts {n : Nat} {L : List Hd} {c : Int} (hl : L.length = n) (h : evenF n L c = true) : 0 ≤ c ∧ c ≤ 1099511627776 ∧ n ≤ evenN L c + 1 := by
  unfold evenF at h
  simp only [Bool.and_eq_true, decide_eq_true_eq] at h
  obtain ⟨⟨⟨⟨h1, h2⟩, h3⟩, h4⟩, h5⟩ := h
  rw [Int.toNat_natCast, ← hl, List.take_length] at h5
  exact ⟨h3, h4, by omega⟩
/-! ### the middle age -/
theorem most_ex (G : List Int) : ∃ v, MostAP G v := by
  induction G with
  | nil => exact ⟨-1, .inl ⟨rfl, rfl⟩⟩
  | cons a G ih =>
    obtain ⟨v, ⟨rfl, rfl⟩ | ⟨h1, h2⟩⟩ := ih
    · exact ⟨a, .inr ⟨by simp, by simp⟩⟩
    · by_cases h : a ≤ v
      · exact ⟨v, .inr ⟨by simp [h1], fun x hx => by rcases List.mem_cons.1 hx with rfl | hx; exact h; exact h2 x hx⟩⟩
      · exact ⟨a, .inr ⟨by simp, fun x hx => by rcases List.mem_cons.1 hx with rfl | hx; exact Int.le_refl _; have := h2 x hx; omega⟩⟩
theorem least_ex (G : List Int) : ∃ v, LeastP G v := by
  induction G with
  | nil => exact ⟨-1, .inl ⟨rfl, rfl⟩⟩
  | cons a G ih =>
    obtain ⟨v, ⟨rfl, rfl⟩ | ⟨h1, h2⟩⟩ := ih
    · exact ⟨a, .inr ⟨by simp, by simp⟩⟩
    · by_cases h : v ≤ a
      · exact ⟨v, .inr ⟨by simp [h1], fun x hx => by rcases List.mem_cons.1 hx with rfl | hx; exact h; exact h2 x hx⟩⟩
      · exact ⟨a, .inr ⟨by simp, fun x hx => by rcases List.mem_cons.1 hx with rfl | hx; exact Int.le_refl _; have := h2 x hx; omega⟩⟩
theorem goodL_mem {bad : Nat} {L : List Hd} : ∀ (k : Nat) (x : Int), k ≤ L.length → x ∈ goodL bad L k → ∃ s h, s < k ∧ s ≠ bad ∧ L[s]? = some h ∧ okAge h = true ∧ x = ageL h.c
  | 0, x, _, h => by cases h
  | k + 1, x, hk, h => by
    obtain ⟨y, hy⟩ : ∃ y, L[k]? = some y := ⟨_, List.getElem?_eq_getElem (by omega)⟩
    rw [goodL_succ hy] at h
    rcases List.mem_append.1 h with h | h
    · obtain ⟨s, z, h1, h2⟩ := goodL_mem k x (by omega) h
      exact ⟨s, z, by omega, h2⟩
    · split at h
      · cases h
      · rename_i hb
        unfold oneAge at h
        split at h
        · rename_i ho
          exact ⟨k, y, by omega, hb, hy, ho, by simpa using h⟩
        · cases h
theorem goodL_full {bad : Nat} {L : List Hd} : ∀ k, k ≤ L.length → (∀ (s : Nat) (h : Hd), s < k → s ≠ bad → L[s]? = some h → okAge h = true) → (goodL bad L k).length = if bad < k then k - 1 else k
  | 0, _, _ => by simp [goodL]
  | k + 1, hk, h => by
    obtain ⟨y, hy⟩ : ∃ y, L[k]? = some y := ⟨_, List.getElem?_eq_getElem (by omega)⟩
    have ih := goodL_full k (by omega) fun s z h1 => h s z (by omega)
    rw [goodL_succ hy, List.length_append, ih]
    by_cases hb : k = bad
    · rw [if_pos hb]
      simp only [List.length_nil]
      split <;> split <;> omega
    · rw [if_neg hb]
      have := h k y (by omega) hb hy
      unfold oneAge
      rw [if_pos this]
      simp only [List.length_cons, List.length_nil]
      split <;> split <;> omega

/-! ### the ring's nodes -/
section
variable {N : Nat} {F : FltM} {boot : Nat → Int} {on : Nat → Nat → Bool} {cell : Nat → Nat → List Value}
variable (hF : ∀ a ∈ F.acts, a.row.ok) (hc : ∀ t i, okL cellK (cell t i) = true) (hb : ∀ i, 0 ≤ boot i) (h4 : 4 ≤ N) (h16 : N ≤ 16)
theorem ag_len (h4 : 4 ≤ N) (h16 : N ≤ 16) (t i : Nat) : (agT N F boot on cell t i).length = N := agreeL_len N h4 h16 _
theorem not_bd {s : Nat} (h : s ≠ F.at_ % N) : ¬ Bd N F s := fun hb => h hb.1.symm
theorem cold_le (hb : ∀ i, 0 ≤ boot i) (t i : Nat) : coldM (pwT N F boot on cell t i) ≤ t + 1 := by
  have h := (pw_inv (N := N) (F := F) (on := on) (cell := cell) hb (t + 1) i).2.2.2.2.1
  rw [ndT_succ, ((ndT N F boot on cell t i).step_s N (boot i) (on t i) (agT N F boot on cell t i)).2.2] at h
  unfold coldM pwT
  split
  · push_cast at h; exact h
  · omega
include hF hc h4 h16
theorem ag_at {t i s : Nat} (hi : i < N) (hs : s < N) (bi : ¬ Bd N F i) (bs : ¬ Bd N F s) (ho : on t i = true) {x : Hd} (hx : (agT N F boot on cell t i)[s]? = some x) (his : x.is = true) :
    2 * N ≤ t ∧ sayT N F boot on cell (t - 2 * N) s = true ∧ ageL x.c = ageT N F boot on cell (t - 2 * N) s := by
  obtain ⟨y, hy, -, h2⟩ := agree_rightO (bt_say (boot := boot) (on := on) hF hc) h4 h16 hi hs bi bs ho
  have : (agT N F boot on cell t i)[s]? = some y := hy
  rw [hx] at this
  cases this
  obtain ⟨h3, h5, h6⟩ := h2 his
  refine ⟨h3, h5, ?_⟩
  rw [h6]
  exact age_nrm (hc _ _) (ageT_range N F boot on cell _ _).1 (ageT_range N F boot on cell _ _).2
include hb
theorem age_com : ∀ t i : Nat, i < N → ¬ Bd N F i → on t i = true → ageT N F boot on cell t i ≤ t + 1 ∧ (0 ≤ comT N F boot on cell t i → comT N F boot on cell t i + 2 * N ≤ t + 1) := by
  intro t
  induction t using Nat.strongRecOn with
  | _ t ih =>
    intro i hi bi ho
    have hl := ag_len (F := F) (boot := boot) (on := on) (cell := cell) h4 h16 t i
    obtain ⟨least, hle⟩ := least_ex (goodL (F.at_ % N) (agT N F boot on cell t i) N)
    obtain ⟨most, hmo⟩ := most_ex (goodL (F.at_ % N) (agT N F boot on cell t i) N)
    have hm := (middle h4 h16 hl (F.at_ % N) hle hmo).1
    have h2 : 0 ≤ comT N F boot on cell t i → comT N F boot on cell t i + 2 * N ≤ t + 1 := fun h0 => by
      obtain ⟨k1, k2, k3⟩ := hm h0
      rcases hmo with ⟨he, -⟩ | ⟨hmem, -⟩
      · rw [he] at k1; simp at k1; omega
      · obtain ⟨s, x, hs, hsb, hx, hok, rfl⟩ := goodL_mem N most (by omega) hmem
        unfold okAge at hok
        simp only [Bool.and_eq_true] at hok
        obtain ⟨q1, q2, q3⟩ := ag_at hF hc h4 h16 hi hs bi (not_bd hsb) ho hx hok.1
        have q4 : on (t - 2 * N) s = true := by unfold sayT at q2; simp at q2; exact q2.1
        have := (ih (t - 2 * N) (by omega) s hs (not_bd hsb) q4).1
        rw [← q3] at this
        have k3' : comT N F boot on cell t i ≤ ageL x.c := k3
        omega
    refine ⟨?_, h2⟩
    have hcl := cold_le (N := N) (F := F) (on := on) (cell := cell) hb t i
    rw [ageT_eq]
    unfold ownF
    by_cases hoc : okI (comT N F boot on cell t i) = true
    · rw [if_pos hoc]
      unfold okI at hoc
      simp only [Bool.and_eq_true, decide_eq_true_eq] at hoc
      have := h2 hoc.1
      split <;> omega
    · rw [if_neg hoc]
      split <;> omega
theorem age_of {t i : Nat} (ht : t ≤ 1000000) (hi : i < N) (bi : ¬ Bd N F i) (ho : on t i = true) (h0 : 0 ≤ comT N F boot on cell t i) : ageT N F boot on cell t i = comT N F boot on cell t i + 2 * N := by
  have h2 := (age_com hF hc hb h4 h16 t i hi bi ho).2 h0
  rw [ageT_eq]
  unfold ownF
  have hoc : okI (comT N F boot on cell t i) = true := by simp [okI]; omega
  rw [if_pos hoc, if_pos (by simp [okI]; omega)]
/-! ### once all are on -/
theorem age_say {t i : Nat} (ht : t ≤ 1000000) (hi : i < N) (bi : ¬ Bd N F i) (hs : sayT N F boot on cell t i = true) : 0 ≤ ageT N F boot on cell t i := by
  have hs' := hs
  unfold sayT at hs'
  simp at hs'
  obtain ⟨ho, h2⟩ := hs'
  by_cases h0 : okI (comT N F boot on cell t i) = true
  · unfold okI at h0
    simp only [Bool.and_eq_true, decide_eq_true_eq] at h0
    have := age_of hF hc hb h4 h16 ht hi bi ho h0.1
    omega
  · have hp := (pw_inv (N := N) (F := F) (on := on) (cell := cell) hb (t + 1) i).2.2.2
    rw [ndT_succ, ((ndT N F boot on cell t i).step_s N (boot i) (on t i) (agT N F boot on cell t i)).2.2] at hp
    rw [ageT_eq]
    unfold ownF
    rw [if_neg h0]
    have e : coldM (pwT N F boot on cell t i) = (pwM (boot i) (ndT N F boot on cell t i) (on t i)).2.2 := by
      unfold coldM
      rw [if_pos h2]; rfl
    rw [e, if_pos (by unfold okI; simp; omega)]
    omega
variable {T : Nat} (hall : ∀ t i, i < N → T ≤ t → on t i = true) (hsy : ∀ t k, k < N → ¬ Bd N F k → T ≤ t → sayT N F boot on cell t k = true)
include hall hsy
theorem full_at {t i s : Nat} (ht : T + 2 * N ≤ t) (hi : i < N) (hs : s < N) (bi : ¬ Bd N F i) (bs : ¬ Bd N F s) : ∃ x, (agT N F boot on cell t i)[s]? = some x ∧ x.is = true ∧ ageL x.c = ageT N F boot on cell (t - 2 * N) s := by
  have _ := hb
  obtain ⟨y, hy, h1, -⟩ := agree_rightO (bt_say (boot := boot) (on := on) hF hc) h4 h16 hi hs bi bs (hall t i hi (by omega))
  have h6 := h1 T ht hall hsy
  refine ⟨y, hy, by rw [h6], ?_⟩
  rw [h6]
  exact age_nrm (hc _ _) (ageT_range N F boot on cell _ _).1 (ageT_range N F boot on cell _ _).2
theorem com_ok {t i : Nat} (ht : T + 2 * N ≤ t) (ht2 : t ≤ 1000000) (hi : i < N) (bi : ¬ Bd N F i) : 0 ≤ comT N F boot on cell t i ∧
    (∀ a, (∀ s, s < N → ¬ Bd N F s → ageT N F boot on cell (t - 2 * N) s = a) → comT N F boot on cell t i = a ∧ evenF N (agT N F boot on cell t i) (comT N F boot on cell t i) = true) := by
  have hl := ag_len (F := F) (boot := boot) (on := on) (cell := cell) h4 h16 t i
  have hat : F.at_ % N < N := Nat.mod_lt _ (by omega)
  obtain ⟨least, hle⟩ := least_ex (goodL (F.at_ % N) (agT N F boot on cell t i) N)
  obtain ⟨most, hmo⟩ := most_ex (goodL (F.at_ % N) (agT N F boot on cell t i) N)
  have hm := (middle h4 h16 hl (F.at_ % N) hle hmo).2
  have hfl := goodL_full (bad := F.at_ % N) (L := agT N F boot on cell t i) N (by omega) fun s x hs hsb hx => by
    obtain ⟨y, hy, hyi, hya⟩ := full_at hF hc hb h4 h16 hall hsy ht hi hs bi (not_bd hsb)
    rw [hx] at hy
    cases hy
    have h0 := age_say hF hc hb h4 h16 (t := t - 2 * N) (by omega) hs (not_bd hsb) (hsy _ _ hs (not_bd hsb) (by omega))
    have h1 := (ageT_range N F boot on cell (t - 2 * N) s).2
    unfold okAge okI
    rw [hyi, hya]
    simp
    omega
  rw [if_pos hat] at hfl
  obtain ⟨k1, k2⟩ := hm hfl
  refine ⟨k1, fun a ha => ?_⟩
  have hmem : ∀ x ∈ goodL (F.at_ % N) (agT N F boot on cell t i) N, x = a := fun x hx => by
    obtain ⟨s, y, hs, hsb, hy, -, rfl⟩ := goodL_mem N x (by omega) hx
    obtain ⟨z, hz, -, hza⟩ := full_at hF hc hb h4 h16 hall hsy ht hi hs bi (not_bd hsb)
    rw [hy] at hz
    cases hz
    rw [hza, ha s hs (not_bd hsb)]
  have hne : ∀ v, (goodL (F.at_ % N) (agT N F boot on cell t i) N = [] ∧ v = (-1 : Int)) → False := fun v h => by
    rw [h.1] at hfl; simp at hfl; omega
  have e1 : least = a := by
    rcases hle with h | ⟨h, -⟩
    · exact (hne _ h).elim
    · exact hmem _ h
  have e2 : most = a := by
    rcases hmo with h | ⟨h, -⟩
    · exact (hne _ h).elim
    · exact hmem _ h
  have e3 : comT N F boot on cell t i = a := (k2 (by rw [e1, e2])).trans e1
  refine ⟨e3, ?_⟩
  have hcnt := evenN_ge (L := agT N F boot on cell t i) (c := a) (B := F.at_ % N) (fun s x hsb hx => by
    have hs : s < N := by rw [← hl]; exact (List.getElem?_eq_some_iff.1 hx).1
    obtain ⟨z, hz, hzi, hza⟩ := full_at hF hc hb h4 h16 hall hsy ht hi hs bi (not_bd hsb)
    rw [hx] at hz
    cases hz
    exact ⟨hzi, by rw [hza, ha s hs (not_bd hsb)]⟩) N (by omega)
  rw [if_pos hat] at hcnt
  have hr := commonF_range (N : Int) (agT N F boot on cell t i)
  have hr2 : comT N F boot on cell t i ≤ 1099511627776 := hr.2
  unfold evenF
  simp only [Bool.and_eq_true, decide_eq_true_eq, Int.toNat_natCast]
  rw [← e3] at hcnt
  exact ⟨⟨⟨⟨by omega, by omega⟩, k1⟩, hr2⟩, by omega⟩
end
end Go.Proofs.YtdilbjikeilhbaaGreatDoor
namespace Go.Proofs.YtdilbjikeilhbaaGreatDoor
open Go.RowKit
set_option linter.unusedVariables false
set_option linter.unusedSimpArgs false

section
variable {N : Nat} {F : FltM} {cell : Nat → Nat → List Value}
def b0 (_ : Nat) : Int := 0
def onA (_ _ : Nat) : Bool := true
variable (hF : ∀ a ∈ F.acts, a.row.ok) (hc : ∀ t i, okL cellK (cell t i) = true) (h4 : 4 ≤ N) (h16 : N ≤ 16) (hbd : ∀ s, ¬ Bd N F s)
theorem net_pw : ∀ t i : Nat, t ≤ 1000000 → pwT N F b0 onA cell t i = (2, 0, (t : Int))
  | 0, i, _ => rfl
  | t + 1, i, h => by
    have ih := net_pw t i (by omega)
    unfold pwT
    have e := (ndT N F b0 onA cell t i).step_s N (b0 i) (onA t i) (agT N F b0 onA cell t i)
    rw [← ndT_succ] at e
    obtain ⟨e1, e2, e3⟩ := e
    have ih' : pwM (b0 i) (ndT N F b0 onA cell t i) (onA t i) = (2, 0, (t : Int)) := ih
    rw [ih'] at e1 e2 e3
    show pwOn 0 (ndT N F b0 onA cell (t + 1) i).s (ndT N F b0 onA cell (t + 1) i).left (ndT N F b0 onA cell (t + 1) i).cold = _
    rw [e1, e2, e3]
    unfold pwOn
    simp
    omega
theorem net_sayA (t i : Nat) : sayT N F b0 onA cell t i = true := say_on (a := 0) (fun _ => Int.le_refl _) (fun _ _ _ => rfl) (by show ((0 : Nat) : Int) + 0 ≤ t; omega)
include hF hc h4 h16 hbd in
theorem net_com0 {t i : Nat} (ht : t < 2 * N) (hi : i < N) : comT N F b0 onA cell t i = -1 := by
  have hl := ag_len (F := F) (boot := b0) (on := onA) (cell := cell) h4 h16 t i
  have hn : ∀ x ∈ (agT N F b0 onA cell t i).take (N : Int).toNat, oneAge x = [] := fun x hx => by
    obtain ⟨s, hs⟩ := List.mem_iff_getElem?.1 (List.mem_of_mem_take hx)
    have hsl : s < N := by have := (List.getElem?_eq_some_iff.1 hs).1; omega
    unfold oneAge okAge
    cases his : x.is with
    | false => rfl
    | true =>
      have := (ag_at hF hc h4 h16 hi hsl (hbd i) (hbd s) rfl hs his).1
      omega
  have he : agesOf ((agT N F b0 onA cell t i).take (N : Int).toNat) = [] := by
    unfold agesOf
    rw [List.flatMap_eq_nil_iff]
    exact hn
  unfold comT commonF
  rw [if_pos ⟨by omega, by omega⟩, he, if_pos (by simp; omega)]
include hF hc h4 h16 hbd in
theorem net_age : ∀ t i : Nat, t ≤ 100000 → i < N → ageT N F b0 onA cell t i = t := by
  intro t
  induction t using Nat.strongRecOn with
  | _ t ih =>
    intro i ht hi
    by_cases h : t < 2 * N
    · rw [ageT_eq, net_com0 hF hc h4 h16 hbd h hi, net_pw t i (by omega)]
      unfold ownF coldM okI
      simp
      omega
    · have hk := com_ok (boot := b0) (on := onA) (T := 0) hF hc (fun _ => Int.le_refl _) h4 h16 (fun _ _ _ _ => rfl) (fun t k _ _ _ => net_sayA t k) (t := t) (i := i) (by omega) (by omega) hi (hbd i)
      have e := (hk.2 (t - 2 * N : Nat) fun s hs _ => ih (t - 2 * N) (by omega) s (by omega) hs).1
      rw [age_of (boot := b0) (on := onA) hF hc (fun _ => Int.le_refl _) h4 h16 (by omega) hi (hbd i) rfl hk.1, e]
      omega
include hF hc h4 h16 hbd in
theorem net_even {t i : Nat} (ht : t ≤ 100000) (hi : i < N) : evenF N (agT N F b0 onA cell t i) (comT N F b0 onA cell t i) = decide (2 * N ≤ t) := by
  by_cases h : 2 * N ≤ t
  · rw [decide_eq_true h]
    have hk := com_ok (boot := b0) (on := onA) (T := 0) hF hc (fun _ => Int.le_refl _) h4 h16 (fun _ _ _ _ => rfl) (fun t k _ _ _ => net_sayA t k) (t := t) (i := i) (by omega) (by omega) hi (hbd i)
    exact (hk.2 (t - 2 * N : Nat) fun s hs _ => net_age hF hc h4 h16 hbd (t - 2 * N) s (by omega) hs).2
  · rw [decide_eq_false h]
    cases he : evenF N (agT N F b0 onA cell t i) (comT N F b0 onA cell t i) with
    | false => rfl
    | true =>
      have hl := ag_len (F := F) (boot := b0) (on := onA) (cell := cell) h4 h16 t i
      have := (even_parts hl he).1
      rw [net_com0 hF hc h4 h16 hbd (by omega) hi] at this
      omega
include hF hc h4 h16 hbd in
theorem net_long : ∀ t i : Nat, t ≤ 100000 → i < N → (ndT N F b0 onA cell t i).long = ((min (t - 2 * N) (2 * N) : Nat) : Int)
  | 0, i, _, _ => by show (0 : Int) = _; simp
  | t + 1, i, ht, hi => by
    have ih := net_long t i (by omega) hi
    have he := net_even hF hc h4 h16 hbd (t := t) (i := i) (by omega) hi
    rw [ndT_succ]
    unfold NdM.step
    rw [if_pos (show onA t i = true from rfl)]
    simp only [longN, cqOn]
    rw [show commonF N (agT N F b0 onA cell t i) = comT N F b0 onA cell t i from rfl, he, ih]
    by_cases h : 2 * N ≤ t
    · rw [decide_eq_true h, if_pos rfl]; omega
    · rw [decide_eq_false h, if_neg (by simp)]; omega
include hF hc h4 h16 hbd in
theorem net_sure {t i : Nat} (ht : t + 1 ≤ 4 * N) (hi : i < N) : (ndT N F b0 onA cell (t + 1) i).sure = decide (t + 1 = 4 * N) := by
  have hl := net_long hF hc h4 h16 hbd (t + 1) i (by omega) hi
  have hs := sure_iff (N := N) (F := F) (boot := b0) (on := onA) (cell := cell) t i
  by_cases h : t + 1 = 4 * N
  · rw [decide_eq_true h]
    exact hs.2 ⟨rfl, by rw [hl]; omega⟩
  · rw [decide_eq_false h]
    cases hx : (ndT N F b0 onA cell (t + 1) i).sure with
    | false => rfl
    | true =>
      have := (hs.1 hx).2
      rw [hl] at this
      omega
end
theorem net_shows {F : FltM} {cell : Nat → Nat → List Value} (hF : ∀ a ∈ F.acts, a.row.ok) (hc : ∀ t i, okL cellK (cell t i) = true) (hbd : ∀ s, ¬ Bd 4 F s) {i : Nat} (hi : i < 4) : (ndT 4 F b0 onA cell 16 i).shows = 15 := by
  rw [show (16 : Nat) = 15 + 1 from rfl, shows_on rfl, ck_full (by omega) (fun _ _ => rfl)]
  have e : ((List.range (2 * 4)).map fun j => ageT 4 F b0 onA cell (15 + 1 - 2 * 4 + j) i) = (List.range 8).map fun j : Nat => ((8 + j : Nat) : Int) := by
    refine List.map_congr_left fun j hj => ?_
    have := List.mem_range.1 hj
    exact net_age hF hc (by omega) (by omega) hbd _ i (by omega) hi
  rw [e]
  decide
end Go.Proofs.YtdilbjikeilhbaaGreatDoor
namespace Go.Proofs.YtdilbjikeilhbaaGreatDoor
open Go.RowKit
set_option linter.unusedVariables false
set_option linter.unusedSimpArgs false

def netCell (c : Cfg) (_ _ : Nat) : List Value := .int .i64 0 :: (saidZ ++ (saidZ ++ firstV c))
def noF (N : Nat) : FltM := ⟨true, 0, 0, []⟩
section
variable (c : Cfg)
noncomputable def ntR (t : Nat) : RingM := (btT c.N.toNat (noF c.N.toNat) b0 onA (netCell c) t).R
noncomputable def ntN (t i : Nat) : NdM := ndT c.N.toNat (noF c.N.toNat) b0 onA (netCell c) t i
noncomputable def ntI (t i : Nat) : Nat → List Rw := (ntR c t).insM i
noncomputable def ntK (t i : Nat) : LkM := match t with
  | 0 => lkN (-1) (-1) (firstV c)
  | t + 1 => ⟨2, ageT c.N.toNat (noF c.N.toNat) b0 onA (netCell c) t i, (ntN c (t + 1) i).shows, (ntN c (t + 1) i).sure, false, (0, 0, 0), 0, saidZ, firstV c, saidZ⟩
noncomputable def ntS (t i : Nat) : NdS := ⟨((ntN c t i).s, (ntN c t i).left, (ntN c t i).cold), (ntR c t).lane i, (ntN c t i).ck, (ntN c t i).long, (0, 0, 0), ntK c t i⟩
theorem ntR_N (t : Nat) : (ntR c t).N = c.N.toNat ∧ (ntR c t).F = noF c.N.toNat := by
  unfold ntR
  rw [← rgT_bt]
  exact rgT_N _ _ _ _ t
theorem said_n (L : LaneM) (r : Rw) : (L.said r).n = L.n ∧ (L.said r).me = L.me ∧ (L.said r).T = L.T := by
  unfold LaneM.said
  split <;> exact ⟨rfl, rfl, rfl⟩
theorem ntR_succ (t : Nat) : ntR c (t + 1) = ((ntR c t).hear (onA t)).say fun i => ownN c.N.toNat (b0 i) (onA t i) (((ntR c t).hear (onA t)).held i) (netCell c t i) (ntN c t i) := rfl
theorem hear_lane (t i : Nat) : ((ntR c t).hear (onA t)).lane i = ((ntR c t).lane i).put (ntI c t i) := by
  show (if onA t i = true then (if (ntR c t).on i = true then (ntR c t).lane i else LaneM.new (ntR c t).N i).put ((ntR c t).insM i) else (ntR c t).lane i) = _
  rw [if_pos (show onA t i = true from rfl)]
  cases t with
  | zero => rfl
  | succ t =>
    have : (ntR c (t + 1)).on i = true := rfl
    rw [if_pos this]
    rfl
theorem lane_succ (t i : Nat) : (ntR c (t + 1)).lane i = (((ntR c t).lane i).put (ntI c t i)).said (ownN c.N.toNat (b0 i) (onA t i) (((ntR c t).hear (onA t)).held i) (netCell c t i) (ntN c t i)) := by
  rw [ntR_succ, ← hear_lane]
  rfl
theorem lane_n : ∀ t i : Nat, ((ntR c t).lane i).n = c.N.toNat ∧ ((ntR c t).lane i).me = i ∧ ((ntR c t).lane i).T = t
  | 0, i => ⟨rfl, rfl, rfl⟩
  | t + 1, i => by
    obtain ⟨h1, h2, h3⟩ := lane_n t i
    rw [lane_succ]
    obtain ⟨e1, e2, e3⟩ := said_n (((ntR c t).lane i).put (ntI c t i)) (ownN c.N.toNat (b0 i) (onA t i) (((ntR c t).hear (onA t)).held i) (netCell c t i) (ntN c t i))
    rw [e1, e2, e3]
    exact ⟨h1, h2, congrArg (· + 1) h3⟩
theorem hear_held (t i : Nat) : ((ntR c t).hear (onA t)).held i = tab c.N.toNat (((ntR c t).lane i).put (ntI c t i)).held := by
  unfold RingM.held
  rw [if_pos (show ((ntR c t).hear (onA t)).on i = true from rfl), hear_lane]
  show tab (ntR c t).N _ = _
  rw [(ntR_N c t).1]
variable (hB : ∀ z ∈ c.B, z = 0)
include hB in
theorem boot0 (i : Nat) : (NdK.new c i).boot = 0 := by
  show c.B.getD i 0 = 0
  rw [List.getD]
  cases h : c.B[i]? with
  | none => rfl
  | some z => exact hB z (List.mem_of_getElem? h)
theorem ntH (t i : Nat) : tkH (NdK.new c i) (ntS c t i) (ntI c t i) = ((ntR c t).hear (onA t)).held i := by
  rw [hear_held]
  show tab ((ntR c t).lane i).n _ = _
  rw [(lane_n c t i).1]
  rfl
theorem ntA (t i : Nat) : tkA (NdK.new c i) (ntS c t i) (ntI c t i) = agT c.N.toNat (noF c.N.toNat) b0 onA (netCell c) t i := by
  unfold tkA agT
  rw [ntH, heldO_bt]
  rfl
theorem ntC (t i : Nat) : tkC (NdK.new c i) (ntS c t i) (ntI c t i) = comT c.N.toNat (noF c.N.toNat) b0 onA (netCell c) t i := by
  unfold tkC comT
  rw [ntA]
  rfl
include hB in
theorem ntQ (t i : Nat) : tkQ (NdK.new c i) (ntS c t i) = pwT c.N.toNat (noF c.N.toNat) b0 onA (netCell c) t i := by
  unfold tkQ
  rw [boot0 c hB]
  rfl
include hB in
theorem ntAge {t : Nat} (ht : t ≤ 1000000) (i : Nat) : tkAge (NdK.new c i) (ntS c t i) (ntI c t i) = ageT c.N.toNat (noF c.N.toNat) b0 onA (netCell c) t i := by
  rw [ageT_eq]
  unfold tkAge
  rw [ntC, ntQ c hB, net_pw t i ht]
  rfl
include hB in
theorem ntRow {t : Nat} (ht : t ≤ 1000000) (i : Nat) : tkRow (NdK.new c i) (ntS c t i) (ntI c t i) = ownN c.N.toNat (b0 i) (onA t i) (((ntR c t).hear (onA t)).held i) (netCell c t i) (ntN c t i) := by
  have hp : onA t i = true ∧ (pwM (b0 i) (ntN c t i) (onA t i)).1 = 2 := ⟨rfl, by
    have := net_pw (N := c.N.toNat) (F := noF c.N.toNat) (cell := netCell c) t i ht
    unfold pwT at this
    show (pwM (b0 i) (ndT c.N.toNat (noF c.N.toNat) b0 onA (netCell c) t i) (onA t i)).1 = 2
    rw [this]⟩
  unfold ownN
  rw [if_pos hp]
  unfold tkRow
  rw [ntAge c hB ht, ntH]
  have e : ageT c.N.toNat (noF c.N.toNat) b0 onA (netCell c) t i = ageM c.N.toNat (b0 i) (onA t i) (agreeL c.N.toNat (((ntR c t).hear (onA t)).held i)) (ntN c t i) := by
    unfold ageT agT
    rw [heldO_bt]
    rfl
  rw [e]
  rfl
include hB in
theorem ntX {t : Nat} (ht : t ≤ 1000000) (i : Nat) : tkX (NdK.new c i) (ntS c t i) (ntI c t i) = ntS c (t + 1) i := by
  have hs : ntN c (t + 1) i = (ntN c t i).step c.N.toNat (b0 i) (onA t i) (agT c.N.toNat (noF c.N.toNat) b0 onA (netCell c) t i) := ndT_succ _ _ _ _ _ t i
  have hq := ntQ c hB t i
  have hage := ntAge c hB ht i
  have hw : tkW (NdK.new c i) (ntS c t i) (ntI c t i) = (ntN c (t + 1) i).ck := by
    rw [hs]
    unfold tkW NdM.step
    rw [if_pos (show onA t i = true from rfl), hage]
    rfl
  have hl : tkL (NdK.new c i) (ntS c t i) (ntI c t i) = (ntN c (t + 1) i).long := by
    rw [hs]
    unfold tkL NdM.step
    rw [if_pos (show onA t i = true from rfl), ntA, ntC]
    rfl
  have hsu : tkSure (NdK.new c i) (ntS c t i) (ntI c t i) = (ntN c (t + 1) i).sure := by
    unfold tkSure
    rw [hl, hs]
    unfold NdM.step
    rw [if_pos (show onA t i = true from rfl)]
    rfl
  have hsh : showF (tkW (NdK.new c i) (ntS c t i) (ntI c t i)) = (ntN c (t + 1) i).shows := by
    rw [hw, hs]
    unfold NdM.step
    rw [if_pos (show onA t i = true from rfl)]
  have hqq : tkQ (NdK.new c i) (ntS c t i) = ((ntN c (t + 1) i).s, (ntN c (t + 1) i).left, (ntN c (t + 1) i).cold) := by
    rw [hq, hs]
    obtain ⟨e1, e2, e3⟩ := (ntN c t i).step_s c.N.toNat (b0 i) (onA t i) (agT c.N.toNat (noF c.N.toNat) b0 onA (netCell c) t i)
    rw [e1, e2, e3]
    rfl
  have hgot : (ntS c t i).k.got = saidZ := by cases t <;> rfl
  have hlane : (((ntS c t i).L.put (ntI c t i)).said (tkRow (NdK.new c i) (ntS c t i) (ntI c t i))) = (ntR c (t + 1)).lane i := by
    rw [lane_succ, ntRow c hB ht]
    rfl
  unfold tkX tkK
  rw [hqq, hlane, hw, hl, hsu, hage, hgot]
  rw [show showF (ntN c (t + 1) i).ck = (ntN c (t + 1) i).shows from by rw [← hw]; exact hsh]
  rfl
noncomputable def ntO (t i q : Nat) : List Rw := ((ntR c (t + 1)).lane i).out q
theorem nt_sent (t τ i k : Nat) (h : τ < t) : (ntR c t).sent[τ]? = some (sentT c.N.toNat (noF c.N.toNat) onA (ownT c.N.toNat (noF c.N.toNat) b0 onA (netCell c)) τ) := by
  unfold ntR
  rw [← rgT_bt]
  exact rgT_sent _ _ _ _ t τ h
theorem nt_word (τ i k : Nat) : sentT c.N.toNat (noF c.N.toNat) onA (ownT c.N.toNat (noF c.N.toNat) b0 onA (netCell c)) τ i k = ntO c τ i (if k < 2 then 0 else 2) := by
  unfold sentT
  rw [rgT_bt]
  show ((ntR c τ).hear (onA τ)).outM _ i k = _
  have hod : ((ntR c τ).hear (onA τ)).odd i k = false := by
    unfold RingM.odd
    rw [show ((ntR c τ).hear (onA τ)).F = noF c.N.toNat from (ntR_N c τ).2]
    simp [noF]
  have hw : ∀ own q, ((ntR c τ).hear (onA τ)).word own i q = ((((ntR c τ).hear (onA τ)).lane i).said (own i)).out q := fun own q => by
    unfold RingM.word
    rw [if_pos (by rw [hear_lane]; rfl)]
  unfold RingM.outM RingM.saidM
  rw [hod]
  simp only [Bool.false_eq_true, if_false, hw]
  unfold ntO
  rw [ntR_succ]
  show (if k < 2 then _ else _) = _
  by_cases hk : k < 2
  · rw [if_pos hk, if_pos hk]; rfl
  · rw [if_neg hk, if_neg hk]; rfl
end
end Go.Proofs.YtdilbjikeilhbaaGreatDoor
namespace Go.Proofs.YtdilbjikeilhbaaGreatDoor
open Go.RowKit
set_option linter.unusedVariables false
set_option linter.unusedSimpArgs false

theorem firstV_ok (c : Cfg) : okL viewK (firstV c) = true := rfl
theorem netCell_ok (c : Cfg) (t i : Nat) : okL cellK (netCell c t i) = true := by
  show (okK (.i .i64) (.int .i64 0) && okL (saidK ++ (saidK ++ viewK)) (saidZ ++ (saidZ ++ firstV c))) = true
  rw [okL_append (by decide) (okL_append (by decide) (firstV_ok c))]
  rfl
theorem noF_bd (N s : Nat) : ¬ Bd N (noF N) s := fun h => by
  unfold Bd at h
  simp [noF] at h
section
variable (c : Cfg) (hok : RefOk c) (hB : ∀ z ∈ c.B, z = 0)
theorem nt_ck : ∀ t i : Nat, ∀ a ∈ (ntN c t i).ck, -1 ≤ a ∧ a ≤ 1099511627776
  | 0, i, a, h => by cases h
  | t + 1, i, a, h => by
    have ih := nt_ck t i
    have hs : ntN c (t + 1) i = (ntN c t i).step c.N.toNat (b0 i) (onA t i) (agT c.N.toNat (noF c.N.toNat) b0 onA (netCell c) t i) := ndT_succ _ _ _ _ _ t i
    rw [hs] at h
    unfold NdM.step at h
    rw [if_pos (show onA t i = true from rfl)] at h
    have h2 := List.mem_of_mem_drop h
    rcases List.mem_append.1 h2 with h2 | h2
    · exact ih a h2
    · rw [List.mem_singleton] at h2
      rw [h2]
      exact ownF_range _ _ _
include hok hB in
theorem nt_ok {t i : Nat} (ht : t ≤ 100000) (hi : (i : Int) < c.N) : NdOk (NdK.new c i) (ntS c t i) := by
  have hn := hok.n
  have hp := pw_inv (N := c.N.toNat) (F := noF c.N.toNat) (boot := b0) (on := onA) (cell := netCell c) (fun _ => Int.le_refl _) t i
  obtain ⟨p1, p2, p3, p4, p5, p6⟩ := hp
  have hb := boot0 c hB i
  have hl := lane_n c t i
  exact { hok := hok, hn := by show c.N = ((c.N.toNat : Nat) : Int); omega, h4 := by show 4 ≤ c.N.toNat; omega, h16 := by show c.N.toNat ≤ 16; omega, hs := rfl, hV := len_firstV c, hVa := all_firstV c, hVk := firstV_ok c, hk := by cases t <;> exact ⟨rfl, len_firstV c, rfl⟩, hL := hl.1, hT := by show ((ntR c t).lane i).T ≤ _; rw [hl.2.2]; omega, q1 := p1, b0 := by rw [hb]; decide, b1 := by rw [hb]; decide, l0 := p2, l1 := by show (ntN c t i).left ≤ 4096; have h9 : (ntN c t i).left ≤ 0 := p3; omega, c0 := by show -1 ≤ (ntN c t i).cold; have h9 : 0 ≤ (ntN c t i).cold := p4; omega, c1 := by show (ntN c t i).cold ≤ _; have h9 : (ntN c t i).cold ≤ t := p5; omega, hw := nt_ck c t i, hwl := ck_len t i, g0 := long_ge0 t i, g1 := by show (ntN c t i).long ≤ 1000000; have h9 : (ntN c t i).long ≤ 2 * (c.N.toNat : Nat) := long_le t i; omega, hr := by cases t <;> rfl }
theorem ntSure (t i : Nat) : tkSure (NdK.new c i) (ntS c t i) (ntI c t i) = (ntN c (t + 1) i).sure := by
  have hs : ntN c (t + 1) i = (ntN c t i).step c.N.toNat (b0 i) (onA t i) (agT c.N.toNat (noF c.N.toNat) b0 onA (netCell c) t i) := ndT_succ _ _ _ _ _ t i
  rw [hs]
  unfold tkSure tkL NdM.step
  rw [if_pos (show onA t i = true from rfl), ntA, ntC]
  rfl
include hB in
theorem ntShows {t : Nat} (ht : t ≤ 1000000) (i : Nat) : showF (tkW (NdK.new c i) (ntS c t i) (ntI c t i)) = (ntN c (t + 1) i).shows := by
  have hs : ntN c (t + 1) i = (ntN c t i).step c.N.toNat (b0 i) (onA t i) (agT c.N.toNat (noF c.N.toNat) b0 onA (netCell c) t i) := ndT_succ _ _ _ _ _ t i
  rw [hs]
  unfold tkW NdM.step
  rw [if_pos (show onA t i = true from rfl), ntAge c hB ht]
  rfl
include hok hB in
theorem nt_idle (h4 : c.N = 4) {t i : Nat} (ht : t < 16) (hi : i < 4) : Idle c (showF (tkW (NdK.new c i) (ntS c t i) (ntI c t i))) (tkSure (NdK.new c i) (ntS c t i) (ntI c t i)) := by
  have hN : c.N.toNat = 4 := by omega
  have hsu := net_sure (N := c.N.toNat) (F := noF c.N.toNat) (cell := netCell c) (by simp [noF]) (netCell_ok c) (by omega) (by omega) (noF_bd _) (t := t) (i := i) (by omega) (by omega)
  by_cases h : t + 1 = 16
  · obtain rfl : t = 15 := by omega
    have hsh : (ntN c 16 i).shows = 15 := by
      have := net_shows (F := noF c.N.toNat) (cell := netCell c) (by simp [noF]) (netCell_ok c) (by intro s; rw [← hN]; exact noF_bd _ s) hi
      unfold ntN
      rw [hN] at this ⊢
      exact this
    rw [ntShows c hB (by omega), hsh]
    refine .inr (.inr ?_)
    have hlo := hok.lo
    have hs := hok.s
    have hr := hok.roundV
    unfold ofT
    simp only
    rw [show (15 : Int) % roundV c = 15 from Int.emod_eq_of_lt (by omega) (by omega), show (15 : Int) % c.lo = 15 from Int.emod_eq_of_lt (by omega) (by omega)]
    omega
  · refine .inl ?_
    rw [ntSure]
    refine (show (ntN c (t + 1) i).sure = _ from hsu).trans ?_
    rw [decide_eq_false]
    omega
end
end Go.Proofs.YtdilbjikeilhbaaGreatDoor
