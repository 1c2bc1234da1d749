/-
  What a vector's common age is; the laws that it obeys. No program in sight.
-/
import Derived.Test.YtlfpchkoeipcdaaMed
import Derived.Test.YtlfpchkoeipcdaaCel
namespace Go.Proofs.Ytlfpchkoeipcdaa
set_option linter.unusedVariables false
set_option linter.unusedSimpArgs false

def okI (a : Int) : Bool := decide (0 ≤ a) && decide (a ≤ 1099511627776)
def okAge (h : Hd) : Bool := h.is && okI (ageL h.c)
def oneAge (h : Hd) : List Int := if okAge h then [ageL h.c] else []
def agesOf (L : List Hd) : List Int := L.flatMap oneAge
def commonF (n : Int) (L : List Hd) : Int := if 4 ≤ n ∧ n ≤ 16 then (if ((agesOf (L.take n.toNat)).length : Int) < n - 1 then -1 else medI (agesOf (L.take n.toNat))) else -1
theorem agesOf_nil : agesOf [] = [] := rfl
theorem agesOf_app (L M : List Hd) : agesOf (L ++ M) = agesOf L ++ agesOf M := by simp [agesOf]
theorem agesOf_succ {L : List Hd} {k : Nat} {h : Hd} (hk : L[k]? = some h) : agesOf (L.take (k + 1)) = agesOf (L.take k) ++ oneAge h := by
  rw [List.take_add_one, hk, agesOf_app]; simp [agesOf]
theorem oneAge_len (h : Hd) : (oneAge h).length ≤ 1 := by unfold oneAge; split <;> simp
theorem agesOf_len (L : List Hd) : (agesOf L).length ≤ L.length := by
  induction L with
  | nil => exact Nat.le_refl _
  | cons h L ih =>
    have := oneAge_len h
    have e : agesOf (h :: L) = oneAge h ++ agesOf L := by simp [agesOf]
    rw [e, List.length_append, List.length_cons]; omega
theorem agesOf_ok {L : List Hd} {x : Int} (h : x ∈ agesOf L) : 0 ≤ x ∧ x ≤ 1099511627776 := by
  unfold agesOf at h
  obtain ⟨y, -, hx⟩ := List.mem_flatMap.1 h
  unfold oneAge at hx
  split at hx
  · rename_i hok
    simp only [List.mem_singleton] at hx
    subst hx
    simp [okAge, okI] at hok
    exact hok.2
  · cases hx
theorem agesOf_perm {L M : List Hd} (h : L.Perm M) : (agesOf L).Perm (agesOf M) := h.flatMap_right _
theorem commonF_perm {n : Int} {L M : List Hd} (hL : L.length ≤ n.toNat) (h : L.Perm M) : commonF n L = commonF n M := by
  have hM : M.length ≤ n.toNat := by rw [← h.length_eq]; exact hL
  unfold commonF
  rw [List.take_of_length_le hL, List.take_of_length_le hM]
  have h2 := agesOf_perm h
  rw [h2.length_eq, medI_perm h2]
theorem commonF_range (n : Int) (L : List Hd) : -1 ≤ commonF n L ∧ commonF n L ≤ 1099511627776 := by
  unfold commonF
  split
  · rename_i hn
    split
    · omega
    · rename_i hl
      have := agesOf_ok (medI_mem (l := agesOf (L.take n.toNat)) (by omega))
      omega
  · omega
theorem commonF_take {n : Int} {L : List Hd} {m : Nat} (h : n.toNat ≤ m) : commonF n (L.take m) = commonF n L := by
  unfold commonF
  rw [List.take_take, Nat.min_eq_left h]

/-- ages of the first k, one aside -/
def goodL (bad : Nat) (L : List Hd) : Nat → List Int
  | 0 => []
  | k + 1 => goodL bad L k ++ (if k = bad then [] else match L[k]? with | some h => oneAge h | none => [])
theorem goodL_succ {bad : Nat} {L : List Hd} {k : Nat} {h : Hd} (hk : L[k]? = some h) : goodL bad L (k + 1) = goodL bad L k ++ (if k = bad then [] else oneAge h) := by
  rw [goodL, hk]
theorem good_perm (bad : Nat) (L : List Hd) : ∀ k, k ≤ L.length → ∃ o : List Int, o.length ≤ 1 ∧ (agesOf (L.take k)).Perm (o ++ goodL bad L k) ∧ (k ≤ bad → o = [])
  | 0, _ => ⟨[], by simp, by simp [goodL, agesOf], fun _ => rfl⟩
  | k + 1, hk => by
    obtain ⟨o, h1, h2, h3⟩ := good_perm bad L k (by omega)
    obtain ⟨h, hh⟩ : ∃ h, L[k]? = some h := ⟨_, List.getElem?_eq_getElem (by omega)⟩
    rw [agesOf_succ hh, goodL_succ hh]
    by_cases hb : k = bad
    · have := h3 (by omega)
      subst this
      rw [if_pos hb, List.append_nil]
      exact ⟨oneAge h, oneAge_len h, (h2.append_right _).trans (by rw [List.nil_append]; exact List.perm_append_comm), fun h => by omega⟩
    · rw [if_neg hb]
      exact ⟨o, h1, by rw [← List.append_assoc]; exact h2.append_right _, fun h => h3 (by omega)⟩
theorem goodL_ok {bad : Nat} {L : List Hd} : ∀ {k : Nat} {x : Int}, x ∈ goodL bad L k → 0 ≤ x ∧ x ≤ 1099511627776
  | 0, x, h => by cases h
  | k + 1, x, h => by
    rw [goodL] at h
    rcases List.mem_append.1 h with h | h
    · exact goodL_ok h
    · split at h
      · cases h
      · split at h
        · rename_i y _
          exact agesOf_ok (L := [y]) (by simpa [agesOf] using h)
        · cases h
theorem goodL_len {bad : Nat} {L : List Hd} : ∀ (k : Nat), (goodL bad L k).length ≤ if bad < k then k - 1 else k
  | 0 => by simp [goodL]
  | k + 1 => by
    have ih := goodL_len (bad := bad) (L := L) k
    rw [goodL, List.length_append]
    by_cases hb : k = bad
    · rw [if_pos hb]; simp; split at ih <;> split <;> omega
    · have : (match L[k]? with | some h => oneAge h | none => [] : List Int).length ≤ 1 := by
        split
        · exact oneAge_len _
        · simp
      generalize (match L[k]? with | some h => oneAge h | none => [] : List Int) = o at this ⊢
      rw [if_neg hb]
      by_cases h1 : bad < k
      · rw [if_pos h1] at ih; rw [if_pos (by omega)]; omega
      · rw [if_neg h1] at ih; rw [if_neg (by omega)]; omega
/-- the least, the greatest of a list; -1: there is none -/
def LeastP (G : List Int) (v : Int) : Prop := (G = [] ∧ v = -1) ∨ (v ∈ G ∧ ∀ x ∈ G, v ≤ x)
def MostAP (G : List Int) (v : Int) : Prop := (G = [] ∧ v = -1) ∨ (v ∈ G ∧ ∀ x ∈ G, x ≤ v)
theorem LeastP.push {G : List Int} {v a : Int} (h : LeastP G v) (hG : ∀ x ∈ G, 0 ≤ x) (ha : 0 ≤ a) : LeastP (G ++ [a]) (if v < 0 ∨ a < v then a else v) := by
  rcases h with ⟨rfl, rfl⟩ | ⟨h1, h2⟩
  · exact .inr ⟨by simp, by simp⟩
  · have := hG v h1
    by_cases hv : a < v
    · rw [if_pos (.inr hv)]
      exact .inr ⟨by simp, fun x hx => by
        rcases List.mem_append.1 hx with hx | hx
        · have := h2 x hx; omega
        · simp at hx; omega⟩
    · rw [if_neg (by omega)]
      exact .inr ⟨by simp [h1], fun x hx => by
        rcases List.mem_append.1 hx with hx | hx
        · exact h2 x hx
        · simp at hx; omega⟩
theorem MostAP.push {G : List Int} {v a : Int} (h : MostAP G v) (ha : 0 ≤ a) : MostAP (G ++ [a]) (max v a) := by
  rcases h with ⟨rfl, rfl⟩ | ⟨h1, h2⟩
  · exact .inr ⟨by simp; omega, by simp; omega⟩
  · by_cases hv : a ≤ v
    · rw [Int.max_eq_left hv]
      exact .inr ⟨by simp [h1], fun x hx => by
        rcases List.mem_append.1 hx with hx | hx
        · exact h2 x hx
        · simp at hx; omega⟩
    · rw [Int.max_eq_right (by omega)]
      exact .inr ⟨by simp, fun x hx => by
        rcases List.mem_append.1 hx with hx | hx
        · have := h2 x hx; omega
        · simp at hx; omega⟩
/-- the stage's theorem -/
theorem middle {n : Nat} (h4 : 4 ≤ n) (h16 : n ≤ 16) {L : List Hd} (hL : L.length = n) (bad : Nat) {least most : Int} (hl : LeastP (goodL bad L n) least) (hm : MostAP (goodL bad L n) most) :
    (0 ≤ commonF n L → n - 2 ≤ (goodL bad L n).length ∧ least ≤ commonF n L ∧ commonF n L ≤ most) ∧
    ((goodL bad L n).length = n - 1 → 0 ≤ commonF n L ∧ (least = most → commonF n L = least)) := by
  obtain ⟨o, h1, h2, -⟩ := good_perm bad L n (by omega)
  have hc : commonF n L = if (agesOf (L.take n)).length < n - 1 then -1 else medI (agesOf (L.take n)) := by
    unfold commonF
    rw [if_pos (by omega)]
    simp only [Int.toNat_natCast]
    split <;> split <;> first | rfl | omega
  have hlen := h2.length_eq
  rw [List.length_append] at hlen
  have key : n - 1 ≤ (agesOf (L.take n)).length → least ≤ medI (agesOf (L.take n)) ∧ medI (agesOf (L.take n)) ≤ most ∧ 0 ≤ medI (agesOf (L.take n)) := by
    intro hge
    have hpos : 0 < (agesOf (L.take n)).length := by omega
    obtain ⟨s1, s2⟩ := medI_spec hpos
    have hnn := (agesOf_ok (medI_mem hpos)).1
    generalize hmm : medI (agesOf (L.take n)) = m at *
    rw [lessN_perm h2] at s1
    rw [mostN_perm h2] at s2
    rw [h2.length_eq, List.length_append] at s1 s2
    have hG0 : goodL bad L n ≠ [] := by
      intro h0
      rw [h0] at hlen
      simp at hlen; omega
    unfold lessN at s1
    unfold mostN at s2
    rw [List.countP_append] at s1 s2
    have ho := List.countP_le_length (p := fun y => decide (y ≤ m)) (l := o)
    refine ⟨?_, ?_, hnn⟩
    · rcases hl with ⟨h, -⟩ | ⟨-, hall⟩
      · exact absurd h hG0
      · rcases Int.lt_or_le m least with hlt | hge'
        · have h0 : (goodL bad L n).countP (fun y => decide (y ≤ m)) = 0 := by
            rw [List.countP_eq_zero]
            intro x hx
            have := hall x hx
            simp; omega
          omega
        · exact hge'
    · rcases hm with ⟨h, -⟩ | ⟨-, hall⟩
      · exact absurd h hG0
      · rcases Int.lt_or_le most m with hlt | hge'
        · have h0 : (goodL bad L n).countP (fun y => decide (y < m)) = (goodL bad L n).length := by
            rw [List.countP_eq_length]
            intro x hx
            have := hall x hx
            simp; omega
          omega
        · exact hge'
  rw [hc]
  constructor
  · intro h0
    split at h0
    · omega
    · rename_i hge
      rw [if_neg hge]
      obtain ⟨k1, k2, -⟩ := key (by omega)
      exact ⟨by omega, k1, k2⟩
  · intro h0
    rw [if_neg (by omega)]
    obtain ⟨k1, k2, k3⟩ := key (by omega)
    exact ⟨k3, fun h => by omega⟩
theorem turned {n : Nat} {L : List Hd} (hL : L.length = n) (k : Nat) : commonF n (L.drop k ++ L.take k) = commonF n L := by
  have hp : (L.drop k ++ L.take k).Perm L := by
    have := List.perm_append_comm (l₁ := L.drop k) (l₂ := L.take k)
    rwa [List.take_append_drop] at this
  exact commonF_perm (by rw [hp.length_eq]; simp; omega) hp

/-! ### a clock's ages -/
def ownF (n common cold : Int) : Int := if okI (if okI common then common + 2 * n else cold) then (if okI common then common + 2 * n else cold) else -1
theorem ownF_range (n common cold : Int) : -1 ≤ ownF n common cold ∧ ownF n common cold ≤ 1099511627776 := by
  unfold ownF
  generalize (if okI common then common + 2 * n else cold) = a
  split
  · rename_i h
    simp [okI] at h
    omega
  · omega
/-- what a window of ages shows (the newest one last) -/
def bestW : List Int → Int
  | [] => -1
  | a :: W => if 0 ≤ a then max (a + W.length) (bestW W) else bestW W
def showF (W : List Int) : Int := if bestW W ≤ 1099511627776 then bestW W else -1
theorem bestW_ge (W : List Int) : -1 ≤ bestW W := by
  induction W with
  | nil => exact Int.le_refl _
  | cons a W ih => unfold bestW; split <;> omega
def MaxP (W : List Int) (I : Nat → Prop) (v : Int) : Prop := -1 ≤ v ∧ (∀ (i : Nat) (a : Int), I i → W[i]? = some a → 0 ≤ a → a + (W.length : Int) - 1 - i ≤ v) ∧ (v = -1 ∨ ∃ (i : Nat) (a : Int), I i ∧ W[i]? = some a ∧ 0 ≤ a ∧ v = a + (W.length : Int) - 1 - i)
theorem MaxP.unique {W : List Int} {I : Nat → Prop} {v v' : Int} (h : MaxP W I v) (h' : MaxP W I v') : v = v' := by
  obtain ⟨a1, a2, a3⟩ := h
  obtain ⟨b1, b2, b3⟩ := h'
  rcases a3 with a3 | ⟨i, a, ia, ib, ic, id⟩ <;> rcases b3 with b3 | ⟨j, b, ja, jb, jc, jd⟩
  · omega
  · have := a2 j b ja jb jc; omega
  · have := b2 i a ia ib ic; omega
  · have h1 := a2 j b ja jb jc
    have h2 := b2 i a ia ib ic
    omega
theorem bestW_max : ∀ (W : List Int), MaxP W (fun _ => True) (bestW W)
  | [] => ⟨Int.le_refl _, by simp, .inl rfl⟩
  | x :: W => by
    obtain ⟨a1, a2, a3⟩ := bestW_max W
    refine ⟨bestW_ge _, fun i a _ hi ha => ?_, ?_⟩
    · cases i with
      | zero =>
        simp at hi
        subst hi
        unfold bestW
        rw [if_pos ha]
        simp; omega
      | succ i =>
        have := a2 i a trivial (by simpa using hi) ha
        have h2 : bestW W ≤ bestW (x :: W) := by
          conv => rhs; unfold bestW
          split <;> omega
        simp; omega
    · have tail : bestW W = -1 ∨ ∃ (i : Nat) (a : Int), True ∧ (x :: W)[i]? = some a ∧ 0 ≤ a ∧ bestW W = a + ((x :: W).length : Int) - 1 - i := by
        rcases a3 with a3 | ⟨i, a, -, ib, ic, id⟩
        · exact .inl a3
        · exact .inr ⟨i + 1, a, trivial, by simpa using ib, ic, by simp; omega⟩
      unfold bestW
      split
      · rename_i hx
        by_cases hm : x + (W.length : Int) ≤ bestW W
        · rw [Int.max_eq_right hm]; exact tail
        · rw [Int.max_eq_left (by omega)]
          exact .inr ⟨0, x, trivial, rfl, hx, by simp; omega⟩
      · exact tail
theorem MaxP.best {W : List Int} {I : Nat → Prop} {v : Int} (h : MaxP W I v) (hI : ∀ i, i < W.length → I i) : v = bestW W := by
  refine h.unique ?_
  obtain ⟨a1, a2, a3⟩ := bestW_max W
  refine ⟨a1, fun i a _ => a2 i a trivial, ?_⟩
  rcases a3 with a3 | ⟨i, a, -, ib, ic⟩
  · exact .inl a3
  · exact .inr ⟨i, a, hI i (List.getElem?_eq_some_iff.1 ib).1, ib, ic⟩
theorem MaxP.start (W : List Int) {I : Nat → Prop} (h : ∀ i, ¬ I i) : MaxP W I (-1) := ⟨Int.le_refl _, fun i _ hi => absurd hi (h i), .inl rfl⟩
/-- one more place is looked at -/
theorem MaxP.step {W : List Int} {I I' : Nat → Prop} {v : Int} (h : MaxP W I v) {k : Nat} {a : Int} (hk : W[k]? = some a) (hI : ∀ i, I' i ↔ I i ∨ i = k) :
    MaxP W I' (if 0 ≤ a then max v (a + (W.length : Int) - 1 - k) else v) := by
  obtain ⟨a1, a2, a3⟩ := h
  have hkl : k < W.length := (List.getElem?_eq_some_iff.1 hk).1
  by_cases ha : 0 ≤ a
  · rw [if_pos ha]
    refine ⟨by omega, fun i b hi hb h0 => ?_, ?_⟩
    · rcases (hI i).1 hi with hi | rfl
      · have := a2 i b hi hb h0; omega
      · rw [hk] at hb; cases hb; omega
    · by_cases hm : a + (W.length : Int) - 1 - k ≤ v
      · rw [Int.max_eq_left hm]
        rcases a3 with a3 | ⟨i, b, ia, ib⟩
        · exact .inl a3
        · exact .inr ⟨i, b, (hI i).2 (.inl ia), ib⟩
      · rw [Int.max_eq_right (by omega)]
        exact .inr ⟨k, a, (hI k).2 (.inr rfl), hk, ha, rfl⟩
  · rw [if_neg ha]
    refine ⟨a1, fun i b hi hb h0 => ?_, ?_⟩
    · rcases (hI i).1 hi with hi | rfl
      · exact a2 i b hi hb h0
      · rw [hk] at hb; cases hb; omega
    · rcases a3 with a3 | ⟨i, b, ia, ib⟩
      · exact .inl a3
      · exact .inr ⟨i, b, (hI i).2 (.inl ia), ib⟩
theorem bestW_le {W : List Int} {B : Int} (h : ∀ a ∈ W, a ≤ B) (hB : 0 ≤ B) : bestW W ≤ B + W.length := by
  induction W with
  | nil => unfold bestW; simp; omega
  | cons a W ih =>
    have h1 := h a (by simp)
    have h2 := ih fun x hx => h x (by simp [hx])
    unfold bestW
    split <;> simp <;> omega
theorem bestW_newest {W : List Int} {b : Int} (hb : 0 ≤ b) : b ≤ bestW (W ++ [b]) := by
  induction W with
  | nil => simp only [List.nil_append]; unfold bestW; rw [if_pos hb]; simp; omega
  | cons a W ih =>
    rw [List.cons_append]
    unfold bestW
    split <;> omega
theorem bestW_snoc : ∀ (W : List Int) (b : Int), (∀ x ∈ W, 0 ≤ x) → 0 ≤ b → W ≠ [] → bestW (W ++ [b]) = max (bestW W + 1) b
  | [], b, h, hb, hne => absurd rfl hne
  | [x], b, h, hb, _ => by
    have := h x (by simp)
    simp [bestW, hb, this]; omega
  | x :: y :: W, b, h, hb, _ => by
    have hx := h x (by simp)
    have ih := bestW_snoc (y :: W) b (fun z hz => h z (by simp [hz])) hb (by simp)
    rw [List.cons_append]
    unfold bestW
    rw [if_pos hx, ih]
    conv => rhs; rw [if_pos hx]
    simp [List.length_append]
    omega
/-- a window that turns: the oldest age comes again, so much later -/
theorem bestW_turn (a : Int) (W : List Int) (ha : 0 ≤ a) (h : ∀ x ∈ W, 0 ≤ x) (hne : W ≠ []) : bestW (W ++ [a + (W.length : Int) + 1]) = bestW (a :: W) + 1 := by
  rw [bestW_snoc W _ h (by omega) hne]
  have : bestW (a :: W) = max (a + W.length) (bestW W) := by
    conv => lhs; unfold bestW
    rw [if_pos ha]
  rw [this]
  omega
end Go.Proofs.Ytlfpchkoeipcdaa
