/-
  A list of rows in a block of the call's own.
-/
import Derived.Test.YtopakilglnpinaaGc08
import Derived.Test.YtopakilglnpinaaGc11
namespace Go.Proofs.Ytopakilglnpinaa
open Go.RowKit
set_option linter.unusedVariables false
set_option linter.unusedSimpArgs false

/-! ### a list of rows in a block of the call's own -/
theorem len_flatP {ps : List (Rw × Value)} (h : ∀ p ∈ ps, p.1.ok) : (flatP ps).length = ps.length * 57 := by
  unfold flatP
  induction ps with
  | nil => rfl
  | cons x l ih => rw [List.flatMap_cons, List.length_append, Rw.len (h x (by simp)), ih (fun y hy => h y (by simp [hy])), List.length_cons, Nat.succ_mul, Nat.add_comm]
theorem flatP_set {ps : List (Rw × Value)} (h : ∀ p ∈ ps, p.1.ok) {k : Nat} (hk : k < ps.length) (x : Rw × Value) (hx : x.1.ok) : (flatP ps).take (k * 57) ++ x.1.vals x.2 ++ (flatP ps).drop (k * 57 + 57) = flatP (ps.set k x) := by
  induction ps generalizing k with
  | nil => simp at hk
  | cons y l ih =>
    have hy := Rw.len (h y (by simp)) y.2
    cases k with
    | zero =>
      simp only [Nat.zero_mul, List.set_cons_zero, flatP, List.flatMap_cons, List.take_zero, List.nil_append, Nat.zero_add]
      rw [← hy, List.drop_left]
    | succ k =>
      have := ih (fun z hz => h z (by simp [hz])) (k := k) (by simpa using hk)
      simp only [List.set_cons_succ, flatP, List.flatMap_cons] at this ⊢
      rw [← this]
      rw [show (k + 1) * 57 = (y.1.vals y.2).length + k * 57 from by omega, List.take_append, List.drop_append]
      simp [Nat.add_sub_cancel_left, List.take_of_length_le (show (y.1.vals y.2).length ≤ (y.1.vals y.2).length + k * 57 by omega), Nat.add_assoc]
/-- block g of the call's own holds rows -/
structure HB (W : World) (g : Nat) (S : Nat → Prop) (ps : List (Rw × Value)) (w : World) : Prop where
  b : ∃ rest : List Value, Blk w g 54 (flatP ps ++ rest).toArray
  ps : ∀ p ∈ ps, p.1.ok ∧ RowR S w p.1 p.2
  lt : W.heap.size ≤ g
  no : ¬ S g
  bel : Below W.heap.size W w
theorem HB.drew {W : World} {g : Nat} {S : Nat → Prop} {ps : List (Rw × Value)} {w : World} (h : HB W g S ps w) : HB W g S ps w.drew := ⟨h.b, h.ps, h.lt, h.no, h.bel.drew⟩
theorem HB.rd {W : World} {g : Nat} {S : Nat → Prop} {ps : List (Rw × Value)} {w : World} (h : HB W g S ps w) : RdRs (fun b => b = g ∨ S b) w (some ⟨g, 0, none⟩) ps.length (ps.map Prod.fst) := by
  obtain ⟨rest, hb⟩ := h.b
  refine ⟨by simp, fun r hr => ?_, fun k r hk => ?_⟩
  · obtain ⟨p, hp, rfl⟩ := List.mem_map.1 hr
    exact (h.ps p hp).1
  · rw [List.getElem?_map, Option.map_eq_some_iff] at hk
    obtain ⟨p, hk, rfl⟩ := hk
    have hkl : k < ps.length := (List.getElem?_eq_some_iff.1 hk).1
    obtain ⟨hpo, x, m, c2, hpv, h5, h6, h7⟩ := h.ps p (List.mem_of_getElem? hk)
    have hlen := Rw.len hpo p.2
    have hfl := len_flatP (fun p hp => (h.ps p hp).1)
    have hrow := row_of_cells (w := w) (p := ⟨g, 0 + k * 57, none⟩) (l := p.1.vals p.2) (fun j u hu => by
      have hj : j < 57 := by rw [← hlen]; exact (List.getElem?_eq_some_iff.1 hu).1
      have hin : k * 57 + 57 ≤ ps.length * 57 := by
        have : (k + 1) * 57 ≤ ps.length * 57 := Nat.mul_le_mul_right _ (by omega)
        omega
      rw [add_at, hb.cell, show 0 + k * 57 + j = k * 57 + j from by omega]
      have := flatP_at (fun p hp => (h.ps p hp).1) hk hj
      simp only [List.getElem?_toArray]
      rw [List.getElem?_append_left (by omega), this, hu])
    rw [hlen, hpv] at hrow
    exact ⟨g, 0, x, m, c2, rfl, .inl rfl, hb.lt, hrow.1, hrow.2, h5.mono (fun b _ h => .inr h), h6, h7⟩
theorem HB.set_ {W : World} {g : Nat} {S : Nat → Prop} {ps : List (Rw × Value)} {w : World} (h : HB W g S ps w) {i : Nat} (hi : i < ps.length) {r : Rw} {tv : Value} (hr : r.ok) (ht : RowR S w r tv) :
    canPut w ⟨g, i * 57, none⟩ 57 = true ∧ HB W g S (ps.set i (r, tv)) (putRow w ⟨g, i * 57, none⟩ (r.vals tv)) := by
  obtain ⟨rest, hb⟩ := h.b
  have hok : ∀ p ∈ ps, p.1.ok := fun p hp => (h.ps p hp).1
  have hl := len_flatP hok
  have hx1 := Rw.len hr tv
  have hin : i * 57 + 57 ≤ ps.length * 57 := by
    have : (i + 1) * 57 ≤ ps.length * 57 := Nat.mul_le_mul_right _ (by omega)
    omega
  have hk : ∀ {r' : Rw} {tv' : Value}, RowR S w r' tv' → RowR S (putRow w ⟨g, i * 57, none⟩ (r.vals tv)) r' tv' := fun {r' tv'} h' => h'.keep (by simp) (fun b hSb _ => putRow_other _ _ _ _ (by rintro rfl; exact h.no hSb))
  refine ⟨?_, ⟨⟨rest, ?_⟩, fun p hp => ?_, h.lt, h.no, Below.put h.bel (p := ⟨g, i * 57, none⟩) h.lt _⟩⟩
  · rw [hb.rules.2.2.2.2, List.length_append, hl]; simp; omega
  · have h2 := hb.put (i * 57) (r.vals tv)
    have hs := flatP_set hok hi (r, tv) hr
    rw [hx1, List.take_append_of_le_length (by omega), List.drop_append_of_le_length (by omega), ← List.append_assoc, hs] at h2
    exact h2
  · rcases List.mem_or_eq_of_mem_set hp with hp | rfl
    · exact ⟨hok p hp, hk (h.ps p hp).2⟩
    · exact ⟨hr, hk ht⟩
/-- what was made by an append onto nothing -/
theorem HB.of_own {W w : World} {g cap n : Nat} {S : Nat → Prop} {ps : List (Rw × Value)} {base : Nat} (ho : w.ownsRow base 54 57 (.slice (some ⟨g, 0, none⟩) n cap) n (flatP ps)) (hp : ∀ p ∈ ps, p.1.ok ∧ RowR S w p.1 p.2) (hg : W.heap.size ≤ g) (hS : ¬ S g) (hb : Below W.heap.size W w) : HB W g S ps w := by
  rcases ho.2 with ⟨h, -⟩ | ⟨g', cap', cur, he, h1, h2, h3, h4, h5, h6⟩
  · cases h
  · cases he
    refine ⟨⟨cur.toList.drop (n * 57), ?_⟩, hp, hg, hS, hb⟩
    have e : (flatP ps ++ cur.toList.drop (n * 57)).toArray = cur := by
      rw [← h6, List.take_append_drop]
    rw [e]
    exact h2
end Go.Proofs.Ytopakilglnpinaa
