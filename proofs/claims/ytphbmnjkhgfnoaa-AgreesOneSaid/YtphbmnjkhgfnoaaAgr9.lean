/-
  sennitlaw15.said; the examples' vectors.
-/
import Derived.Test.YtphbmnjkhgfnoaaAgr8
import Derived.Test.YtphbmnjkhgfnoaaWrdK
namespace Go.Proofs.Ytphbmnjkhgfnoaa
open Go.RowKit
set_option linter.unusedVariables false
set_option linter.unusedSimpArgs false

theorem rdRs_ps {S : Nat → Prop} {w : World} {g : Nat} {t : TypeId} {ps : List (Rw × Value)} (hb : Blk w g t (flatP ps).toArray) (h : ∀ p ∈ ps, p.1.ok ∧ RowR S w p.1 p.2) : RdRs (fun b => b = g ∨ S b) w (some ⟨g, 0, none⟩) ps.length (ps.map Prod.fst) := by
  refine ⟨by simp, fun r hr => ?_, fun k r hk => ?_⟩
  · obtain ⟨p, hp, rfl⟩ := List.mem_map.1 hr
    exact (h p hp).1
  · rw [List.getElem?_map, Option.map_eq_some_iff] at hk
    obtain ⟨p, hk, rfl⟩ := hk
    obtain ⟨hpo, x, m, c2, hpv, h5, h6, h7⟩ := h p (List.mem_of_getElem? hk)
    have hlen := Rw.len hpo p.2
    have hrow := row_of_cells (w := w) (p := ⟨g, 0 + k * 57, none⟩) (l := p.1.vals p.2) (fun j u hu => by
      have hj : j < 57 := by rw [← hlen]; exact (List.getElem?_eq_some_iff.1 hu).1
      rw [add_at, hb.cell, show 0 + k * 57 + j = k * 57 + j from by omega]
      have := flatP_at (fun p hp => (h p hp).1) hk hj
      simp only [List.getElem?_toArray]
      rw [this, hu])
    rw [hlen, hpv] at hrow
    exact ⟨g, 0, x, m, c2, rfl, .inl rfl, hb.lt, hrow.1, hrow.2, h5.mono (fun b _ h => .inr h), h6, h7⟩
section
variable (ρ : Operand → Value) (d : Option Tmp) (x y u v : Operand) (ty : TypeId) (s : String) (af : Array Edge) (g : Option (Nat × Bool)) (w : World)
@[go_sem ↓] theorem bk_row02 (h1 : lenC (ρ x) 1 = true) (h3 : lenC (ρ u) 1 = true) : (execOp ρ { dst := d, op := .build 62 #[(0, x), (2, u)], type := ty, pos := s, after := af, guard := g }).run Try.prog w = .ok (.value (.agg (cellsL (ρ x) ++ (cellZ ++ cellsL (ρ u))).toArray)) w := by
  have hl : (cellsL (ρ x)).length = 1 := by simpa [lenC] using h1
  have hl3 : (cellsL (ρ u)).length = 1 := by simpa [lenC] using h3
  have hz := len_cellZ
  refine exec_build ρ d _ ty s af g w ?_
  rw [built_of bt_row, fill_lay]
  · simp [lay, spl, rowZ, hl, hl3, hz, List.take_append, List.drop_append, List.take_of_length_le, List.drop_of_length_le]
  · simp [hl, hl3, len_rowZ]
    exact ⟨⟨_, _, ⟨rfl, rfl⟩, rfl, by omega⟩, ⟨_, _, ⟨rfl, rfl⟩, rfl, by omega⟩⟩
@[go_sem ↓] theorem bs_row2 (h : lenC (ρ x) 57 = true) (h' : lenC (ρ y) 57 = true) :
    (execOp ρ { dst := d, op := .buildSlice 22 2 #[(0, x), (1, y)], type := ty, pos := s, after := af, guard := g }).run Try.prog w = .ok (.value (.slice (some ⟨w.heap.size, 0, none⟩) 2 2)) (w.alloc (.cells (cellsL (ρ x) ++ cellsL (ρ y)).toArray 62)) := by
  have := exec_bslice (n := 57) Try.underlying22 (by kernel_rfl) ρ d 2 [x, y] #[(0, x), (1, y)] ty s af g w (by simp [iparts]) rfl (by omega) (by omega) (by simp [h, h'])
  simpa using this
@[go_sem ↓] theorem bs_row4 (h : lenC (ρ x) 57 = true) (h' : lenC (ρ y) 57 = true) (h2 : lenC (ρ u) 57 = true) (h3 : lenC (ρ v) 57 = true) :
    (execOp ρ { dst := d, op := .buildSlice 22 4 #[(0, x), (1, y), (2, u), (3, v)], type := ty, pos := s, after := af, guard := g }).run Try.prog w = .ok (.value (.slice (some ⟨w.heap.size, 0, none⟩) 4 4)) (w.alloc (.cells (cellsL (ρ x) ++ (cellsL (ρ y) ++ (cellsL (ρ u) ++ cellsL (ρ v)))).toArray 62)) := by
  have := exec_bslice (n := 57) Try.underlying22 (by kernel_rfl) ρ d 4 [x, y, u, v] #[(0, x), (1, y), (2, u), (3, v)] ty s af g w (by simp [iparts]) rfl (by omega) (by omega) (by simp [h, h', h2, h3])
  simpa using this
end
/-- a row whose table has a cell of an age at its first place -/
def sdH (age : Int) : Hd := ⟨true, .int .i64 age :: cellR⟩
def sdR (age : Int) : Rw := ⟨true, cellZ, [sdH age, hd0, hd0, hd0]⟩
theorem sdH_ok {age : Int} (h0 : 0 ≤ age) (h1 : age ≤ 100) : (sdH age).ok := by
  refine cellR_ok age ?_
  have e1 : IntKind.i64.min = -9223372036854775808 := by rfl
  have e2 : IntKind.i64.max = 9223372036854775807 := by rfl
  simp [Lit.wf, e1, e2]; omega
theorem sdR_ok {age : Int} (h0 : 0 ≤ age) (h1 : age ≤ 100) : (sdR age).ok := ⟨cellZ_ok, fun x hx => by
  simp [sdR] at hx
  rcases hx with rfl | rfl
  · exact sdH_ok h0 h1
  · exact hd0_ok⟩
def rws (a b c d : Int) : List Rw := [sdR a, sdR b, sdR c, sdR d]
theorem hasC_rws0 (a b c d : Int) (k : Nat) : hasC (rws a b c d) k 0 = ([a, b, c, d][k]?).map fun x => .int .i64 x :: cellR := by
  match k with
  | 0 | 1 | 2 | 3 => rfl
  | k + 4 => simp [hasC, rws]
theorem hasC_rwss (a b c d : Int) (k s : Nat) (hs : 0 < s) : hasC (rws a b c d) k s = none := by
  have e : ∀ x : Int, (match [sdH x, hd0, hd0, hd0][s]? with | some h => if h.is then some h.c else none | none => (none : Option (List Value))) = none := fun x => by
    match s with
    | 1 | 2 | 3 => rfl
    | s + 4 => rfl
  match k with
  | 0 => exact e a
  | 1 => exact e b
  | 2 => exact e c
  | 3 => exact e d
  | k + 4 => rfl
theorem cnt_rwss (a b c d : Int) (s : Nat) (hs : 0 < s) (x : List Value) : ∀ k, cntL s (rws a b c d) k x = 0
  | 0 => rfl
  | k + 1 => by
    show cntL s (rws a b c d) k x + _ = _
    rw [cnt_rwss a b c d s hs x k, if_neg (fun h => by have := h.2; rw [hasC_rwss a b c d k s hs] at this; cases this)]
open Classical in
theorem cnt_rws0 (a b c d : Int) (x : List Value) : cntL 0 (rws a b c d) 4 x = (if Value.int .i64 b :: cellR = x then 1 else 0) + (if Value.int .i64 c :: cellR = x then 1 else 0) + (if Value.int .i64 d :: cellR = x then 1 else 0) := by
  simp [cntL, hasC_rws0]
theorem agreeL_rws (a b c d : Int) (h : Hd) (hp : MostP 4 0 (rws a b c d) 4 h) : agreeL 4 (rws a b c d) = [h, hd0, hd0, hd0] := by
  have e0 := hp.eq (by omega) (by omega)
  have es : ∀ s, 0 < s → s < 4 → mostH 4 s (rws a b c d) 4 = hd0 := fun s h0 h4 => (MostP.eq h4 (by omega) (.inr ⟨rfl, fun x => by rw [cnt_rwss a b c d s h0 x]; omega⟩)).symm
  unfold agreeL
  rw [if_pos (by omega)]
  have hr : List.range (Int.toNat 4) = [0, 1, 2, 3] := rfl
  have hm : min (Int.toNat 4) (rws a b c d).length = 4 := rfl
  rw [hr, hm]
  show [mostH 4 0 (rws a b c d) 4, mostH 4 1 (rws a b c d) 4, mostH 4 2 (rws a b c d) 4, mostH 4 3 (rws a b c d) 4] = _
  rw [← e0, es 1 (by omega) (by omega), es 2 (by omega) (by omega), es 3 (by omega) (by omega)]
theorem agr_a : agreeL 4 (rws 9 5 5 5) = [sdH 5, hd0, hd0, hd0] := agreeL_rws _ _ _ _ _ (.inl ⟨_, rfl, sdH_ok (by omega) (by omega), by rw [cnt_rws0]; simp⟩)
theorem agr_b : agreeL 4 (rws 9 5 6 5) = [sdH 5, hd0, hd0, hd0] := agreeL_rws _ _ _ _ _ (.inl ⟨_, rfl, sdH_ok (by omega) (by omega), by rw [cnt_rws0]; simp⟩)
theorem agr_c : agreeL 4 (rws 9 5 6 7) = [hd0, hd0, hd0, hd0] := agreeL_rws _ _ _ _ _ (.inr ⟨rfl, fun x => by
  rw [cnt_rws0]
  by_cases h5 : Value.int .i64 5 :: cellR = x
  · subst h5; simp
  · by_cases h6 : Value.int .i64 6 :: cellR = x
    · subst h6; simp
    · rw [if_neg h5, if_neg h6]; split <;> omega⟩)
end Go.Proofs.Ytphbmnjkhgfnoaa
