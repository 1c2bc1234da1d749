/-
  sennitlaw13.lives: the chapter's examples hold.
-/
import Derived.Test.YtopakilglnpinaaGc30
namespace Go.Proofs.Ytopakilglnpinaa
open Go.RowKit
set_option linter.unusedVariables false
set_option linter.unusedSimpArgs false

/-- the parts laid one behind the other -/
def lay (pl : List (Nat × Nat)) : List Value → List (Nat × Value) → List Value
  | z, [] => z
  | z, (i, v) :: r => lay pl (spl z ((pl[i]?.getD (0, 0)).1) (cellsL v)) r
theorem fill_lay (pl : List (Nat × Nat)) : ∀ (ps : List (Nat × Value)) (z : List Value), (∀ p ∈ ps, ∃ off sz, pl[p.1]? = some (off, sz) ∧ (cellsL p.2).length = sz ∧ off + sz ≤ z.length) → Instr.fill (pl.toArray[·]?) z.toArray ps = some (lay pl z ps).toArray
  | [], z, _ => fill_nil _ _
  | (i, v) :: r, z, h => by
    obtain ⟨off, sz, h1, h2, h3⟩ := h (i, v) (by simp)
    rw [fill_one _ z i off sz v r (by simpa using h1) h2 h3, lay, h1, Option.getD_some]
    refine fill_lay pl r _ fun p hp => ?_
    obtain ⟨o', s', k1, k2, k3⟩ := h p (by simp [hp])
    exact ⟨o', s', k1, k2, by rw [len_spl (by rw [h2]; omega)]; exact k3⟩
def sd9 : List Value := [.bool true, .int .i64 0, .int .u8 9, .int .u8 0, .int .u32 0, .int .u32 0]
def vwH : List Value := List.replicate 8 (.bool false) ++ (List.replicate 8 (.int .u8 0) ++ (List.replicate 8 (.int .u8 0) ++ (List.replicate 8 (.int .u16 0) ++ List.replicate 8 (.bool false))))
@[go_sem] theorem len_vwH : vwH.length = 40 := by kernel_rfl
def lvC : List Value := .int .i64 (-5) :: (sd9 ++ (saidZ ++ (vwH ++ [.int .i8 99, .int .u8 0])))
def lvD : List Value := .int .i64 (-1) :: (saidZ ++ (saidZ ++ (vwH ++ [.int .i8 (-1), .int .u8 0])))
theorem lvC_ok : okL cellK lvC = true := by kernel_rfl
theorem lvD_ok : okL cellK lvD = true := by kernel_rfl
theorem lvC_nrm : nrm lvC = lvD := by kernel_rfl
def age5 : List Value := .int .i64 5 :: cellR
def age7 : List Value := .int .i64 7 :: cellR
theorem age5_ok : okL cellK age5 = true := by kernel_rfl
theorem age7_ok : okL cellK age7 = true := by kernel_rfl
theorem age7_nrm : nrm age7 = age7 := by kernel_rfl
def rw5 : Rw := ⟨false, age5, []⟩
def rw7 : Rw := ⟨true, age7, []⟩
theorem rw5_ok : rw5.ok := ⟨age5_ok, by simp [rw5]⟩
theorem rw7_ok : rw7.ok := ⟨age7_ok, by simp [rw7]⟩
theorem rw5_norm : normW 2 [rw5] = [rw0, rw0] := rfl
theorem rw7_plain : rw7.plain 1 = ⟨true, age7, [hd0]⟩ := by
  show (⟨true, nrm age7, fillH 1 []⟩ : Rw) = _
  rw [age7_nrm]; rfl
section
variable (ρ : Operand → Value) (d : Option Tmp) (x y u : Operand) (ty : TypeId) (s : String) (af : Array Edge) (g : Option (Nat × Bool)) (w : World)
theorem bt_pay : buildT Try.prog 40 [.int .u8 0, .int .u8 0, .int .u32 0, .int .u32 0] [(0, 1), (1, 1), (2, 1), (3, 1)] := by unfold buildT; exact ⟨by kernel_rfl, by kernel_rfl⟩
theorem bt_view : buildT Try.prog 49 (vwH ++ [.int .i8 0, .int .u8 0]) [(0, 8), (8, 8), (16, 8), (24, 8), (32, 8), (40, 1), (41, 1)] := by unfold buildT; exact ⟨by kernel_rfl, by kernel_rfl⟩
@[go_sem ↓] theorem bk_pay (h : lenC (ρ x) 1 = true) : (execOp ρ { dst := d, op := .build 40 #[(0, x)], type := ty, pos := s, after := af, guard := g }).run Try.prog w = .ok (.value (.agg (cellsL (ρ x) ++ [Value.int .u8 0, Value.int .u32 0, Value.int .u32 0]).toArray)) w := by
  rw [exec_build1 bt_pay (i := 0) rfl (by simp) ρ d x ty s af g w h]
  have hl : (cellsL (ρ x)).length = 1 := by simpa [lenC] using h
  simp [spl, hl]
@[go_sem ↓] theorem bk_said (h : lenC (ρ x) 1 = true) (h2 : lenC (ρ y) 4 = true) : (execOp ρ { dst := d, op := .build 42 #[(0, x), (2, y)], type := ty, pos := s, after := af, guard := g }).run Try.prog w = .ok (.value (.agg (cellsL (ρ x) ++ (Value.int .i64 0 :: cellsL (ρ y))).toArray)) w := by
  have hl : (cellsL (ρ x)).length = 1 := by simpa [lenC] using h
  have hl2 : (cellsL (ρ y)).length = 4 := by simpa [lenC] using h2
  refine exec_build ρ d _ ty s af g w ?_
  rw [built_of bt_said, fill_lay]
  · simp [lay, spl, saidZ, hl, hl2, List.take_append, List.drop_append, List.take_of_length_le, List.drop_of_length_le]
  · simp [hl, hl2, saidZ]
    exact ⟨⟨_, _, ⟨rfl, rfl⟩, rfl, by omega⟩, ⟨_, _, ⟨rfl, rfl⟩, rfl, by omega⟩⟩
@[go_sem ↓] theorem bk_view (h : lenC (ρ x) 1 = true) : (execOp ρ { dst := d, op := .build 49 #[(5, x)], type := ty, pos := s, after := af, guard := g }).run Try.prog w = .ok (.value (.agg (vwH ++ (cellsL (ρ x) ++ [Value.int .u8 0])).toArray)) w := by
  rw [exec_build1 bt_view (i := 5) rfl (by simp [len_vwH]) ρ d x ty s af g w h]
  have hl : (cellsL (ρ x)).length = 1 := by simpa [lenC] using h
  have e : spl (vwH ++ [.int .i8 0, .int .u8 0]) 40 (cellsL (ρ x)) = vwH ++ (cellsL (ρ x) ++ [Value.int .u8 0]) := by
    have hv := len_vwH
    simp [spl, hl, hv, List.take_append, List.drop_append, List.take_of_length_le, List.drop_of_length_le]
  rw [e]
@[go_sem ↓] theorem bk_cell013 (h : lenC (ρ x) 1 = true) (h2 : lenC (ρ y) 6 = true) (h3 : lenC (ρ u) 42 = true) : (execOp ρ { dst := d, op := .build 51 #[(0, x), (1, y), (3, u)], type := ty, pos := s, after := af, guard := g }).run Try.prog w = .ok (.value (.agg (cellsL (ρ x) ++ (cellsL (ρ y) ++ (saidZ ++ cellsL (ρ u)))).toArray)) w := by
  have hl : (cellsL (ρ x)).length = 1 := by simpa [lenC] using h
  have hl2 : (cellsL (ρ y)).length = 6 := by simpa [lenC] using h2
  have hl3 : (cellsL (ρ u)).length = 42 := by simpa [lenC] using h3
  have hz : saidZ.length = 6 := rfl
  have hv : viewZ.length = 42 := by kernel_rfl
  refine exec_build ρ d _ ty s af g w ?_
  rw [built_of bt_cell, fill_lay]
  · simp [lay, spl, cellZ, hl, hl2, hl3, hz, hv, List.take_append, List.drop_append, List.take_of_length_le, List.drop_of_length_le]
  · simp [hl, hl2, hl3, len_cellZ]
    exact ⟨⟨_, _, ⟨rfl, rfl⟩, rfl, by omega⟩, ⟨_, _, ⟨rfl, rfl⟩, rfl, by omega⟩, ⟨_, _, ⟨rfl, rfl⟩, rfl, by omega⟩⟩
@[go_sem ↓] theorem bk_cell03 (h : lenC (ρ x) 1 = true) (h3 : lenC (ρ u) 42 = true) : (execOp ρ { dst := d, op := .build 51 #[(0, x), (3, u)], type := ty, pos := s, after := af, guard := g }).run Try.prog w = .ok (.value (.agg (cellsL (ρ x) ++ (saidZ ++ (saidZ ++ cellsL (ρ u)))).toArray)) w := by
  have hl : (cellsL (ρ x)).length = 1 := by simpa [lenC] using h
  have hl3 : (cellsL (ρ u)).length = 42 := by simpa [lenC] using h3
  have hz : saidZ.length = 6 := rfl
  have hv : viewZ.length = 42 := by kernel_rfl
  refine exec_build ρ d _ ty s af g w ?_
  rw [built_of bt_cell, fill_lay]
  · simp [lay, spl, cellZ, hl, hl3, hz, hv, List.take_append, List.drop_append, List.take_of_length_le, List.drop_of_length_le]
  · simp [hl, hl3, len_cellZ]
    exact ⟨⟨_, _, ⟨rfl, rfl⟩, rfl, by omega⟩, ⟨_, _, ⟨rfl, rfl⟩, rfl, by omega⟩⟩
@[go_sem ↓] theorem bk_row1 (h : lenC (ρ x) 55 = true) : (execOp ρ { dst := d, op := .build 54 #[(1, x)], type := ty, pos := s, after := af, guard := g }).run Try.prog w = .ok (.value (.agg (Value.bool false :: (cellsL (ρ x) ++ [Value.slice none 0 0])).toArray)) w := by
  rw [exec_build1 bt_row (i := 1) rfl (by rw [len_rowZ]; omega) ρ d x ty s af g w h]
  have hl : (cellsL (ρ x)).length = 55 := by simpa [lenC] using h
  have : spl rowZ 1 (cellsL (ρ x)) = .bool false :: (cellsL (ρ x) ++ [.slice none 0 0]) := by
    have h2 := len_cellZ
    simp only [spl, rowZ, List.take_succ_cons, List.take_zero, List.cons_append, List.nil_append, hl, List.cons.injEq, true_and]
    try congr 1
    try rw [show 1 + 55 = cellZ.length + 1 from by rw [h2], List.drop_succ_cons, List.drop_left]
  rw [this]
@[go_sem ↓] theorem bk_row01 (h1 : lenC (ρ x) 1 = true) (h2 : lenC (ρ y) 55 = true) : (execOp ρ { dst := d, op := .build 54 #[(0, x), (1, y)], type := ty, pos := s, after := af, guard := g }).run Try.prog w = .ok (.value (.agg (cellsL (ρ x) ++ (cellsL (ρ y) ++ [Value.slice none 0 0])).toArray)) w :=
  exec_build2of bt_row rfl rfl (by rw [len_rowZ]; rfl) (by kernel_rfl) ρ d x y ty s af g w h1 h2
theorem bt_word : buildT Try.prog 34 [.slice none 0 0] [(0, 1)] := by unfold buildT; exact ⟨by kernel_rfl, by kernel_rfl⟩
theorem bt_rword : buildT Try.prog 63 [.slice none 0 0] [(0, 1)] := by unfold buildT; exact ⟨by kernel_rfl, by kernel_rfl⟩
@[go_sem ↓] theorem bk_word (h : lenC (ρ x) 1 = true) : (execOp ρ { dst := d, op := .build 34 #[(0, x)], type := ty, pos := s, after := af, guard := g }).run Try.prog w = .ok (.value (.agg (cellsL (ρ x)).toArray)) w := by
  rw [exec_build1 bt_word (i := 0) rfl (by simp) ρ d x ty s af g w h]
  have hl : (cellsL (ρ x)).length = 1 := by simpa [lenC] using h
  simp [spl, hl]
@[go_sem ↓] theorem bk_rword (h : lenC (ρ x) 1 = true) : (execOp ρ { dst := d, op := .build 63 #[(0, x)], type := ty, pos := s, after := af, guard := g }).run Try.prog w = .ok (.value (.agg (cellsL (ρ x)).toArray)) w := by
  rw [exec_build1 bt_rword (i := 0) rfl (by simp) ρ d x ty s af g w h]
  have hl : (cellsL (ρ x)).length = 1 := by simpa [lenC] using h
  simp [spl, hl]
end
theorem rdRs_one {w : World} {g : Nat} {t : TypeId} {r : Rw} (h : Blk w g t (r.vals (.slice none 0 0)).toArray) (hr : r.ok) (ht : r.t = []) : RdRs (· = g) w (some ⟨g, 0, none⟩) 1 [r] := by
  refine ⟨rfl, by simp [hr], fun k q hq => ?_⟩
  have hk : k = 0 := by have := (List.getElem?_eq_some_iff.1 hq).1; simpa using this
  subst hk
  simp at hq
  subst hq
  obtain ⟨q1, q2, -⟩ := h.whole (Rw.len hr _)
  exact ⟨g, 0, none, 0, 0, rfl, rfl, h.lt, by simpa using q1, by simpa using q2, by rw [ht]; exact ⟨rfl, by simp, by simp⟩, Nat.le_refl _, by simp⟩

end Go.Proofs.Ytopakilglnpinaa
