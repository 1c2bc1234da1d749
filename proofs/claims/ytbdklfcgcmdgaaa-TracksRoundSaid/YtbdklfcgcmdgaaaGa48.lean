/-
  sennitlaw13.lives: the chapter's examples hold. sennitlaw14.lives: what the chapter's example comes to, in plain Lean; what stays through it.
-/
import Derived.Test.YtbdklfcgcmdgaaaGa28
import Derived.Test.YtbdklfcgcmdgaaaGa32
namespace Go.Proofs.Ytbdklfcgcmdgaaa
open Go.RowKit
set_option linter.unusedVariables false
set_option linter.unusedSimpArgs false

/-- the parts laid one behind the other -/
def lay (pl : List (Nat × Nat)) : List Value → List (Nat × Value) → List Value
  | z, [] => z
  | z, (i, v) :: r => lay pl (spl z ((pl[i]?.getD (0, 0)).1) (cellsL v)) r
theorem fill_lay (pl : List (Nat × Nat)) : ∀ (ps : List (Nat × Value)) (z : List Value), (∀ p ∈ ps, ∃ off sz, pl[p.1]? = some (off, sz) ∧ (cellsL p.2).length = sz ∧ off + sz ≤ z.length) → Instr.fill (pl.toArray[·]?) z.toArray ps = some (lay pl z ps).toArray
  | [], z, _ => fill_nil _ _
  | (i, v) :: r, z, h => by
    obtain ⟨off, sz, h1, h2, h3⟩ := h (i, v) (by simp)
    rw [fill_one _ z i off sz v r (by simpa using h1) h2 h3, lay, h1, Option.getD_some]
    refine fill_lay pl r _ fun p hp => ?_
    obtain ⟨o', s', k1, k2, k3⟩ := h p (by simp [hp])
    exact ⟨o', s', k1, k2, by rw [len_spl (by rw [h2]; omega)]; exact k3⟩
def sd9 : List Value := [.bool true, .int .i64 0, .int .u8 9, .int .u8 0, .int .u32 0, .int .u32 0]
def vwH : List Value := List.replicate 8 (.bool false) ++ (List.replicate 8 (.int .u8 0) ++ (List.replicate 8 (.int .u8 0) ++ (List.replicate 8 (.int .u16 0) ++ List.replicate 8 (.bool false))))
@[go_sem] theorem len_vwH : vwH.length = 40 := by kernel_rfl
def lvC : List Value := .int .i64 (-5) :: (sd9 ++ (saidZ ++ (vwH ++ [.int .i8 99, .int .u8 0])))
def lvD : List Value := .int .i64 (-1) :: (saidZ ++ (saidZ ++ (vwH ++ [.int .i8 (-1), .int .u8 0])))
theorem lvC_ok : okL cellK lvC = true := by kernel_rfl
theorem lvD_ok : okL cellK lvD = true := by kernel_rfl
theorem lvC_nrm : nrm lvC = lvD := by kernel_rfl
def age5 : List Value := .int .i64 5 :: cellR
def age7 : List Value := .int .i64 7 :: cellR
theorem age5_ok : okL cellK age5 = true := by kernel_rfl
theorem age7_ok : okL cellK age7 = true := by kernel_rfl
theorem age7_nrm : nrm age7 = age7 := by kernel_rfl
def rw5 : Rw := ⟨false, age5, []⟩
def rw7 : Rw := ⟨true, age7, []⟩
theorem rw5_ok : rw5.ok := ⟨age5_ok, by simp [rw5]⟩
theorem rw7_ok : rw7.ok := ⟨age7_ok, by simp [rw7]⟩
theorem rw5_norm : normW 2 [rw5] = [rw0, rw0] := rfl
theorem rw7_plain : rw7.plain 1 = ⟨true, age7, [hd0]⟩ := by
  show (⟨true, nrm age7, fillH 1 []⟩ : Rw) = _
  rw [age7_nrm]; rfl
section
variable (ρ : Operand → Value) (d : Option Tmp) (x y u : Operand) (ty : TypeId) (s : String) (af : Array Edge) (g : Option (Nat × Bool)) (w : World)
theorem bt_pay : buildT Try.prog 40 [.int .u8 0, .int .u8 0, .int .u32 0, .int .u32 0] [(0, 1), (1, 1), (2, 1), (3, 1)] := by unfold buildT; exact ⟨by kernel_rfl, by kernel_rfl⟩
theorem bt_view : buildT Try.prog 49 (vwH ++ [.int .i8 0, .int .u8 0]) [(0, 8), (8, 8), (16, 8), (24, 8), (32, 8), (40, 1), (41, 1)] := by unfold buildT; exact ⟨by kernel_rfl, by kernel_rfl⟩
@[go_sem ↓] theorem bk_pay (h : lenC (ρ x) 1 = true) : (execOp ρ { dst := d, op := .build 40 #[(0, x)], type := ty, pos := s, after := af, guard := g }).run Try.prog w = .ok (.value (.agg (cellsL (ρ x) ++ [Value.int .u8 0, Value.int .u32 0, Value.int .u32 0]).toArray)) w := by
  rw [exec_build1 bt_pay (i := 0) rfl (by simp) ρ d x ty s af g w h]
  have hl : (cellsL (ρ x)).length = 1 := by simpa [lenC] using h
  simp [spl, hl]
@[go_sem ↓] theorem bk_said (h : lenC (ρ x) 1 = true) (h2 : lenC (ρ y) 4 = true) : (execOp ρ { dst := d, op := .build 42 #[(0, x), (2, y)], type := ty, pos := s, after := af, guard := g }).run Try.prog w = .ok (.value (.agg (cellsL (ρ x) ++ (Value.int .i64 0 :: cellsL (ρ y))).toArray)) w := by
  have hl : (cellsL (ρ x)).length = 1 := by simpa [lenC] using h
  have hl2 : (cellsL (ρ y)).length = 4 := by simpa [lenC] using h2
  refine exec_build ρ d _ ty s af g w ?_
  rw [built_of bt_said, fill_lay]
  · simp [lay, spl, saidZ, hl, hl2, List.take_append, List.drop_append, List.take_of_length_le, List.drop_of_length_le]
  · simp [hl, hl2, saidZ]
    exact ⟨⟨_, _, ⟨rfl, rfl⟩, rfl, by omega⟩, ⟨_, _, ⟨rfl, rfl⟩, rfl, by omega⟩⟩
@[go_sem ↓] theorem bk_view (h : lenC (ρ x) 1 = true) : (execOp ρ { dst := d, op := .build 49 #[(5, x)], type := ty, pos := s, after := af, guard := g }).run Try.prog w = .ok (.value (.agg (vwH ++ (cellsL (ρ x) ++ [Value.int .u8 0])).toArray)) w := by
  rw [exec_build1 bt_view (i := 5) rfl (by simp [len_vwH]) ρ d x ty s af g w h]
  have hl : (cellsL (ρ x)).length = 1 := by simpa [lenC] using h
  have e : spl (vwH ++ [.int .i8 0, .int .u8 0]) 40 (cellsL (ρ x)) = vwH ++ (cellsL (ρ x) ++ [Value.int .u8 0]) := by
    have hv := len_vwH
    simp [spl, hl, hv, List.take_append, List.drop_append, List.take_of_length_le, List.drop_of_length_le]
  rw [e]
@[go_sem ↓] theorem bk_cell013 (h : lenC (ρ x) 1 = true) (h2 : lenC (ρ y) 6 = true) (h3 : lenC (ρ u) 42 = true) : (execOp ρ { dst := d, op := .build 51 #[(0, x), (1, y), (3, u)], type := ty, pos := s, after := af, guard := g }).run Try.prog w = .ok (.value (.agg (cellsL (ρ x) ++ (cellsL (ρ y) ++ (saidZ ++ cellsL (ρ u)))).toArray)) w := by
  have hl : (cellsL (ρ x)).length = 1 := by simpa [lenC] using h
  have hl2 : (cellsL (ρ y)).length = 6 := by simpa [lenC] using h2
  have hl3 : (cellsL (ρ u)).length = 42 := by simpa [lenC] using h3
  have hz : saidZ.length = 6 := rfl
  have hv : viewZ.length = 42 := by kernel_rfl
  refine exec_build ρ d _ ty s af g w ?_
  rw [built_of bt_cell, fill_lay]
  · simp [lay, spl, cellZ, hl, hl2, hl3, hz, hv, List.take_append, List.drop_append, List.take_of_length_le, List.drop_of_length_le]
  · simp [hl, hl2, hl3, len_cellZ]
    exact ⟨⟨_, _, ⟨rfl, rfl⟩, rfl, by omega⟩, ⟨_, _, ⟨rfl, rfl⟩, rfl, by omega⟩, ⟨_, _, ⟨rfl, rfl⟩, rfl, by omega⟩⟩
@[go_sem ↓] theorem bk_cell03 (h : lenC (ρ x) 1 = true) (h3 : lenC (ρ u) 42 = true) : (execOp ρ { dst := d, op := .build 51 #[(0, x), (3, u)], type := ty, pos := s, after := af, guard := g }).run Try.prog w = .ok (.value (.agg (cellsL (ρ x) ++ (saidZ ++ (saidZ ++ cellsL (ρ u)))).toArray)) w := by
  have hl : (cellsL (ρ x)).length = 1 := by simpa [lenC] using h
  have hl3 : (cellsL (ρ u)).length = 42 := by simpa [lenC] using h3
  have hz : saidZ.length = 6 := rfl
  have hv : viewZ.length = 42 := by kernel_rfl
  refine exec_build ρ d _ ty s af g w ?_
  rw [built_of bt_cell, fill_lay]
  · simp [lay, spl, cellZ, hl, hl3, hz, hv, List.take_append, List.drop_append, List.take_of_length_le, List.drop_of_length_le]
  · simp [hl, hl3, len_cellZ]
    exact ⟨⟨_, _, ⟨rfl, rfl⟩, rfl, by omega⟩, ⟨_, _, ⟨rfl, rfl⟩, rfl, by omega⟩⟩
@[go_sem ↓] theorem bk_row1 (h : lenC (ρ x) 55 = true) : (execOp ρ { dst := d, op := .build 54 #[(1, x)], type := ty, pos := s, after := af, guard := g }).run Try.prog w = .ok (.value (.agg (Value.bool false :: (cellsL (ρ x) ++ [Value.slice none 0 0])).toArray)) w := by
  rw [exec_build1 bt_row (i := 1) rfl (by rw [len_rowZ]; omega) ρ d x ty s af g w h]
  have hl : (cellsL (ρ x)).length = 55 := by simpa [lenC] using h
  have : spl rowZ 1 (cellsL (ρ x)) = .bool false :: (cellsL (ρ x) ++ [.slice none 0 0]) := by
    have h2 := len_cellZ
    simp only [spl, rowZ, List.take_succ_cons, List.take_zero, List.cons_append, List.nil_append, hl, List.cons.injEq, true_and]
    try congr 1
    try rw [show 1 + 55 = cellZ.length + 1 from by rw [h2], List.drop_succ_cons, List.drop_left]
  rw [this]
@[go_sem ↓] theorem bk_row01 (h1 : lenC (ρ x) 1 = true) (h2 : lenC (ρ y) 55 = true) : (execOp ρ { dst := d, op := .build 54 #[(0, x), (1, y)], type := ty, pos := s, after := af, guard := g }).run Try.prog w = .ok (.value (.agg (cellsL (ρ x) ++ (cellsL (ρ y) ++ [Value.slice none 0 0])).toArray)) w :=
  exec_build2of bt_row rfl rfl (by rw [len_rowZ]; rfl) (by kernel_rfl) ρ d x y ty s af g w h1 h2
theorem bt_word : buildT Try.prog 34 [.slice none 0 0] [(0, 1)] := by unfold buildT; exact ⟨by kernel_rfl, by kernel_rfl⟩
theorem bt_rword : buildT Try.prog 63 [.slice none 0 0] [(0, 1)] := by unfold buildT; exact ⟨by kernel_rfl, by kernel_rfl⟩
@[go_sem ↓] theorem bk_word (h : lenC (ρ x) 1 = true) : (execOp ρ { dst := d, op := .build 34 #[(0, x)], type := ty, pos := s, after := af, guard := g }).run Try.prog w = .ok (.value (.agg (cellsL (ρ x)).toArray)) w := by
  rw [exec_build1 bt_word (i := 0) rfl (by simp) ρ d x ty s af g w h]
  have hl : (cellsL (ρ x)).length = 1 := by simpa [lenC] using h
  simp [spl, hl]
@[go_sem ↓] theorem bk_rword (h : lenC (ρ x) 1 = true) : (execOp ρ { dst := d, op := .build 63 #[(0, x)], type := ty, pos := s, after := af, guard := g }).run Try.prog w = .ok (.value (.agg (cellsL (ρ x)).toArray)) w := by
  rw [exec_build1 bt_rword (i := 0) rfl (by simp) ρ d x ty s af g w h]
  have hl : (cellsL (ρ x)).length = 1 := by simpa [lenC] using h
  simp [spl, hl]
end
theorem rdRs_one {w : World} {g : Nat} {t : TypeId} {r : Rw} (h : Blk w g t (r.vals (.slice none 0 0)).toArray) (hr : r.ok) (ht : r.t = []) : RdRs (· = g) w (some ⟨g, 0, none⟩) 1 [r] := by
  refine ⟨rfl, by simp [hr], fun k q hq => ?_⟩
  have hk : k = 0 := by have := (List.getElem?_eq_some_iff.1 hq).1; simpa using this
  subst hk
  simp at hq
  subst hq
  obtain ⟨q1, q2, -⟩ := h.whole (Rw.len hr _)
  exact ⟨g, 0, none, 0, 0, rfl, rfl, h.lt, by simpa using q1, by simpa using q2, by rw [ht]; exact ⟨rfl, by simp, by simp⟩, Nat.le_refl _, by simp⟩

end Go.Proofs.Ytbdklfcgcmdgaaa
namespace Go.Proofs.Ytbdklfcgcmdgaaa
open Go.RowKit
set_option linter.unusedVariables false
set_option linter.unusedSimpArgs false

/-- the example's row -/
def rx : Rw := ⟨true, age7, [hd0, hd0, hd0, hd0]⟩
theorem hd0_nrm : hd0.nrm = hd0 := rfl
theorem rx_ok : rx.ok := ⟨age7_ok, fun h hh => by simp [rx] at hh; rw [hh]; exact hd0_ok⟩
theorem rx_plain : rx.plain (4 : Nat) = rx := by
  unfold Rw.plain rx
  rw [if_pos (by decide)]
  show Rw.mk true (nrm age7) (fillH 4 [hd0, hd0, hd0, hd0]) = _
  rw [age7_nrm]
  simp [fillH, hd0_nrm]
def iNo : Nat → List Rw := fun _ => []
def iAt (k : Nat) : Nat → List Rw := fun i => if i = k then [rx] else []
def lv0 : LaneM := LaneM.new 4 1
def lv1 : LaneM := lv0.put iNo
def lv2 : LaneM := lv1.put (iAt 0)
def lv3 : LaneM := lv2.said rw0
def lv4 : LaneM := lv3.put iNo
def lv5 : LaneM := lv4.put (iAt 3)
def lv6 : LaneM := lv5.put iNo
def lv7 : LaneM := lv6.put iNo
theorem inRow_nil (n s : Nat) : inRow n [] s = rw0 := rfl
theorem inRow_rx : inRow 4 [rx] 0 = rx := rx_plain
theorem rx_is : rx.is = true := rfl
theorem rx_ne : rx ≠ rw0 := fun e => by have := congrArg Rw.is e; cases this
theorem lv_out0 : lv3.past 1 0 0 = rx := inRow_rx
theorem lv_out2 : lv3.past 1 2 0 = rw0 := rfl
theorem lv_held0 : lv6.held 0 = rx := by
  have e : lv6.held 0 = certM [lv3.past 1 0 0, lv3.past 1 1 0, momM 4 1 (iAt 3) 2 0, momM 4 1 (iAt 3) 3 0] := rfl
  have e2 : momM 4 1 (iAt 3) 2 0 = rx := inRow_rx
  have e3 : momM 4 1 (iAt 3) 3 0 = rw0 := rfl
  have e4 : lv3.past 1 1 0 = rw0 := rfl
  rw [e, lv_out0, e2, e3, e4]
  refine certM_one ⟨rx_is, 0, 2, by omega, rfl, rfl⟩ fun r hr => ?_
  obtain ⟨h1, j, i, -, -, h2⟩ := hr
  have := List.mem_of_getElem? h2
  simp only [List.mem_cons, List.not_mem_nil, or_false] at this
  rcases this with h | h | h | h
  · exact h
  · rw [h] at h1; cases h1
  · exact h
  · rw [h] at h1; cases h1
theorem certM_zero : certM [rw0, rw0, rw0, rw0] = rw0 := certM_none fun r hr => by
  obtain ⟨h1, j, i, -, -, h2⟩ := hr
  have := List.mem_of_getElem? h2
  simp only [List.mem_cons, List.not_mem_nil, or_false] at this
  rcases this with h | h | h | h <;> (rw [h] at h1; cases h1)
theorem lv_held2 : lv6.held 2 = rw0 := by
  have e : lv6.held 2 = certM [rw0, rw0, rw0, rw0] := rfl
  rw [e, certM_zero]
theorem lv_late0 : lv7.held 0 = rw0 := by
  have e : lv7.held 0 = certM [rw0, rw0, rw0, rw0] := rfl
  rw [e, certM_zero]

/-- a lane whose blocks lie from B on, but for those from lo to hi; these are as they were in w3 -/
structure LvI (w w1 w3 : World) (p gp : Nat) (G : Nat → Nat) (S : Nat → Prop) (L : LaneM) (wr : World) : Prop where
  l : LaneAt S wr p gp G L
  s : ∀ b, S b → w.heap.size ≤ b ∧ (b < w1.heap.size ∨ w3.heap.size ≤ b)
  k : ∀ b, w1.heap.size ≤ b → b < w3.heap.size → wr.heap[b]? = w3.heap[b]?
  bel : Below w.heap.size w wr
  sz : w.heap.size ≤ w1.heap.size ∧ w1.heap.size ≤ w3.heap.size ∧ w3.heap.size ≤ wr.heap.size
theorem LvI.below {w w1 w3 : World} {p gp : Nat} {G : Nat → Nat} {S : Nat → Prop} {L : LaneM} {wr w' : World} (h : LvI w w1 w3 p gp G S L wr) (hb : Below wr.heap.size wr w') : LvI w w1 w3 p gp G S L w' := by
  obtain ⟨z1, z2, z3⟩ := h.sz
  have := hb.size
  exact ⟨h.l.below hb, h.s, fun b h1 h2 => (hb.block b (by omega)).trans (h.k b h1 h2), h.bel.trans (hb.mono (by omega)), z1, z2, by omega⟩
/-- behind a call that writes the lane's blocks alone -/
theorem LvI.next {w w1 w3 : World} {p gp : Nat} {G G' : Nat → Nat} {S T : Nat → Prop} {L L' : LaneM} {wr w' : World} {m : Nat} (h : LvI w w1 w3 p gp G S L wr) (hm : wr.heap.size ≤ m) (hl : LaneAt (GrowS S wr.heap.size m) w' p gp G' L') (hc : Chg T wr w') (hT : ∀ b, T b → S b) : LvI w w1 w3 p gp G' (GrowS S wr.heap.size m) L' w' := by
  obtain ⟨z1, z2, z3⟩ := h.sz
  have hz := hc.size
  refine ⟨hl, fun b hb => ?_, fun b h1 h2 => (hc.block b (by omega) (fun hb => ?_)).trans (h.k b h1 h2), h.bel.trans (hc.below (by omega) fun k hk => (h.s k (hT k hk)).1), z1, z2, by omega⟩
  · rcases hb with hb | hb
    · exact h.s b hb
    · exact ⟨by omega, .inr (by omega)⟩
  · have := (h.s b (hT b hb)).2
    omega
theorem insR_no (w : World) : InsR (fun _ => False) w (fun _ => none) (fun _ => 0) (fun _ => 0) iNo := ⟨fun _ _ => rdRs_nil _ _, fun _ _ => ⟨Nat.le_refl _, by simp⟩⟩
theorem iNo_ok : ∀ i, ∀ r ∈ iNo i, r.ok := fun i r hr => by cases hr
theorem iAt_ok (k : Nat) : ∀ i, ∀ r ∈ iAt k i, r.ok := fun i r hr => by
  unfold iAt at hr
  split at hr
  · simp at hr; rw [hr]; exact rx_ok
  · cases hr
theorem insR_at {w : World} {sb tb k : Nat} (h : RdRs (fun b => b = sb ∨ b = tb) w (some ⟨sb, 0, none⟩) 1 [rx]) : InsR (fun b => b = sb ∨ b = tb) w (fun i => if i = k then some ⟨sb, 0, none⟩ else none) (fun i => if i = k then 1 else 0) (fun i => if i = k then 1 else 0) (iAt k) := by
  refine ⟨fun i _ => ?_, fun i _ => ?_⟩
  · by_cases e : i = k
    · simp only [e, if_true, iAt]; exact h
    · simp only [e, if_false, iAt]; exact rdRs_nil _ _
  · by_cases e : i = k
    · simp [e, maxLen]
    · simp [e]
end Go.Proofs.Ytbdklfcgcmdgaaa
