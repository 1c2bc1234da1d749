/-
  The reference's lane of chapter 14: where it lies, with what it owns; laws for its structs.
-/
import Derived.Test.YtopakilglnpinaaGc20
import Derived.Test.YtopakilglnpinaaGc31
namespace Go.Proofs.Ytopakilglnpinaa
open Go.RowKit
set_option linter.unusedVariables false
set_option linter.unusedSimpArgs false

def z4 : List Value := [.slice none 0 0, .slice none 0 0, .slice none 0 0, .slice none 0 0]
def pl4 : List (Nat × Nat) := [(0, 1), (1, 1), (2, 1), (3, 1)]
theorem one_cell {v : Value} (h : lenC v 1 = true) : ∃ u, cellsL v = [u] := by
  have : (cellsL v).length = 1 := by simpa [lenC] using h
  match hc : cellsL v, this with
  | [u], _ => exact ⟨u, rfl⟩
theorem exec_build4w {P : Program} {t : TypeId} (hb : buildT P t z4 pl4) (ρ : Operand → Value) (d : Option Tmp) (x0 x1 x2 x3 : Operand) (ty : TypeId) (s : String) (af : Array Edge) (g : Option (Nat × Bool)) (w : World)
    (h0 : lenC (ρ x0) 1 = true) (h1 : lenC (ρ x1) 1 = true) (h2 : lenC (ρ x2) 1 = true) (h3 : lenC (ρ x3) 1 = true) :
    (execOp ρ { dst := d, op := .build t #[(0, x0), (1, x1), (2, x2), (3, x3)], type := ty, pos := s, after := af, guard := g }).run P w = .ok (.value (.agg (cellsL (ρ x0) ++ (cellsL (ρ x1) ++ (cellsL (ρ x2) ++ cellsL (ρ x3)))).toArray)) w :=
  exec_build ρ d _ ty s af g w (by
    rw [built_of hb]
    obtain ⟨u0, e0⟩ := one_cell h0
    obtain ⟨u1, e1⟩ := one_cell h1
    obtain ⟨u2, e2⟩ := one_cell h2
    obtain ⟨u3, e3⟩ := one_cell h3
    simp only [List.map_toArray, List.map_cons, List.map_nil]
    rw [fill_one _ z4 0 0 1 _ _ (by rfl) (by rw [e0]; rfl) (by decide), fill_one _ _ 1 1 1 _ _ (by rfl) (by rw [e1]; rfl) (by rw [e0]; exact Nat.le_of_ble_eq_true rfl), fill_one _ _ 2 2 1 _ _ (by rfl) (by rw [e2]; rfl) (by rw [e0, e1]; exact Nat.le_of_ble_eq_true rfl), fill_one _ _ 3 3 1 _ _ (by rfl) (by rw [e3]; rfl) (by rw [e0, e1, e2]; exact Nat.le_of_ble_eq_true rfl), fill_nil, e0, e1, e2, e3]
    rfl)
theorem bt_ins : buildT Try.prog 36 z4 pl4 := ⟨by kernel_rfl, by kernel_rfl⟩
theorem bt_rins : buildT Try.prog 66 z4 pl4 := ⟨by kernel_rfl, by kernel_rfl⟩
theorem app_rins : AppOk Try.prog 86 66 4 := appOk_of Try.underlying86 (by kernel_rfl)
section
variable (ρ : Operand → Value) (d : Option Tmp) (x0 x1 x2 x3 : Operand) (ty : TypeId) (s : String) (af : Array Edge) (g : Option (Nat × Bool)) (w : World)
@[go_sem ↓] theorem bd_ins4 (h0 : lenC (ρ x0) 1 = true) (h1 : lenC (ρ x1) 1 = true) (h2 : lenC (ρ x2) 1 = true) (h3 : lenC (ρ x3) 1 = true) :
    (execOp ρ { dst := d, op := .build 36 #[(0, x0), (1, x1), (2, x2), (3, x3)], type := ty, pos := s, after := af, guard := g }).run Try.prog w = .ok (.value (.agg (cellsL (ρ x0) ++ (cellsL (ρ x1) ++ (cellsL (ρ x2) ++ cellsL (ρ x3)))).toArray)) w := exec_build4w bt_ins ρ d x0 x1 x2 x3 ty s af g w h0 h1 h2 h3
@[go_sem ↓] theorem bd_rins4 (h0 : lenC (ρ x0) 1 = true) (h1 : lenC (ρ x1) 1 = true) (h2 : lenC (ρ x2) 1 = true) (h3 : lenC (ρ x3) 1 = true) :
    (execOp ρ { dst := d, op := .build 66 #[(0, x0), (1, x1), (2, x2), (3, x3)], type := ty, pos := s, after := af, guard := g }).run Try.prog w = .ok (.value (.agg (cellsL (ρ x0) ++ (cellsL (ρ x1) ++ (cellsL (ρ x2) ++ cellsL (ρ x3)))).toArray)) w := exec_build4w bt_rins ρ d x0 x1 x2 x3 ty s af g w h0 h1 h2 h3
@[go_sem ↓] theorem bs_rins (h : lenC (ρ x0) 4 = true) : (execOp ρ { dst := d, op := .buildSlice 86 1 #[(0, x0)], type := ty, pos := s, after := af, guard := g }).run Try.prog w = .ok (.value (.slice (some ⟨w.heap.size, 0, none⟩) 1 1)) (w.alloc (.cells (cellsL (ρ x0)).toArray 66)) := by
  have := exec_bslice (n := 4) Try.underlying86 (by kernel_rfl) ρ d 1 [x0] #[(0, x0)] ty s af g w (by simp [iparts]) rfl (by omega) (by omega) (by simp [h])
  simpa using this
end

/-! ### where the reference's lane lies -/
def rlV (M : RfM) (vo vc : Value) : List Value := [.int .i64 M.n, .int .i64 M.me, .bool M.b, vo, vc]
structure RfAt (D : Nat → Prop) (w : World) (lb : Nat) (M : RfM) (vo vc : Value) : Prop where
  b : Blk w lb 88 (rlV M vo vc).toArray
  own : ∃ ps : List (Rw × Value), ps.length = M.T ∧ w.ownsRow 0 74 57 vo M.T (flatP ps) ∧ ∀ j p, ps[j]? = some p → p.1 = M.own j ∧ p.1.ok ∧ RowR D w p.1 p.2
  come : ∃ us : List Value, w.ownsRow 0 66 4 vc M.T us ∧ ∀ j k, j < M.T → k < 4 → ∃ a c, us[j * 4 + k]? = some (.slice a M.n c) ∧ RdRs D w a M.n (fillR M.n (M.ins j k)) ∧ M.n ≤ c ∧ c ≤ maxLen
  dn : ∀ b, D b → b < w.heap.size ∧ b ≠ lb ∧ vo.ownBlock ≠ some b ∧ vc.ownBlock ≠ some b
  le : M.T ≤ 1000 ∧ 4 ≤ M.n ∧ M.n ≤ 16 ∧ M.me < M.n
/-- what is the lane's own -/
def RfS (D : Nat → Prop) (lb : Nat) (vo vc : Value) (b : Nat) : Prop := b = lb ∨ vo.ownBlock = some b ∨ vc.ownBlock = some b ∨ D b
/-- what a call of it may change -/
def RfC (lb : Nat) (vo vc : Value) (b : Nat) : Prop := b = lb ∨ vo.ownBlock = some b ∨ vc.ownBlock = some b
theorem own_lt {w : World} {base : Nat} {e : TypeId} {size n : Nat} {v : Value} {xs : List Value} (h : w.ownsRow base e size v n xs) {b : Nat} (hb : v.ownBlock = some b) : b < w.heap.size := by
  rcases h.2 with ⟨rfl, -⟩ | ⟨g, cap, cur, rfl, -, hg, -⟩
  · cases hb
  · have : g = b := by simpa [Value.ownBlock] using hb
    subst this; exact lt_of_some hg
section
variable {D : Nat → Prop} {w w' : World} {lb : Nat} {M : RfM} {vo vc : Value}
theorem RfAt.lt (h : RfAt D w lb M vo vc) {b : Nat} (hb : RfS D lb vo vc b) : b < w.heap.size := by
  obtain ⟨ps, -, h1, -⟩ := h.own
  obtain ⟨us, h2, -⟩ := h.come
  rcases hb with rfl | hb | hb | hb
  · exact h.b.lt
  · exact own_lt h1 hb
  · exact own_lt h2 hb
  · exact (h.dn b hb).1
theorem RfAt.keep (h : RfAt D w lb M vo vc) (hs : w.heap.size ≤ w'.heap.size) (hk : ∀ b, RfS D lb vo vc b → b < w.heap.size → w'.heap[b]? = w.heap[b]?) : RfAt D w' lb M vo vc := by
  obtain ⟨ps, p1, p2, p3⟩ := h.own
  obtain ⟨us, u1, u2⟩ := h.come
  refine ⟨(hk lb (.inl rfl) h.b.lt).trans h.b, ⟨ps, p1, own_block p2 fun q hq => hk q (.inr (.inl hq)) (own_lt p2 hq), fun j p hp => ?_⟩, ⟨us, own_block u1 fun q hq => hk q (.inr (.inr (.inl hq))) (own_lt u1 hq), fun j k hj hk4 => ?_⟩, fun b hb => ⟨Nat.lt_of_lt_of_le (h.dn b hb).1 hs, (h.dn b hb).2⟩, h.le⟩
  · obtain ⟨x1, x2, x3⟩ := p3 j p hp
    exact ⟨x1, x2, x3.keep hs fun b hb hl => hk b (.inr (.inr (.inr hb))) hl⟩
  · obtain ⟨a, c, x1, x2, x3⟩ := u2 j k hj hk4
    exact ⟨a, c, x1, x2.keep hs fun b hb hl => hk b (.inr (.inr (.inr hb))) hl, x3⟩
theorem RfAt.below (h : RfAt D w lb M vo vc) (hb : Below w.heap.size w w') : RfAt D w' lb M vo vc := h.keep hb.size fun b _ hl => hb.block b hl
theorem RfAt.cells (h : RfAt D w lb M vo vc) : w.cell? ⟨lb, 0, none⟩ = some (.int .i64 M.n) ∧ w.cell? ⟨lb, 1, none⟩ = some (.int .i64 M.me) ∧ w.cell? ⟨lb, 2, none⟩ = some (.bool M.b) ∧ w.cell? ⟨lb, 3, none⟩ = some vo ∧ w.cell? ⟨lb, 4, none⟩ = some vc :=
  ⟨h.b.cell 0, h.b.cell 1, h.b.cell 2, h.b.cell 3, h.b.cell 4⟩
/-- read -/
theorem RfAt.rd (h : RfAt D w lb M vo vc) (hT : 0 < M.T) : ∃ ao co gc cc, vo = .slice ao M.T co ∧ vc = .slice (some ⟨gc, 0, none⟩) M.T cc ∧ RfRd (RfS D lb vo vc) w lb M ao co gc cc := by
  obtain ⟨ps, p1, p2, p3⟩ := h.own
  obtain ⟨us, u1, u2⟩ := h.come
  have hall : ∀ p ∈ ps, p.1.ok := fun p hp => by
    obtain ⟨j, hj, he⟩ := List.getElem_of_mem hp
    exact (p3 j p (by rw [List.getElem?_eq_getElem hj, he])).2.1
  rcases p2.2 with ⟨-, h0⟩ | ⟨go, co, curo, rfl, -, o2, o3, o4, o5, o6⟩
  · omega
  rcases u1.2 with ⟨-, h0⟩ | ⟨gc, cc, curc, rfl, -, c2, c3, c4, c5, c6⟩
  · omega
  obtain ⟨d0, d1, -, d3, d4⟩ := h.cells
  refine ⟨some ⟨go, 0, none⟩, co, gc, cc, rfl, rfl, d0, d1, d3, d4, ?_, fun j k hj hk => ?_, ⟨h.b.lt, lt_of_some c2⟩, ⟨h.le.1, h.le.2.1, h.le.2.2.1, h.le.2.2.2, o3, c3, o4, c4⟩⟩
  · have hmap : (List.range M.T).map M.own = ps.map Prod.fst := by
      apply List.ext_getElem?
      intro j
      rw [List.getElem?_map, List.getElem?_map]
      by_cases hj : j < M.T
      · rw [List.getElem?_range hj]
        obtain ⟨p, hp⟩ : ∃ p, ps[j]? = some p := ⟨_, List.getElem?_eq_getElem (by omega)⟩
        rw [hp]
        show some (M.own j) = some p.1
        rw [(p3 j p hp).1]
      · rw [List.getElem?_eq_none (by simpa using hj), List.getElem?_eq_none (by omega)]; rfl
    rw [hmap]
    refine ⟨by simp [p1], fun r hr => ?_, fun k r hk => ?_⟩
    · obtain ⟨p, hp, rfl⟩ := List.mem_map.1 hr
      exact hall p hp
    · rw [List.getElem?_map] at hk
      cases hp : ps[k]? with
      | none => rw [hp] at hk; cases hk
      | some p =>
        obtain ⟨r', tv⟩ := p
        rw [hp] at hk
        have hk' : r' = r := by simpa using hk
        subst hk'
        have hkT : k < M.T := by rw [← p1]; exact (List.getElem?_eq_some_iff.1 hp).1
        obtain ⟨x1, x2, x3⟩ := p3 k _ hp
        have hlen := Rw.len x2 tv
        have hin : k * 57 + 57 ≤ M.T * 57 := by
          have : (k + 1) * 57 ≤ M.T * 57 := Nat.mul_le_mul_right _ (by omega)
          omega
        have hr := row_of_cells (w := w) (p := ⟨go, k * 57, none⟩) (l := r'.vals tv) (fun j u hu => by
          have hj : j < 57 := by rw [← hlen]; exact (List.getElem?_eq_some_iff.1 hu).1
          rw [add_at, cell_of_row w go _ curo _ (0, 0) o2]
          have e1 : curo[k * 57 + j]? = (curo.toList.take (M.T * 57))[k * 57 + j]? := by rw [List.getElem?_take, if_pos (by omega)]; simp
          rw [e1, o6, flatP_at hall hp hj, hu])
        rw [hlen] at hr
        obtain ⟨xx, mm, cp, rfl, y1, y2, y3⟩ := x3
        exact ⟨go, 0, xx, mm, cp, rfl, .inr (.inl rfl), lt_of_some o2, by simpa using hr.1, by simpa using hr.2, y1.mono fun b _ hD => .inr (.inr (.inr hD)), y2, y3⟩
  · obtain ⟨a, c, x1, x2, x3⟩ := u2 j k hj hk
    refine ⟨a, c, ?_, x2.mono fun b _ hD => .inr (.inr (.inr hD)), x3⟩
    have hin : j * 4 + k < M.T * 4 := by
      have : (j + 1) * 4 ≤ M.T * 4 := Nat.mul_le_mul_right _ (by omega)
      omega
    rw [cell_of_row w gc _ curc _ (0, 0) c2]
    have e1 : curc[j * 4 + k]? = (curc.toList.take (M.T * 4))[j * 4 + k]? := by rw [List.getElem?_take, if_pos (by omega)]; simp
    rw [e1, c6, x1]
end
end Go.Proofs.Ytopakilglnpinaa
