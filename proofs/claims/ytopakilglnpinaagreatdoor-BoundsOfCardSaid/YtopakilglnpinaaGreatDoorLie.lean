
/-
  Where an appended slice lies; a table whole, appended onto a slice of the call's own.
-/
import Derived.Test.YtopakilglnpinaaGreatDoorMak
import Derived.Test.YtopakilglnpinaaGreatDoorHds
namespace Go.Proofs.YtopakilglnpinaaGreatDoor
open Go.RowKit
set_option linter.unusedVariables false
set_option linter.unusedSimpArgs false

/-- wpList_app, and where the new slice lies -/
theorem wpList_lies {P : Program} {t e : TypeId} {size : Nat} (hA : AppOk P t e size) {w : World} {ops : Array Oper} {rest : List Oper} {o : Oper} {a : Act} {Q : Exit → Act → World → Prop} (hgd : o.guard = none) (s x : Operand)
    (ho : o.op = .call { callee := .builtin .append, args := #[s, x], argTypes := #[t, t] })
    (base : Nat) (v : Value) (n : Nat) (xs : List Value) (hs : a.eval s = v) (hown : w.ownsRow base e size v n xs)
    (ad : Addr) (m c : Nat) (news : List Value) (hx : a.eval x = .slice (some ad) m c) (hl : news.length = m * size) (hr : hasRow w ad (m * size) = true) (hre : rowOf w ad (m * size) = news) (h1 : news.all cell1 = true)
    (hm : 0 < m) (hn : n + m ≤ 1000000000) (hbase : base ≤ w.heap.size)
    (h : ∀ g cap w', w'.ownsRow base e size (.slice (some ⟨g, 0, none⟩) (n + m) cap) (n + m) (xs ++ news) → w.grownBy w' v.ownBlock → (v.ownBlock = some g ∨ g = w.heap.size) → wpList P ops Q rest (a.put o.dst (.slice (some ⟨g, 0, none⟩) (n + m) cap)) w') : wpList P ops Q (o :: rest) a w := by
  obtain ⟨ht, i, z, hi, hz, hsize, hby, hzs, hsz⟩ := hA
  refine wpList_plain hgd fun K hK => ?_
  refine wp_append_lies w s x t ho base e i z size i.bytes ht hi hz hsize rfl hzs hsz v n xs hs hown ad m c news hx hl (fun j u hu => ?_) (fun u hu => cell1_one (List.all_eq_true.1 h1 u hu)) hm (by simp only [maxLen]; omega) ?_ hbase w.heap.size rfl (fun g cap w' h2 h3 h4 _ => hK _ _ (h g cap w' h2 h3 h4))
  · have hj : j < m * size := by rw [← hl]; exact (List.getElem?_eq_some_iff.1 hu).1
    rw [rowOf_at hr j hj, hre, hu]
  · exact Nat.le_trans (Nat.mul_le_mul hn hby) (by omega)
theorem RdHs.pre {S : Nat → Prop} {w : World} {x : Option Addr} {m : Nat} {l l' : List Hd} (h : RdHs S w x m (l ++ l')) : RdHs S w x l.length l :=
  ⟨rfl, fun y hy => h.2.1 y (by simp [hy]), fun k y hk => h.2.2 k y (by rw [List.getElem?_append_left (List.getElem?_eq_some_iff.1 hk).1]; exact hk)⟩
theorem RdHs.whole {S : Nat → Prop} {w : World} {x : Option Addr} {m : Nat} {t : List Hd} (h : RdHs S w x m t) (hm : 0 < m) :
    ∃ b off, x = some ⟨b, off, none⟩ ∧ S b ∧ b < w.heap.size ∧ hasRow w ⟨b, off, none⟩ (m * 56) = true ∧ rowOf w ⟨b, off, none⟩ (m * 56) = flatH t := by
  obtain ⟨h1, h2, h3⟩ := h
  obtain ⟨b, off, hx, hS, hb, -⟩ := h3 0 _ (List.getElem?_eq_getElem (by omega))
  refine ⟨b, off, hx, hS, hb, ?_⟩
  have hl : (flatH t).length = m * 56 := by rw [len_flatH h2, h1]
  have := row_of_cells (w := w) (p := ⟨b, off, none⟩) (l := flatH t) (fun j v hv => by
    have hj : j < m * 56 := by rw [← hl]; exact (List.getElem?_eq_some_iff.1 hv).1
    have hk : j / 56 < t.length := by omega
    have hkk : t[j / 56]? = some (t[j / 56]'hk) := List.getElem?_eq_getElem hk
    obtain ⟨b', off', hx', -, -, hr1, hr2⟩ := h3 (j / 56) _ hkk
    rw [hx] at hx'
    cases hx'
    have hj2 : j % 56 < 56 := Nat.mod_lt _ (by omega)
    have e1 := flatH_at h2 hkk hj2
    rw [show j / 56 * 56 + j % 56 = j from by omega, hv] at e1
    have := row_cell hr1 hr2 (j % 56) hj2
    rw [show off + j / 56 * 56 + j % 56 = off + j from by omega] at this
    rw [add_at, this, e1])
  rwa [hl] at this

theorem run_append_zero {P : Program} {w : World} {base : Nat} {t ty e : TypeId} {i : TypeInfo} {size : Nat} (ht : P.underlying t = some (.slice e)) (hi : P.info? e = some i)
    (v : Value) (n : Nat) (xs : List Value) (hown : w.ownsRow base e size v n xs) (x : Option Addr) (c : Nat) :
    (Builtin.append_ #[t, t] ty #[v, .slice x 0 c]).run P w = .ok v w := by
  rcases hown.2 with ⟨rfl, rfl⟩ | ⟨g, cap, cur, rfl, _, _, hnc, _⟩ <;> cases x <;>
    simp [Builtin.append_, run_underlying ht, sizeOf, typeInfo, hi, Builtin.lenOf, Builtin.firstCells, storeCells, loadCells, loadCellsFrom, *]
/-- a table appended onto a slice of the call's own -/
theorem wpList_appH {P : Program} {t e : TypeId} (hA : AppOk P t e 56) {w : World} {ops : Array Oper} {rest : List Oper} {o : Oper} {a : Act} {Q : Exit → Act → World → Prop} (hgd : o.guard = none) (s x : Operand)
    (ho : o.op = .call { callee := .builtin .append, args := #[s, x], argTypes := #[t, t] })
    (base : Nat) (v : Value) (n : Nat) (xs : List Value) (hs : a.eval s = v) (hown : w.ownsRow base e 56 v n xs)
    {S : Nat → Prop} (ad : Option Addr) (m c : Nat) (l : List Hd) (hx : a.eval x = .slice ad m c) (hrd : RdHs S w ad m l)
    (hn : n + m ≤ 1000000000) (hbase : base ≤ w.heap.size)
    (h : ∀ v' w', w'.ownsRow base e 56 v' (n + m) (xs ++ flatH l) → w.grownBy w' v.ownBlock → (∃ x c, v' = .slice x (n + m) c) → wpList P ops Q rest (a.put o.dst v') w') : wpList P ops Q (o :: rest) a w := by
  rcases Nat.eq_zero_or_pos m with rfl | hm
  · have hl : l = [] := List.eq_nil_of_length_eq_zero hrd.1
    subst hl
    obtain ⟨ht, i, z, hi, hz, hsize, hby, hzs, hsz⟩ := hA
    refine wpList_plain hgd fun K hK => ?_
    unfold Oper.wp execOp
    simp only [ho, resolve, invoke, builtin, Sem.run_bind, Sem.run_pure, Result.andThen_ok, List.map_toArray, List.map_cons, List.map_nil, hs, hx, run_append_zero ht hi v n xs hown ad c]
    refine hK _ _ (h v w (by simpa [flatH] using hown) ⟨rfl, rfl, rfl, Nat.le_refl _, fun _ _ _ => rfl⟩ ?_)
    rcases hown.2 with ⟨rfl, rfl⟩ | ⟨g, cap, cur, rfl, _⟩
    · exact ⟨_, _, rfl⟩
    · exact ⟨_, _, rfl⟩
  · obtain ⟨b, off, rfl, -, -, h1, h2⟩ := hrd.whole hm
    refine wpList_lies hA hgd s x ho base v n xs hs hown _ m c (flatH l) hx (by rw [len_flatH hrd.2.1, hrd.1]) h1 h2 ?_ hm hn hbase (fun g cap w' k1 k2 _ => h _ w' k1 k2 ⟨_, _, rfl⟩)
    rw [flatH, List.all_flatMap, List.all_eq_true]
    intro y hy
    have := okL_cell1 (hrd.2.1 y hy)
    simp [Hd.vals] at this ⊢
    exact ⟨rfl, this⟩
theorem step_lies {P : Program} {t e : TypeId} {size : Nat} (hA : AppOk P t e size) {w : World} {ops : Array Oper} {o : Oper} {a : Act} {K : Act → World → Prop} {Q : Exit → Act → World → Prop} {E : Prop} (hgd : o.guard = none) (s x : Operand)
    (ho : o.op = .call { callee := .builtin .append, args := #[s, x], argTypes := #[t, t] })
    (base : Nat) (v : Value) (n : Nat) (xs : List Value) (hs : a.eval s = v) (hown : w.ownsRow base e size v n xs)
    (ad : Addr) (m c : Nat) (news : List Value) (hx : a.eval x = .slice (some ad) m c) (hl : news.length = m * size) (hr : hasRow w ad (m * size) = true) (hre : rowOf w ad (m * size) = news) (h1 : news.all cell1 = true)
    (hm : 0 < m) (hn : n + m ≤ 1000000000) (hbase : base ≤ w.heap.size)
    (h : ∀ g cap w', w'.ownsRow base e size (.slice (some ⟨g, 0, none⟩) (n + m) cap) (n + m) (xs ++ news) → w.grownBy w' v.ownBlock → (v.ownBlock = some g ∨ g = w.heap.size) → K (a.put o.dst (.slice (some ⟨g, 0, none⟩) (n + m) cap)) w') :
    if Region.wanted o (yielded ops a.tmps) = true then Oper.wp P o a w K Q else E := by
  obtain ⟨ht, i, z, hi, hz, hsize, hby, hzs, hsz⟩ := hA
  refine step_append_lies w hgd s x t ho base e i z size i.bytes ht hi hz hsize rfl hzs hsz v n xs hs hown ad m c news hx hl (fun j u hu => ?_) (fun u hu => cell1_one (List.all_eq_true.1 h1 u hu)) hm (by simp only [maxLen]; omega) ?_ hbase w.heap.size rfl (fun g cap w' h2 h3 h4 _ => h g cap w' h2 h3 h4)
  · have hj : j < m * size := by rw [← hl]; exact (List.getElem?_eq_some_iff.1 hu).1
    rw [rowOf_at hr j hj, hre, hu]
  · exact Nat.le_trans (Nat.mul_le_mul hn hby) (by omega)

end Go.Proofs.YtopakilglnpinaaGreatDoor
