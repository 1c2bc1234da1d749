/-
  A slice with whatever room behind it: one value more is appended. Over any program.
-/
import Derived.Test.YtlfpchkoeipcdaaHds
import Derived.ArgAppend
namespace Go.Proofs.Ytlfpchkoeipcdaa
open Go.RowKit
set_option linter.unusedVariables false
set_option linter.unusedSimpArgs false

/-- a slice of one-cell elements, in a block from B on, that may be written up to its capacity -/
def RoomV (B : Nat) (w : World) (e : TypeId) (v : Value) (xs : List Value) : Prop :=
  (v = .slice none 0 0 ∧ xs = []) ∨ ∃ g off cap cur, v = .slice (some ⟨g, off, none⟩) xs.length cap ∧ B ≤ g ∧ Blk w g e cur ∧ off + cap ≤ cur.size ∧ xs.length ≤ cap ∧ cap ≤ maxLen ∧ ∀ (j : Nat) (u : Value), xs[j]? = some u → cur[off + j]? = some u
theorem RoomV.nil (B : Nat) (w : World) (e : TypeId) : RoomV B w e (.slice none 0 0) [] := .inl ⟨rfl, rfl⟩
theorem RoomV.of_own {B : Nat} {w : World} {e : TypeId} {v : Value} {n : Nat} {xs : List Value} (h : w.ownsRow B e 1 v n xs) : RoomV B w e v xs := by
  have hl : xs.length = n := by have := h.1; omega
  rcases h.2 with ⟨rfl, h0⟩ | ⟨g, cap, cur, rfl, h1, h2, h3, h4, h5, h6⟩
  · exact .inl ⟨rfl, List.eq_nil_of_length_eq_zero (by omega)⟩
  · subst hl
    refine .inr ⟨g, 0, cap, cur, rfl, h1, h2, by omega, h3, h4, fun j u hj => ?_⟩
    have hjl : j < xs.length := (List.getElem?_eq_some_iff.1 hj).1
    rw [← h6, List.getElem?_take, if_pos (by omega)] at hj
    simpa using hj
theorem RoomV.lt {B : Nat} {w : World} {e : TypeId} {v : Value} {xs : List Value} (h : RoomV B w e v xs) : ∀ k, v.ownBlock = some k → B ≤ k ∧ k < w.heap.size := fun k hk => by
  rcases h with ⟨rfl, -⟩ | ⟨g, off, cap, cur, rfl, h1, h2, -⟩
  · cases hk
  · simp only [Value.ownBlock, Option.some.injEq] at hk
    subst hk
    exact ⟨h1, h2.lt⟩
theorem RoomV.block {B : Nat} {w w' : World} {e : TypeId} {v : Value} {xs : List Value} (h : RoomV B w e v xs) (hb : ∀ k, v.ownBlock = some k → w'.heap[k]? = w.heap[k]?) : RoomV B w' e v xs := by
  rcases h with h | ⟨g, off, cap, cur, rfl, h1, h2, h3⟩
  · exact .inl h
  · exact .inr ⟨g, off, cap, cur, rfl, h1, (hb g rfl).trans h2, h3⟩
theorem RoomV.not_ {B : Nat} {w : World} {e t : TypeId} {v : Value} {xs : List Value} {g : Nat} {cs : Array Value} (h : RoomV B w e v xs) (hg : Blk w g t cs) (hne : e ≠ t) : v.ownBlock ≠ some g := by
  rcases h with ⟨rfl, -⟩ | ⟨g', off, cap, cur, rfl, h1, h2, -⟩
  · simp [Value.ownBlock]
  · intro he
    simp only [Value.ownBlock, Option.some.injEq] at he
    subst he
    exact Blk.ne_ h2 hg hne rfl
theorem RoomV.shape {B : Nat} {w : World} {e : TypeId} {v : Value} {xs : List Value} (h : RoomV B w e v xs) : ∃ a cap, v = .slice a xs.length cap := by
  rcases h with ⟨rfl, rfl⟩ | ⟨g, off, cap, cur, rfl, -⟩
  · exact ⟨_, _, rfl⟩
  · exact ⟨_, _, rfl⟩
/-- where there is an element: its address, its cells -/
theorem RoomV.at1 {B : Nat} {w : World} {e : TypeId} {v : Value} {xs : List Value} (h : RoomV B w e v xs) (hn : 0 < xs.length) : ∃ g off cap, v = .slice (some ⟨g, off, none⟩) xs.length cap ∧ xs.length ≤ cap ∧ cap ≤ maxLen ∧ g < w.heap.size ∧ ∀ (j : Nat) (u : Value), xs[j]? = some u → w.cell? ⟨g, off + j, none⟩ = some u := by
  rcases h with ⟨rfl, rfl⟩ | ⟨g, off, cap, cur, rfl, h1, h2, h3, h4, h5, h6⟩
  · simp at hn
  · exact ⟨g, off, cap, rfl, h4, h5, h2.lt, fun j u hj => by rw [h2.cell]; exact h6 j u hj⟩
/-- the first ones are let go -/
theorem RoomV.drop {B : Nat} {w : World} {e : TypeId} {g off n cap : Nat} {xs : List Value} (h : RoomV B w e (.slice (some ⟨g, off, none⟩) n cap) xs) {k : Nat} (hk : k ≤ xs.length) : RoomV B w e (.slice (some ⟨g, off + k, none⟩) (xs.length - k) (xs.length - k)) (xs.drop k) := by
  rcases h with ⟨h, -⟩ | ⟨g', off', cap', cur, he, h1, h2, h3, h4, h5, h6⟩
  · cases h
  · cases he
    refine .inr ⟨g, off + k, xs.length - k, cur, by rw [List.length_drop], h1, h2, by omega, by rw [List.length_drop]; omega, by omega, fun j u hj => ?_⟩
    rw [List.getElem?_drop] at hj
    have := h6 _ u hj
    rwa [← Nat.add_assoc] at this

theorem run_appR {P : Program} {t e : TypeId} (hA : AppOk P t e 1) {B : Nat} {w : World} (hB : B ≤ w.heap.size) (ty : TypeId) {v : Value} {xs : List Value} (h : RoomV B w e v xs) (ad : Addr) (c : Nat) (x : Value) (hx : w.cell? ad = some x) (h1 : cell1 x = true) (hn : xs.length ≤ 100000000) :
    ∃ v' w', (Builtin.append_ #[t, t] ty #[v, .slice (some ad) 1 c]).run P w = .ok v' w' ∧ RoomV B w' e v' (xs ++ [x]) ∧ w.grownBy w' v.ownBlock ∧ (v'.ownBlock = v.ownBlock ∨ v'.ownBlock = some w.heap.size ∨ ∀ k, v'.ownBlock = some k → w.heap.size ≤ k) := by
  obtain ⟨ht, i, z, hi, hz, hsize, hby, hzs, hsz⟩ := hA
  have hnews : ∀ (j : Nat) (u : Value), [x][j]? = some u → w.cell? (ad.add j) = some u := fun j u hj => by
    cases j with
    | zero => simp at hj; subst hj; simpa [Addr.add] using hx
    | succ j => simp at hj
  have h1' : ∀ u ∈ [x], u.oneCell' = true := fun u hu => by simp at hu; subst hu; exact cell1_one h1
  have hby2 : ∀ n, n ≤ 1000000000 → n * i.bytes ≤ 140737488355328 := fun n hn => Nat.le_trans (Nat.mul_le_mul hn hby) (by omega)
  have grown : ∀ {v' w'}, w'.ownsRow w.heap.size e 1 v' (xs.length + 1) (xs ++ [x]) → w.grownBy w' none → RoomV B w' e v' (xs ++ [x]) ∧ w.grownBy w' v.ownBlock ∧ (v'.ownBlock = v.ownBlock ∨ v'.ownBlock = some w.heap.size ∨ ∀ k, v'.ownBlock = some k → w.heap.size ≤ k) := fun {v' w'} ho hg => by
    refine ⟨?_, ⟨hg.os, hg.tape, hg.output, hg.size, fun k hk _ => hg.block k hk (by simp)⟩, .inr (.inr fun k hk => (ho.lt k hk).1)⟩
    rcases RoomV.of_own ho with h | ⟨g, off, cap, cur, h2, h3, h4⟩
    · exact .inl h
    · exact .inr ⟨g, off, cap, cur, h2, by omega, h4⟩
  rcases h with ⟨rfl, rfl⟩ | ⟨g, off, cap, cur, rfl, g1, g2, g3, g4, g5, g6⟩
  · obtain ⟨v', w', r1, r2, r3, -⟩ := run_append_own (P := P) w w.heap.size t ty e i z 1 i.bytes ht hi hz hsize rfl hzs hsz (.slice none 0 0) 0 [] (World.ownsRow_nil w _ e 1) ad 1 c [x] rfl hnews h1' (by simp [maxLen]) (hby2 _ (by omega)) (Nat.le_refl _)
    exact ⟨v', w', r1, grown r2 r3⟩
  · by_cases hroom : xs.length + 1 ≤ cap
    · have hf : w.frozen? ⟨g, off + xs.length, none⟩ = false := g2.frozen _
      have hcl : (w.cell? ⟨g, off + xs.length, none⟩).isSome = true := by
        rw [g2.cell, Array.getElem?_eq_getElem (by omega)]; rfl
      have hr := run_append_room_cells (P := P) w t ty e i ht hi g off xs.length cap ad 1 c [x] (by simp [hsize]) hnews h1' hroom (fun j hj => by simp at hj; subst hj; simpa [hsize] using hcl) (fun j hj => by simp at hj; subst hj; simpa [hsize] using hf)
      refine ⟨_, _, hr, ?_, ?_, .inl rfl⟩
      · have hb := g2.set_ (off + xs.length) x
        have e : w.setCells g (off + xs.length * i.size) [x] = w.setCell ⟨g, off + xs.length, none⟩ x := by simp [World.setCells, hsize]
        rw [e]
        refine .inr ⟨g, off, cap, _, by simp, g1, hb, by simpa using g3, by simpa using hroom, g5, fun j u hj => ?_⟩
        rw [Array.getElem?_setIfInBounds]
        by_cases hj1 : j < xs.length
        · rw [List.getElem?_append_left hj1] at hj
          rw [if_neg (by omega)]
          exact g6 j u hj
        · have : j = xs.length := by
            have := (List.getElem?_eq_some_iff.1 hj).1
            simp at this; omega
          subst this
          simp at hj
          subst hj
          rw [if_pos rfl, if_pos (by omega)]
      · have e : w.setCells g (off + xs.length * i.size) [x] = w.setCell ⟨g, off + xs.length, none⟩ x := by simp [World.setCells, hsize]
        rw [e]
        exact ⟨rfl, rfl, rfl, by simp, fun k hk hne => Below.heap_setCell _ _ _ _ (by rintro rfl; exact hne rfl)⟩
    · obtain ⟨v', w', r1, r2, r3⟩ := run_append_arg_grows (P := P) w t ty e i z 1 i.bytes ht hi hz hsize rfl hzs hsz ⟨g, off, none⟩ xs.length cap xs (by omega) (fun j u hj => by rw [add_at, g2.cell]; exact g6 j u hj) ad 1 c [x] rfl hnews (by omega) (by simp [maxLen]; omega) (hby2 _ (by omega))
      exact ⟨v', w', r1, grown r2 r3⟩

/-- at the list of a plain region's operations -/
theorem wpList_appR {P : Program} {t e : TypeId} (hA : AppOk P t e 1) {B : Nat} {w : World} {ops : Array Oper} {rest : List Oper} {o : Oper} {a : Act} {Q : Exit → Act → World → Prop} (hgd : o.guard = none) (s x : Operand)
    (ho : o.op = .call { callee := .builtin .append, args := #[s, x], argTypes := #[t, t] })
    (hB : B ≤ w.heap.size) (v : Value) (xs : List Value) (hs : a.eval s = v) (h : RoomV B w e v xs) (ad : Addr) (c : Nat) (y : Value) (hx : a.eval x = .slice (some ad) 1 c) (hy : w.cell? ad = some y) (h1 : cell1 y = true) (hn : xs.length ≤ 100000000)
    (hK : ∀ v' w', RoomV B w' e v' (xs ++ [y]) → w.grownBy w' v.ownBlock → (v'.ownBlock = v.ownBlock ∨ v'.ownBlock = some w.heap.size ∨ ∀ k, v'.ownBlock = some k → w.heap.size ≤ k) → wpList P ops Q rest (a.put o.dst v') w') : wpList P ops Q (o :: rest) a w := by
  refine wpList_plain hgd fun K hK' => ?_
  obtain ⟨v', w', hrun, r1, r2, r3⟩ := run_appR hA hB o.type h ad c y hy h1 hn
  unfold Oper.wp execOp
  simp only [ho, resolve, invoke, builtin, Sem.run_bind, Sem.run_pure, Result.andThen_ok, List.map_toArray, List.map_cons, List.map_nil, hs, hx, hrun]
  exact hK' _ _ (hK v' w' r1 r2 r3)
end Go.Proofs.Ytlfpchkoeipcdaa
