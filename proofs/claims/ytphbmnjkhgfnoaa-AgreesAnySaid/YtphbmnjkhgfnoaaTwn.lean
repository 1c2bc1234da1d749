/-
  A table whole: appended onto a slice of the call's own; made with room.
-/
import Derived.Test.YtphbmnjkhgfnoaaOwn
namespace Go.Proofs.Ytphbmnjkhgfnoaa
open Go.RowKit
set_option linter.unusedVariables false
set_option linter.unusedSimpArgs false

theorem RdHs.pre {S : Nat → Prop} {w : World} {x : Option Addr} {m : Nat} {l l' : List Hd} (h : RdHs S w x m (l ++ l')) : RdHs S w x l.length l :=
  ⟨rfl, fun y hy => h.2.1 y (by simp [hy]), fun k y hk => h.2.2 k y (by rw [List.getElem?_append_left (List.getElem?_eq_some_iff.1 hk).1]; exact hk)⟩
theorem RdHs.whole {S : Nat → Prop} {w : World} {x : Option Addr} {m : Nat} {t : List Hd} (h : RdHs S w x m t) (hm : 0 < m) :
    ∃ b off, x = some ⟨b, off, none⟩ ∧ S b ∧ b < w.heap.size ∧ hasRow w ⟨b, off, none⟩ (m * 56) = true ∧ rowOf w ⟨b, off, none⟩ (m * 56) = flatH t := by
  obtain ⟨h1, h2, h3⟩ := h
  obtain ⟨b, off, hx, hS, hb, -⟩ := h3 0 _ (List.getElem?_eq_getElem (by omega))
  refine ⟨b, off, hx, hS, hb, ?_⟩
  have hl : (flatH t).length = m * 56 := by rw [len_flatH h2, h1]
  have := row_of_cells (w := w) (p := ⟨b, off, none⟩) (l := flatH t) (fun j v hv => by
    have hj : j < m * 56 := by rw [← hl]; exact (List.getElem?_eq_some_iff.1 hv).1
    have hk : j / 56 < t.length := by omega
    have hkk : t[j / 56]? = some (t[j / 56]'hk) := List.getElem?_eq_getElem hk
    obtain ⟨b', off', hx', -, -, hr1, hr2⟩ := h3 (j / 56) _ hkk
    rw [hx] at hx'
    cases hx'
    have hj2 : j % 56 < 56 := Nat.mod_lt _ (by omega)
    have e1 := flatH_at h2 hkk hj2
    rw [show j / 56 * 56 + j % 56 = j from by omega, hv] at e1
    have := row_cell hr1 hr2 (j % 56) hj2
    rw [show off + j / 56 * 56 + j % 56 = off + j from by omega] at this
    rw [add_at, this, e1])
  rwa [hl] at this

theorem run_append_zero {P : Program} {w : World} {base : Nat} {t ty e : TypeId} {i : TypeInfo} {size : Nat} (ht : P.underlying t = some (.slice e)) (hi : P.info? e = some i)
    (v : Value) (n : Nat) (xs : List Value) (hown : w.ownsRow base e size v n xs) (x : Option Addr) (c : Nat) :
    (Builtin.append_ #[t, t] ty #[v, .slice x 0 c]).run P w = .ok v w := by
  rcases hown.2 with ⟨rfl, rfl⟩ | ⟨g, cap, cur, rfl, _, _, hnc, _⟩ <;> cases x <;>
    simp [Builtin.append_, run_underlying ht, sizeOf, typeInfo, hi, Builtin.lenOf, Builtin.firstCells, storeCells, loadCells, loadCellsFrom, *]
/-- a table appended onto a slice of the call's own -/
theorem wpList_appH {P : Program} {t e : TypeId} (hA : AppOk P t e 56) {w : World} {ops : Array Oper} {rest : List Oper} {o : Oper} {a : Act} {Q : Exit → Act → World → Prop} (hgd : o.guard = none) (s x : Operand)
    (ho : o.op = .call { callee := .builtin .append, args := #[s, x], argTypes := #[t, t] })
    (base : Nat) (v : Value) (n : Nat) (xs : List Value) (hs : a.eval s = v) (hown : w.ownsRow base e 56 v n xs)
    {S : Nat → Prop} (ad : Option Addr) (m c : Nat) (l : List Hd) (hx : a.eval x = .slice ad m c) (hrd : RdHs S w ad m l)
    (hn : n + m ≤ 1000000000) (hbase : base ≤ w.heap.size)
    (h : ∀ v' w', w'.ownsRow base e 56 v' (n + m) (xs ++ flatH l) → w.grownBy w' v.ownBlock → (∃ x c, v' = .slice x (n + m) c) → wpList P ops Q rest (a.put o.dst v') w') : wpList P ops Q (o :: rest) a w := by
  rcases Nat.eq_zero_or_pos m with rfl | hm
  · have hl : l = [] := List.eq_nil_of_length_eq_zero hrd.1
    subst hl
    obtain ⟨ht, i, z, hi, hz, hsize, hby, hzs, hsz⟩ := hA
    refine wpList_plain hgd fun K hK => ?_
    unfold Oper.wp execOp
    simp only [ho, resolve, invoke, builtin, Sem.run_bind, Sem.run_pure, Result.andThen_ok, List.map_toArray, List.map_cons, List.map_nil, hs, hx, run_append_zero ht hi v n xs hown ad c]
    refine hK _ _ (h v w (by simpa [flatH] using hown) ⟨rfl, rfl, rfl, Nat.le_refl _, fun _ _ _ => rfl⟩ ?_)
    rcases hown.2 with ⟨rfl, rfl⟩ | ⟨g, cap, cur, rfl, _⟩
    · exact ⟨_, _, rfl⟩
    · exact ⟨_, _, rfl⟩
  · obtain ⟨b, off, rfl, -, -, h1, h2⟩ := hrd.whole hm
    refine wpList_lies hA hgd s x ho base v n xs hs hown _ m c (flatH l) hx (by rw [len_flatH hrd.2.1, hrd.1]) h1 h2 ?_ hm hn hbase (fun g cap w' k1 k2 _ => h _ w' k1 k2 ⟨_, _, rfl⟩)
    rw [flatH, List.all_flatMap, List.all_eq_true]
    intro y hy
    have := okL_cell1 (hrd.2.1 y hy)
    simp [Hd.vals] at this ⊢
    exact ⟨rfl, this⟩
/-- make with room -/
def roomOk : Value → Value → Bool
  | .int .i64 n, .int .i64 m => decide (n = 0) && decide (0 ≤ m) && decide (m ≤ 1048576)
  | _, _ => false
@[go_sem] theorem roomOk_nat (n : Nat) : roomOk (.int .i64 0) (.int .i64 (n : Int)) = decide (n ≤ 1048576) := by
  simp [roomOk]; omega
theorem exec_room {P : Program} {t e : TypeId} {z : List Value} (hM : MakeOk P t e z) (ρ : Operand → Value) (d : Option Tmp) (x y : Operand) (ty : TypeId) (s : String) (af : Array Edge) (g : Option (Nat × Bool)) (w : World)
    (h : roomOk (ρ x) (ρ y) = true) : (execOp ρ { dst := d, op := .makeSlice t x y, type := ty, pos := s, after := af, guard := g }).run P w =
      .ok (.value (.slice (some ⟨w.heap.size, 0, none⟩) 0 (lenV (ρ y)))) (w.alloc (.cells (zrep z (lenV (ρ y))).toArray e)) := by
  obtain ⟨ht, hi, hz⟩ := hM
  generalize hx : ρ x = vx at h ⊢
  generalize hy : ρ y = vy at h
  unfold roomOk at h
  split at h
  · rename_i n m
    simp only [Bool.and_eq_true, decide_eq_true_eq] at h
    obtain ⟨⟨rfl, h0⟩, h1⟩ := h
    cases hie : P.info? e with
    | none => simp [hie] at hi
    | some i =>
      simp only [hie, Option.map_some, Option.some.injEq, Prod.mk.injEq, decide_eq_true_eq] at hi
      obtain ⟨hs, hb, hzz⟩ := hi
      cases hzv : i.zero with
      | none => simp [hzv] at hzz
      | some v =>
        simp [hzv] at hzz
        obtain ⟨N, rfl⟩ : ∃ N : Nat, m = N := ⟨m.toNat, by omega⟩
        have hbn : i.bytes * N ≤ 65536 * 1048576 := Nat.mul_le_mul hb (by omega)
        have hbz : (i.bytes : Int) * (N : Int) ≤ 281474976710656 := by
          have : ((i.bytes * N : Nat) : Int) ≤ 65536 * 1048576 := by omega
          rw [Int.natCast_mul] at this
          omega
        have hvs : v.cells.size = z.length := by rw [← hzz]; simp
        have harr : madeCells v.cells ((N : Int).toNat * i.size) = (zrep z N).toArray := by
          rw [Int.toNat_natCast, hs]
          apply Array.ext'
          apply List.ext_getElem?
          intro j
          by_cases hj : j < N * z.length
          · have hm : j % z.length < v.cells.size := by rw [hvs]; exact Nat.mod_lt _ hz
            have e1 : (zrep z N)[j]? = v.cells[j % z.length]? := by rw [zrep_at hz N j hj, ← hzz]; simp
            rw [show (zrep z N).toArray.toList = zrep z N from rfl, e1]
            simp only [madeCells, Array.toList_map, List.getElem?_map, Array.toList_range, List.getElem?_range hj, Option.map_some, hvs]
            rw [getElem!_pos v.cells _ hm, Array.getElem?_eq_getElem hm]
          · have e1 : (zrep z N)[j]? = none := List.getElem?_eq_none (by rw [len_zrep]; omega)
            rw [show (zrep z N).toArray.toList = zrep z N from rfl, e1]
            simp [madeCells]; omega
        have := run_make (P := P) w t e i v ht hie hzv .i64 .i64 0 N (by omega) (by omega) hbz (by omega)
        rw [harr] at this
        simp [execOp, hx, hy, this, lenV]
  · cases h
@[go_sem ↓] theorem ms_room (ρ : Operand → Value) (d : Option Tmp) (x y : Operand) (ty : TypeId) (s : String) (af : Array Edge) (g : Option (Nat × Bool)) (w : World) (h : roomOk (ρ x) (ρ y) = true) :
    (execOp ρ { dst := d, op := .makeSlice 28 x y, type := ty, pos := s, after := af, guard := g }).run Try.prog w =
      .ok (.value (.slice (some ⟨w.heap.size, 0, none⟩) 0 (lenV (ρ y)))) (w.alloc (.cells (zrep heldZ (lenV (ρ y))).toArray 60)) := exec_room mk_held ρ d x y ty s af g w h
@[go_sem ↓] theorem bs_held2 (ρ : Operand → Value) (d : Option Tmp) (x y : Operand) (ty : TypeId) (s : String) (af : Array Edge) (g : Option (Nat × Bool)) (w : World) (h : lenC (ρ x) 56 = true) (h' : lenC (ρ y) 56 = true) :
    (execOp ρ { dst := d, op := .buildSlice 28 2 #[(0, x), (1, y)], type := ty, pos := s, after := af, guard := g }).run Try.prog w = .ok (.value (.slice (some ⟨w.heap.size, 0, none⟩) 2 2)) (w.alloc (.cells (cellsL (ρ x) ++ cellsL (ρ y)).toArray 60)) := by
  have := exec_bslice (n := 56) Try.underlying28 (by kernel_rfl) ρ d 2 [x, y] #[(0, x), (1, y)] ty s af g w (by simp [iparts]) rfl (by omega) (by omega) (by simp [h, h'])
  simpa using this
end Go.Proofs.Ytphbmnjkhgfnoaa
