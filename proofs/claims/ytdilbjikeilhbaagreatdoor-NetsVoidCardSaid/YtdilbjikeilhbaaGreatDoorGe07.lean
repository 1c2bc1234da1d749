/-
  Where an appended slice lies; a table whole, appended onto a slice of the call's own. Rows appended onto a slice of the call's own; where the grown slice lies. sennitref13.Norm. slices.Equal of tables; words.Same, sennitref13.Same.
-/
import Derived.Test.YtdilbjikeilhbaaGreatDoorGe03
import Derived.Test.YtdilbjikeilhbaaGreatDoorGe04
import Derived.Test.YtdilbjikeilhbaaGreatDoorGe05
import Derived.Test.YtdilbjikeilhbaaGreatDoorGe06
import Derived.Deep.RegionHeld3
namespace Go.Proofs.YtdilbjikeilhbaaGreatDoor
open Go.RowKit
set_option linter.unusedVariables false
set_option linter.unusedSimpArgs false

theorem wpList_lies {P : Program} {t e : TypeId} {size : Nat} (hA : AppOk P t e size) {w : World} {ops : Array Oper} {rest : List Oper} {o : Oper} {a : Act} {Q : Exit → Act → World → Prop} (hgd : o.guard = none) (s x : Operand)
    (ho : o.op = .call { callee := .builtin .append, args := #[s, x], argTypes := #[t, t] })
    (base : Nat) (v : Value) (n : Nat) (xs : List Value) (hs : a.eval s = v) (hown : w.ownsRow base e size v n xs)
    (ad : Addr) (m c : Nat) (news : List Value) (hx : a.eval x = .slice (some ad) m c) (hl : news.length = m * size) (hr : hasRow w ad (m * size) = true) (hre : rowOf w ad (m * size) = news) (h1 : news.all cell1 = true)
    (hm : 0 < m) (hn : n + m ≤ 1000000000) (hbase : base ≤ w.heap.size)
    (h : ∀ g cap w', w'.ownsRow base e size (.slice (some ⟨g, 0, none⟩) (n + m) cap) (n + m) (xs ++ news) → w.grownBy w' v.ownBlock → (v.ownBlock = some g ∨ g = w.heap.size) → wpList P ops Q rest (a.put o.dst (.slice (some ⟨g, 0, none⟩) (n + m) cap)) w') : wpList P ops Q (o :: rest) a w := by
  obtain ⟨ht, i, z, hi, hz, hsize, hby, hzs, hsz⟩ := hA
  refine wpList_plain hgd fun K hK => ?_
  refine wp_append_lies w s x t ho base e i z size i.bytes ht hi hz hsize rfl hzs hsz v n xs hs hown ad m c news hx hl (fun j u hu => ?_) (fun u hu => cell1_one (List.all_eq_true.1 h1 u hu)) hm (by simp only [maxLen]; omega) ?_ hbase w.heap.size rfl (fun g cap w' h2 h3 h4 _ => hK _ _ (h g cap w' h2 h3 h4))
  · have hj : j < m * size := by rw [← hl]; exact (List.getElem?_eq_some_iff.1 hu).1
    rw [rowOf_at hr j hj, hre, hu]
  · exact Nat.le_trans (Nat.mul_le_mul hn hby) (by omega)
theorem RdHs.pre {S : Nat → Prop} {w : World} {x : Option Addr} {m : Nat} {l l' : List Hd} (h : RdHs S w x m (l ++ l')) : RdHs S w x l.length l :=
  ⟨rfl, fun y hy => h.2.1 y (by simp [hy]), fun k y hk => h.2.2 k y (by rw [List.getElem?_append_left (List.getElem?_eq_some_iff.1 hk).1]; exact hk)⟩
theorem RdHs.whole {S : Nat → Prop} {w : World} {x : Option Addr} {m : Nat} {t : List Hd} (h : RdHs S w x m t) (hm : 0 < m) :
    ∃ b off, x = some ⟨b, off, none⟩ ∧ S b ∧ b < w.heap.size ∧ hasRow w ⟨b, off, none⟩ (m * 56) = true ∧ rowOf w ⟨b, off, none⟩ (m * 56) = flatH t := by
  obtain ⟨h1, h2, h3⟩ := h
  obtain ⟨b, off, hx, hS, hb, -⟩ := h3 0 _ (List.getElem?_eq_getElem (by omega))
  refine ⟨b, off, hx, hS, hb, ?_⟩
  have hl : (flatH t).length = m * 56 := by rw [len_flatH h2, h1]
  have := row_of_cells (w := w) (p := ⟨b, off, none⟩) (l := flatH t) (fun j v hv => by
    have hj : j < m * 56 := by rw [← hl]; exact (List.getElem?_eq_some_iff.1 hv).1
    have hk : j / 56 < t.length := by omega
    have hkk : t[j / 56]? = some (t[j / 56]'hk) := List.getElem?_eq_getElem hk
    obtain ⟨b', off', hx', -, -, hr1, hr2⟩ := h3 (j / 56) _ hkk
    rw [hx] at hx'
    cases hx'
    have hj2 : j % 56 < 56 := Nat.mod_lt _ (by omega)
    have e1 := flatH_at h2 hkk hj2
    rw [show j / 56 * 56 + j % 56 = j from by omega, hv] at e1
    have := row_cell hr1 hr2 (j % 56) hj2
    rw [show off + j / 56 * 56 + j % 56 = off + j from by omega] at this
    rw [add_at, this, e1])
  rwa [hl] at this

theorem run_append_zero {P : Program} {w : World} {base : Nat} {t ty e : TypeId} {i : TypeInfo} {size : Nat} (ht : P.underlying t = some (.slice e)) (hi : P.info? e = some i)
    (v : Value) (n : Nat) (xs : List Value) (hown : w.ownsRow base e size v n xs) (x : Option Addr) (c : Nat) :
    (Builtin.append_ #[t, t] ty #[v, .slice x 0 c]).run P w = .ok v w := by
  rcases hown.2 with ⟨rfl, rfl⟩ | ⟨g, cap, cur, rfl, _, _, hnc, _⟩ <;> cases x <;>
    simp [Builtin.append_, run_underlying ht, sizeOf, typeInfo, hi, Builtin.lenOf, Builtin.firstCells, storeCells, loadCells, loadCellsFrom, *]
theorem wpList_appH {P : Program} {t e : TypeId} (hA : AppOk P t e 56) {w : World} {ops : Array Oper} {rest : List Oper} {o : Oper} {a : Act} {Q : Exit → Act → World → Prop} (hgd : o.guard = none) (s x : Operand)
    (ho : o.op = .call { callee := .builtin .append, args := #[s, x], argTypes := #[t, t] })
    (base : Nat) (v : Value) (n : Nat) (xs : List Value) (hs : a.eval s = v) (hown : w.ownsRow base e 56 v n xs)
    {S : Nat → Prop} (ad : Option Addr) (m c : Nat) (l : List Hd) (hx : a.eval x = .slice ad m c) (hrd : RdHs S w ad m l)
    (hn : n + m ≤ 1000000000) (hbase : base ≤ w.heap.size)
    (h : ∀ v' w', w'.ownsRow base e 56 v' (n + m) (xs ++ flatH l) → w.grownBy w' v.ownBlock → (∃ x c, v' = .slice x (n + m) c) → wpList P ops Q rest (a.put o.dst v') w') : wpList P ops Q (o :: rest) a w := by
  rcases Nat.eq_zero_or_pos m with rfl | hm
  · have hl : l = [] := List.eq_nil_of_length_eq_zero hrd.1
    subst hl
    obtain ⟨ht, i, z, hi, hz, hsize, hby, hzs, hsz⟩ := hA
    refine wpList_plain hgd fun K hK => ?_
    unfold Oper.wp execOp
    simp only [ho, resolve, invoke, builtin, Sem.run_bind, Sem.run_pure, Result.andThen_ok, List.map_toArray, List.map_cons, List.map_nil, hs, hx, run_append_zero ht hi v n xs hown ad c]
    refine hK _ _ (h v w (by simpa [flatH] using hown) ⟨rfl, rfl, rfl, Nat.le_refl _, fun _ _ _ => rfl⟩ ?_)
    rcases hown.2 with ⟨rfl, rfl⟩ | ⟨g, cap, cur, rfl, _⟩
    · exact ⟨_, _, rfl⟩
    · exact ⟨_, _, rfl⟩
  · obtain ⟨b, off, rfl, -, -, h1, h2⟩ := hrd.whole hm
    refine wpList_lies hA hgd s x ho base v n xs hs hown _ m c (flatH l) hx (by rw [len_flatH hrd.2.1, hrd.1]) h1 h2 ?_ hm hn hbase (fun g cap w' k1 k2 _ => h _ w' k1 k2 ⟨_, _, rfl⟩)
    rw [flatH, List.all_flatMap, List.all_eq_true]
    intro y hy
    have := okL_cell1 (hrd.2.1 y hy)
    simp [Hd.vals] at this ⊢
    exact ⟨rfl, this⟩
theorem step_lies {P : Program} {t e : TypeId} {size : Nat} (hA : AppOk P t e size) {w : World} {ops : Array Oper} {o : Oper} {a : Act} {K : Act → World → Prop} {Q : Exit → Act → World → Prop} {E : Prop} (hgd : o.guard = none) (s x : Operand)
    (ho : o.op = .call { callee := .builtin .append, args := #[s, x], argTypes := #[t, t] })
    (base : Nat) (v : Value) (n : Nat) (xs : List Value) (hs : a.eval s = v) (hown : w.ownsRow base e size v n xs)
    (ad : Addr) (m c : Nat) (news : List Value) (hx : a.eval x = .slice (some ad) m c) (hl : news.length = m * size) (hr : hasRow w ad (m * size) = true) (hre : rowOf w ad (m * size) = news) (h1 : news.all cell1 = true)
    (hm : 0 < m) (hn : n + m ≤ 1000000000) (hbase : base ≤ w.heap.size)
    (h : ∀ g cap w', w'.ownsRow base e size (.slice (some ⟨g, 0, none⟩) (n + m) cap) (n + m) (xs ++ news) → w.grownBy w' v.ownBlock → (v.ownBlock = some g ∨ g = w.heap.size) → K (a.put o.dst (.slice (some ⟨g, 0, none⟩) (n + m) cap)) w') :
    if Region.wanted o (yielded ops a.tmps) = true then Oper.wp P o a w K Q else E := by
  obtain ⟨ht, i, z, hi, hz, hsize, hby, hzs, hsz⟩ := hA
  refine step_append_lies w hgd s x t ho base e i z size i.bytes ht hi hz hsize rfl hzs hsz v n xs hs hown ad m c news hx hl (fun j u hu => ?_) (fun u hu => cell1_one (List.all_eq_true.1 h1 u hu)) hm (by simp only [maxLen]; omega) ?_ hbase w.heap.size rfl (fun g cap w' h2 h3 h4 _ => h g cap w' h2 h3 h4)
  · have hj : j < m * size := by rw [← hl]; exact (List.getElem?_eq_some_iff.1 hu).1
    rw [rowOf_at hr j hj, hre, hu]
  · exact Nat.le_trans (Nat.mul_le_mul hn hby) (by omega)

end Go.Proofs.YtdilbjikeilhbaaGreatDoor
namespace Go.Proofs.YtdilbjikeilhbaaGreatDoor
open Go.RowKit
set_option linter.unusedVariables false
set_option linter.unusedSimpArgs false

def flatP (ps : List (Rw × Value)) : List Value := ps.flatMap fun p => p.1.vals p.2
theorem flatP_at {ps : List (Rw × Value)} (h : ∀ p ∈ ps, p.1.ok) {k j : Nat} {p : Rw × Value} (hk : ps[k]? = some p) (hj : j < 57) : (flatP ps)[k * 57 + j]? = (p.1.vals p.2)[j]? := by
  unfold flatP
  induction ps generalizing k with
  | nil => simp at hk
  | cons y l ih =>
    have hy := Rw.len (h y (by simp)) y.2
    rw [List.flatMap_cons]
    cases k with
    | zero =>
      simp at hk
      subst hk
      rw [List.getElem?_append_left (by omega)]
      congr 1; omega
    | succ k =>
      rw [List.getElem?_append_right (by omega), hy, show (k + 1) * 57 + j - 57 = k * 57 + j from by omega]
      exact ih (fun z hz => h z (by simp [hz])) (by simpa using hk)

def OwnR (base : Nat) (w : World) (e : TypeId) (v : Value) (ps : List (Rw × Value)) : Prop :=
  w.ownsRow base e 57 v ps.length (flatP ps) ∧ ∀ p ∈ ps, p.1.ok ∧ RowR (fun b => base ≤ b ∧ some b ≠ v.ownBlock) w p.1 p.2
theorem OwnR.nil (base : Nat) (w : World) (e : TypeId) : OwnR base w e (.slice none 0 0) [] := ⟨World.ownsRow_nil _ _ _ _, by simp⟩
theorem OwnR.keep {base : Nat} {w w' : World} {e : TypeId} {v : Value} {ps : List (Rw × Value)} (h : OwnR base w e v ps) (hs : w.heap.size ≤ w'.heap.size) (hk : ∀ b, base ≤ b → b < w.heap.size → w'.heap[b]? = w.heap[b]?) : OwnR base w' e v ps :=
  ⟨own_block h.1 (fun k hv => hk k (h.1.lt k hv).1 (h.1.lt k hv).2), fun p hp => ⟨(h.2 p hp).1, (h.2 p hp).2.keep hs (fun b hb hlt => hk b hb.1 hlt)⟩⟩
theorem OwnR.push {base : Nat} {wm w1 : World} {e : TypeId} {v : Value} {ps : List (Rw × Value)} (h : OwnR base wm e v ps) {r : Rw} {tv : Value} (hr : r.ok) (ht : RowR (fun b => base ≤ b ∧ some b ≠ v.ownBlock) wm r tv) {g cap n : Nat} (hn : ps.length = n)
    (ho : w1.ownsRow base e 57 (.slice (some ⟨g, 0, none⟩) (n + 1) cap) (n + 1) (flatP ps ++ r.vals tv)) (hg : wm.grownBy w1 v.ownBlock) (hl : v.ownBlock = some g ∨ g = wm.heap.size) :
    OwnR base w1 e (.slice (some ⟨g, 0, none⟩) (n + 1) cap) (ps ++ [(r, tv)]) := by
  subst hn
  have key : ∀ {r' : Rw} {tv' : Value}, RowR (fun b => base ≤ b ∧ some b ≠ v.ownBlock) wm r' tv' → RowR (fun b => base ≤ b ∧ some b ≠ (Value.slice (some ⟨g, 0, none⟩) (ps.length + 1) cap).ownBlock) w1 r' tv' := fun {r' tv'} h' => by
    have h2 : RowR (fun b => base ≤ b ∧ some b ≠ v.ownBlock ∧ b < wm.heap.size) wm r' tv' := h'.mono (fun b hb hS => ⟨hS.1, hS.2, hb⟩)
    refine (h2.keep hg.size (fun b hb _ => hg.block b hb.2.2 hb.2.1)).mono (fun b _ hb => ⟨hb.1, ?_⟩)
    simp only [Value.ownBlock, ne_eq, Option.some.injEq]
    rintro rfl
    rcases hl with hl | hl
    · exact hb.2.1 hl.symm
    · omega
  refine ⟨?_, fun p hp => ?_⟩
  · simpa [flatP] using ho
  · rcases List.mem_append.1 hp with hp | hp
    · exact ⟨(h.2 p hp).1, key (h.2 p hp).2⟩
    · simp at hp
      subst hp
      exact ⟨hr, key ht⟩
theorem OwnR.rd {base : Nat} {w : World} {e : TypeId} {v : Value} {ps : List (Rw × Value)} (h : OwnR base w e v ps) : ∃ a cap, v = .slice a ps.length cap ∧ RdRs (base ≤ ·) w a ps.length (ps.map Prod.fst) ∧ ps.length ≤ cap ∧ cap ≤ maxLen := by
  obtain ⟨h1, h2⟩ := h
  have hok : ∀ p ∈ ps, p.1.ok := fun p hp => (h2 p hp).1
  rcases h1.2 with ⟨rfl, h0⟩ | ⟨g, cap, cur, rfl, hb, hg, hnc, hcm, hcs, htake⟩
  · have : ps = [] := List.eq_nil_of_length_eq_zero h0
    subst this
    exact ⟨none, 0, rfl, ⟨rfl, by simp, by simp⟩, Nat.le_refl _, by simp⟩
  · refine ⟨_, cap, rfl, ⟨by simp, ?_, fun k r hk => ?_⟩, hnc, hcm⟩
    · intro r hr
      obtain ⟨p, hp, rfl⟩ := List.mem_map.1 hr
      exact hok p hp
    · rw [List.getElem?_map, Option.map_eq_some_iff] at hk
      obtain ⟨p, hk, rfl⟩ := hk
      have hkl : k < ps.length := (List.getElem?_eq_some_iff.1 hk).1
      obtain ⟨hpo, x, m, c2, hpv, h5, h6, h7⟩ := h2 p (List.mem_of_getElem? hk)
      have hlen := Rw.len hpo p.2
      have hglt : g < w.heap.size := by
        rcases Nat.lt_or_ge g w.heap.size with h' | h'
        · exact h'
        · rw [Array.getElem?_eq_none h'] at hg; cases hg
      have hrow := row_of_cells (w := w) (p := ⟨g, 0 + k * 57, none⟩) (l := p.1.vals p.2) (fun j u hu => by
        have hj : j < 57 := by rw [← hlen]; exact (List.getElem?_eq_some_iff.1 hu).1
        have hin : k * 57 + j < ps.length * 57 := by
          have : (k + 1) * 57 ≤ ps.length * 57 := Nat.mul_le_mul_right _ (by omega)
          omega
        rw [add_at, cell_of_row w g _ cur e (0, 0) hg, show 0 + k * 57 + j = k * 57 + j from by omega]
        have e1 : cur[k * 57 + j]? = (cur.toList.take (ps.length * 57))[k * 57 + j]? := by rw [List.getElem?_take, if_pos hin]; simp
        rw [e1, htake, flatP_at hok hk hj, hu])
      rw [hlen] at hrow
      rw [hpv] at hrow
      exact ⟨g, 0, x, m, c2, rfl, hb, hglt, hrow.1, hrow.2, h5.mono (fun b _ h => h.1), h6, h7⟩
theorem app_row : AppOk Tryz.prog 59 134 57 := appOk_of Tryz.underlying59 (by kernel_rfl)
section
variable (ρ : Operand → Value) (d : Option Tmp) (x y u : Operand) (ty : TypeId) (s : String) (af : Array Edge) (g : Option (Nat × Bool)) (w : World)
@[go_sem ↓] theorem bs_row1 (h : lenC (ρ x) 57 = true) : (execOp ρ { dst := d, op := .buildSlice 59 1 #[(0, x)], type := ty, pos := s, after := af, guard := g }).run Tryz.prog w = .ok (.value (.slice (some ⟨w.heap.size, 0, none⟩) 1 1)) (w.alloc (.cells (cellsL (ρ x)).toArray 134)) := by
  have := exec_bslice (n := 57) Tryz.underlying59 (by kernel_rfl) ρ d 1 [x] #[(0, x)] ty s af g w (by simp [iparts]) rfl (by omega) (by omega) (by simp [h])
  simpa using this
@[go_sem ↓] theorem bs_rrow1 (h : lenC (ρ x) 57 = true) : (execOp ρ { dst := d, op := .buildSlice 339 1 #[(0, x)], type := ty, pos := s, after := af, guard := g }).run Tryz.prog w = .ok (.value (.slice (some ⟨w.heap.size, 0, none⟩) 1 1)) (w.alloc (.cells (cellsL (ρ x)).toArray 628)) := by
  have := exec_bslice (n := 57) Tryz.underlying339 (by kernel_rfl) ρ d 1 [x] #[(0, x)] ty s af g w (by simp [iparts]) rfl (by omega) (by omega) (by simp [h])
  simpa using this
end
end Go.Proofs.YtdilbjikeilhbaaGreatDoor
namespace Go.Proofs.YtdilbjikeilhbaaGreatDoor
open Go.RowKit
set_option linter.unusedVariables false
set_option linter.unusedSimpArgs false

def fillO (N k : Nat) (l : List Rw) : List Rw := (l.take k).map (Rw.plain N) ++ List.replicate (k - l.length) rw0
theorem fillO_snoc (N k : Nat) (l : List Rw) : fillO N (k + 1) l = fillO N k l ++ [match l[k]? with | some r => r.plain N | none => rw0] := by
  unfold fillO
  by_cases h : k < l.length
  · have e1 : k + 1 - l.length = 0 := by omega
    have e2 : k - l.length = 0 := by omega
    rw [e1, e2, List.take_add_one, List.getElem?_eq_getElem h]
    simp only [Option.toList_some, List.map_append, List.map_cons, List.map_nil, List.replicate_zero, List.append_nil]
  · have e1 : k + 1 - l.length = (k - l.length) + 1 := by omega
    rw [e1, List.take_of_length_le (by omega), List.take_of_length_le (by omega), List.getElem?_eq_none (by omega), List.replicate_succ']
    simp

structure NR (w : World) (sv : Value) (N : Nat) (l : List Rw) (k : Nat) (v : Value) (wr : World) : Prop where
  b0 : Blk wr w.heap.size 630 #[sv]
  b1 : Blk wr (w.heap.size + 1) 630 #[.slice none 0 0]
  b2 : Blk wr (w.heap.size + 1 + 1) 630 #[v]
  own : ∃ ps : List (Rw × Value), ps.length = k ∧ ps.map Prod.fst = fillO N k l ∧ OwnR (w.heap.size + 1 + 1 + 1) wr 628 v ps
  sz : w.heap.size + 1 + 1 + 1 ≤ wr.heap.size
  bel : Below w.heap.size w wr
theorem NR.start (w : World) (sv : Value) (N : Nat) (l : List Rw) : NR w sv N l 0 (.slice none 0 0) (((w.alloc (.cells #[sv] 630)).alloc (.cells #[.slice none 0 0] 630)).alloc (.cells #[.slice none 0 0] 630)) :=
  ⟨((Blk.new _ _ _).alloc _).alloc _, (new1 w _ [Value.slice none 0 0] _).alloc _, new2 w _ _ [Value.slice none 0 0] _, ⟨[], rfl, by simp [fillO], OwnR.nil _ _ _⟩, by simp, (((Below.refl _ _).alloc (Nat.le_refl _) _).alloc (by simp) _).alloc (by simp; omega) _⟩
theorem NR.end_ {w : World} {sv : Value} {N k : Nat} {l L : List Rw} {v : Value} {wr : World} (h : NR w sv N l k v wr) (hL : fillO N k l = L) :
    WordPost L w (.returned (.agg #[v])) (wr.setCell ⟨w.heap.size + 1, 0, none⟩ v) ∧ (wr.setCell ⟨w.heap.size + 1, 0, none⟩ v).cell? ⟨w.heap.size + 1, 0, none⟩ = some v := by
  obtain ⟨ps, h1, h2, h3⟩ := h.own
  have h3' : OwnR (w.heap.size + 1 + 1 + 1) (wr.setCell ⟨w.heap.size + 1, 0, none⟩ v) 628 v ps := h3.keep (by simp) (fun b hb _ => Below.heap_setCell _ _ _ _ (by simp; omega))
  refine ⟨?_, (h.b1.set_ 0 v).cell 0⟩
  obtain ⟨a, cap, rfl, h4, h5, h6⟩ := h3'.rd
  have hlen : L.length = ps.length := by rw [← hL, ← h2]; simp
  rw [h2, hL] at h4
  refine ⟨a, cap, by rw [hlen], ?_, by rw [hlen]; exact h5, h6, h.bel.setCell (by simp) _⟩
  rw [hlen]
  exact h4.mono (fun b _ h => by omega)

theorem NR.step {w : World} {sv : Value} {N k : Nat} {l : List Rw} {v : Value} {wr wm w1 : World} (h : NR w sv N l k v wr) {ps : List (Rw × Value)} (p1 : ps.length = k) (p2 : ps.map Prod.fst = fillO N k l) (p3 : OwnR (w.heap.size + 1 + 1 + 1) wr 628 v ps) (hm : Below wr.heap.size wr wm) {y : Rw} {tv : Value} (hyk : y.ok) (hy : y = match l[k]? with | some r => r.plain N | none => rw0)
    (ht : RowR (wr.heap.size ≤ ·) wm y tv) {g cap : Nat}
    (ho : w1.ownsRow (w.heap.size + 1 + 1 + 1) 628 57 (.slice (some ⟨g, 0, none⟩) (k + 1) cap) (k + 1) (flatP ps ++ y.vals tv)) (hg : wm.grownBy w1 v.ownBlock) (hlie : v.ownBlock = some g ∨ g = wm.heap.size) :
    NR w sv N l (k + 1) (.slice (some ⟨g, 0, none⟩) (k + 1) cap) (w1.setCell ⟨w.heap.size + 1 + 1, 0, none⟩ (.slice (some ⟨g, 0, none⟩) (k + 1) cap)) := by
  have hs := h.sz
  have hl := fun b hb => (p3.1.lt b hb).2
  have hne : ∀ b, b < w.heap.size + 1 + 1 + 1 → some b ≠ v.ownBlock := fun b hb => own_ne p3.1 hb
  have hmk : ∀ (b : Nat) (t : TypeId) (cs : Array Value), b < w.heap.size + 1 + 1 + 1 → Blk wr b t cs → Blk w1 b t cs := fun b t cs hb hk => by
    have h1 := hk.below hm hk.lt
    exact (hg.block b h1.lt (hne b hb)).trans h1
  have hms := hm.size
  have hgs := hg.size
  have hB1 : Below w.heap.size w w1 := (h.bel.trans (hm.mono (by omega))).grown hg (by omega) (fun q hq => by have := (p3.1.lt q hq).1; omega)
  have p3m : OwnR (w.heap.size + 1 + 1 + 1) wm 628 v ps := p3.keep hms (fun b _ hb => hm.block b hb)
  have hpush := p3m.push hyk (ht.mono (fun b hb hS => ⟨by omega, fun e => by have := hl b e.symm; omega⟩)) p1 ho hg hlie
  refine ⟨(hmk _ _ _ (by omega) h.b0).far (by first | (simp; done) | (simp; omega)) _, (hmk _ _ _ (by omega) h.b1).far (by first | (simp; done) | (simp; omega)) _, (hmk _ _ _ (by omega) h.b2).set_ 0 _, ⟨ps ++ [(y, tv)], by simp [p1], ?_, ?_⟩, by simp; omega, hB1.setCell (by simp; omega) _⟩
  · rw [List.map_append, p2, fillO_snoc, ← hy]; rfl
  · exact hpush.keep (by simp) (fun b hb _ => Below.heap_setCell _ _ _ _ (by simp; omega))

end Go.Proofs.YtdilbjikeilhbaaGreatDoor
namespace Go.Proofs.YtdilbjikeilhbaaGreatDoor
open Go.RowKit
set_option linter.unusedVariables false
set_option linter.unusedSimpArgs false

theorem RdHs.row_ {S : Nat → Prop} {w : World} {a : Option Addr} {len : Nat} {l : List Hd} (h : RdHs S w a len l) (k : Nat) (hk : k < len) :
    ∃ b off X, a = some ⟨b, off, none⟩ ∧ S b ∧ b < w.heap.size ∧ (∃ x, l[k]? = some x ∧ X = x.vals) ∧ hasRow w ⟨b, off + k * 56, none⟩ 56 = true ∧ rowOf w ⟨b, off + k * 56, none⟩ 56 = X ∧ okL heldK X = true := by
  obtain ⟨h1, h2, h3⟩ := h
  have hv : l[k]? = some (l[k]'(by omega)) := List.getElem?_eq_getElem _
  obtain ⟨b, off, e, hS, hb, hr1, hr2⟩ := h3 k _ hv
  exact ⟨b, off, _, e, hS, hb, ⟨_, hv, rfl⟩, hr1, hr2, Hd.vals_ok (h2 _ (List.mem_of_getElem? hv))⟩

theorem take_eq_succ {α : Type} {l l' : List α} {k : Nat} {x : α} (h : l.take k = l'.take k) (h1 : l[k]? = some x) (h2 : l'[k]? = some x) : l.take (k + 1) = l'.take (k + 1) := by
  rw [List.take_add_one, List.take_add_one, h, h1, h2]

open Classical in
set_option maxRecDepth 100000 in
set_option maxHeartbeats 1000000 in
theorem equal_any (S S' : Nat → Prop) (a a' : Option Addr) (len len' cap cap' : Nat) (l l' : List Hd) (w : World) (hr : RdHs S w a len l) (hr' : RdHs S' w a' len' l') (hm : len ≤ maxLen) (hm' : len' ≤ maxLen) :
    Calls Tryz.prog 276 #[.slice a len cap, .slice a' len' cap'] w fun e w' => e = .returned (.bool (decide (l = l'))) ∧ Below w.heap.size w w' := by
  unfold maxLen at hm hm'
  obtain ⟨q, hq⟩ : ∃ q, q = decide (l = l') := ⟨_, rfl⟩
  rw [← hq]
  have HQ := Lib.hid hq
  have HR := Lib.hid (And.intro hr hr')
  have hll : l.length = len := hr.1
  have hll' : l'.length = len' := hr'.1
  clear hq hr hr'
  by_cases hne : len = len'
  · subst hne
    go_enter Tryz.func276, Tryz.ntmps276
    go_wp2_with fail
    go_loopw [13] (fun i wr => ∃ k : Nat, k ≤ len ∧ i = .int .i64 k ∧ l.take k = l'.take k ∧ Below w.heap.size w wr) (fun i _ => len - (intOf i).toNat)
    case atStart => exact ⟨0, by omega, rfl, rfl, Below.refl _ _⟩
    case round =>
      obtain ⟨k, hk, rfl, ht, hB⟩ := hrel
      by_cases hlt : k < len
      · obtain ⟨b, off, X, rfl, -, hbw, hX, x1, x2, x3⟩ := HR.out.1.row_ k hlt
        obtain ⟨b', off', Y, rfl, -, hbw', hY, y1, y2, y3⟩ := HR.out.2.row_ k hlt
        have d := row_below hB (p := ⟨b, off + k * 56, none⟩) hbw 56
        have d' := row_below hB (p := ⟨b', off' + k * 56, none⟩) hbw' 56
        have d1 := d.1.trans x1
        have d2 := d.2.trans x2
        have e1 := d'.1.trans y1
        have e2 := d'.2.trans y2
        clear x1 x2 y1 y2 d d'
        by_cases hXY : X = Y
        · subst hXY
          obtain ⟨x, hx1, hx2⟩ := hX
          obtain ⟨y, hy1, hy2⟩ := hY
          have hxy : x = y := Hd.vals_inj.1 (hx2.symm.trans hy2)
          subst hxy
          have H := Lib.hid (And.intro (take_eq_succ ht hx1 hy1) hB.drew)
          clear hx1 hx2 hy1 hy2 ht hB
          go_wp2
          go_region_held3 (fun w' => hasRow w' ⟨b, off + k * 56, none⟩ 56 = true ∧ rowOf w' ⟨b, off + k * 56, none⟩ 56 = X ∧ hasRow w' ⟨b', off' + k * 56, none⟩ 56 = true ∧ rowOf w' ⟨b', off' + k * 56, none⟩ 56 = X) (first | (simp [*, hasRow_drew, rowOf_drew]; done)) (fail)
          go_wp2
          exact ⟨⟨k + 1, by omega, by go_num, H.out.1, H.out.2⟩, by simp [intOf]; omega⟩
        · have hqf : q = false := by
            rw [HQ.out, decide_eq_false_iff_not]
            rintro rfl
            obtain ⟨x, hx1, rfl⟩ := hX
            obtain ⟨y, hy1, rfl⟩ := hY
            rw [hx1] at hy1
            cases hy1
            exact hXY rfl
          have HN := Lib.hid hqf
          have H := Lib.hid (And.intro hX (And.intro hY (And.intro ht hB)))
          clear hqf hX hY ht hB
          go_wp2
          go_region_held3 (fun w' => hasRow w' ⟨b, off + k * 56, none⟩ 56 = true ∧ rowOf w' ⟨b, off + k * 56, none⟩ 56 = X ∧ hasRow w' ⟨b', off' + k * 56, none⟩ 56 = true ∧ rowOf w' ⟨b', off' + k * 56, none⟩ 56 = Y) (first | (simp [*, hasRow_drew, rowOf_drew]; done)) (fail)
          go_wp2
          go_ret
          exact ⟨by rw [HN.out]; rfl, H.out.2.2.2.drew⟩
      · have hkl : k = len := by omega
        subst hkl
        rw [List.take_of_length_le (by omega), List.take_of_length_le (by omega)] at ht
        have hqt : q = true := by rw [HQ.out, ht]; simp
        have H := Lib.hid (And.intro hqt hB)
        clear hqt hB ht
        go_wp2
        go_ret
        exact ⟨by rw [H.out.1]; rfl, H.out.2⟩
  · have hqf : q = false := by
      rw [HQ.out, decide_eq_false_iff_not]
      rintro rfl
      omega
    have HN := Lib.hid hqf
    have hne' : ((len : Int) == (len' : Int)) = false := by simp; omega
    have hne2 : ((len : Int) != (len' : Int)) = true := by simp; omega
    clear hqf
    go_enter Tryz.func276, Tryz.ntmps276
    go_wp2_with fail
    go_ret
    exact ⟨by rw [HN.out]; rfl, Below.refl _ _⟩
end Go.Proofs.YtdilbjikeilhbaaGreatDoor
