/-
  What one change does to a row that is a copy: another row.
-/
import Derived.Test.YtphbmnjkhgfnoaaWrdM
import Derived.ArgAppend
namespace Go.Proofs.Ytphbmnjkhgfnoaa
open Go.RowKit
set_option linter.unusedVariables false
set_option linter.unusedSimpArgs false

theorem okL_set : ∀ {ks : List Kd} {l : List Value} {i : Nat} {k : IntKind} {v v' : Int}, okL ks l = true → l[i]? = some (.int k v) → (Lit.int k v').wf = true → okL ks (l.set i (.int k v')) = true
  | [], [], i, k, v, v', h, hi, hw => by simp at hi
  | kd :: ks, x :: l, 0, k, v, v', h, hi, hw => by
    simp at hi
    subst hi
    rw [okL, Bool.and_eq_true] at h
    rw [List.set_cons_zero, okL, Bool.and_eq_true]
    refine ⟨?_, h.2⟩
    cases kd with
    | b => simp [okK] at h
    | i k' =>
      have := h.1
      simp [okK] at this
      obtain ⟨rfl, -⟩ := this
      simp [okK, hw]
  | kd :: ks, x :: l, i + 1, k, v, v', h, hi, hw => by
    rw [okL, Bool.and_eq_true] at h
    rw [List.set_cons_succ, okL, Bool.and_eq_true]
    exact ⟨h.1, okL_set h.2 (by simpa using hi) hw⟩
  | [], _ :: _, _, _, _, _, h, _, _ => by simp [okL] at h
  | _ :: _, [], _, _, _, _, h, _, _ => by simp [okL] at h
theorem set_ne {l : List Value} {i : Nat} {k : IntKind} {v v' : Int} (hi : l[i]? = some (.int k v)) (hne : v' ≠ v) : l ≠ l.set i (.int k v') := fun e => by
  have hlt := (List.getElem?_eq_some_iff.1 hi).1
  rw [e, List.getElem?_set_self hlt] at hi
  simp at hi
  exact hne hi

theorem okL_at : ∀ {ks : List Kd} {l : List Value} {i : Nat} {k : IntKind}, okL ks l = true → ks[i]? = some (.i k) → ∃ v, l[i]? = some (.int k v) ∧ (Lit.int k v).wf = true
  | [], [], i, k, h, hi => by simp at hi
  | kd :: ks, x :: l, 0, k, h, hi => by
    simp at hi
    subst hi
    rw [okL, Bool.and_eq_true] at h
    have h0 := h.1
    cases x <;> simp [okK] at h0
    obtain ⟨rfl, hw⟩ := h0
    exact ⟨_, rfl, hw⟩
  | kd :: ks, x :: l, i + 1, k, h, hi => by
    rw [okL, Bool.and_eq_true] at h
    have hi' : ks[i]? = some (.i k) := by simpa using hi
    obtain ⟨v, h1, h2⟩ := okL_at h.2 hi'
    exact ⟨v, by simpa using h1, h2⟩
  | [], _ :: _, _, _, h, _ => by simp [okL] at h
  | _ :: _, [], _, _, h, _ => by simp [okL] at h
theorem missK : ∀ Q, Q < 8 → cellK[21 + Q]? = some (.i .u8)
  | 0, _ => rfl | 1, _ => rfl | 2, _ => rfl | 3, _ => rfl | 4, _ => rfl | 5, _ => rfl | 6, _ => rfl | 7, _ => rfl
  | n + 8, h => by omega
theorem scoreK : ∀ Q, Q < 8 → cellK[37 + Q]? = some (.i .u16)
  | 0, _ => rfl | 1, _ => rfl | 2, _ => rfl | 3, _ => rfl | 4, _ => rfl | 5, _ => rfl | 6, _ => rfl | 7, _ => rfl
  | n + 8, h => by omega
theorem w64_ok (n : Int) : (Lit.int .i64 (wrap64 n)).wf = true := by
  simp [Lit.wf, IntKind.min, IntKind.max, IntKind.signed, IntKind.bits, wrap64]; omega
theorem w64_ne (v : Int) : wrap64 (v + 1) ≠ v := by unfold wrap64; omega
theorem wu32_ok (n : Int) : (Lit.int .u32 (n % 4294967296)).wf = true := by
  simp [Lit.wf, IntKind.min, IntKind.max, IntKind.signed, IntKind.bits]; omega
theorem u16w (n : Int) : IntKind.u16.wrap n = n % 65536 := by
  first | rfl | (simp [IntKind.wrap, IntKind.signed, IntKind.bits]; done)
theorem wu8_ok (n : Int) : (Lit.int .u8 (n % 256)).wf = true := by
  simp [Lit.wf, IntKind.min, IntKind.max, IntKind.signed, IntKind.bits]; omega
theorem wu16_ok (n : Int) : (Lit.int .u16 (n % 65536)).wf = true := by
  simp [Lit.wf, IntKind.min, IntKind.max, IntKind.signed, IntKind.bits]; omega
/-- what a way through the switch leaves: another row stands in the copy -/
structure WC (w : World) (r : Rw) (tv : Value) (g7 : Nat) (wx : World) : Prop where
  b3 : Blk wx w.heap.size 62 (r.vals tv).toArray
  ra : RowR (· < w.heap.size) wx r tv
  bel : Below w.heap.size w wx
  ex : ∃ (r2 : Rw) (tv2 : Value), r2.ok ∧ r ≠ r2 ∧ Blk wx g7 62 (r2.vals tv2).toArray ∧ RowR (fun _ => True) wx r2 tv2
theorem WC.drew {w : World} {r : Rw} {tv : Value} {g7 : Nat} {wx : World} (h : WC w r tv g7 wx) : WC w r tv g7 wx.drew :=
  ⟨h.b3.drew, h.ra.keep (Nat.le_refl _) (fun _ _ _ => rfl), h.bel.drew, by
    obtain ⟨r2, tv2, h1, h2, h3, h4⟩ := h.ex
    exact ⟨r2, tv2, h1, h2, h3.drew, h4.keep (Nat.le_refl _) (fun _ _ _ => rfl)⟩⟩
theorem WC.cast {w : World} {r : Rw} {tv : Value} {g7 : Nat} {wx : World} {b o o' : Nat} {n n' : Int} (h : WC w r tv g7 (wx.setCell ⟨b, o, none⟩ (.int .u16 n)).drew) (ho : o = o') (hn : n = n') : WC w r tv g7 (wx.setCell ⟨b, o', none⟩ (.int .u16 n')).drew := by
  subst ho; subst hn; exact h
/-- ahead of the switch: the copy -/
structure W0 (w : World) (r : Rw) (tv : Value) (g0 g7 : Nat) (tc : Value) (wx : World) : Prop where
  b3 : Blk wx w.heap.size 62 (r.vals tv).toArray
  ra : RowR (· < w.heap.size) wx r tv
  bel : Below w.heap.size w wx
  b7 : Blk wx g7 62 (r.vals tc).toArray
  rc : RowX (fun b => g0 ≤ b ∧ b < g7) wx r tc
  lt : w.heap.size < g0 ∧ g0 ≤ g7
theorem W0.cell {w : World} {r : Rw} {tv : Value} {g0 g7 : Nat} {tc : Value} {wx : World} (h : W0 w r tv g0 g7 tc wx) (hr : r.ok) {i : Nat} {k : IntKind} {v v' : Int} (hi : r.c[i]? = some (.int k v)) (hw : (Lit.int k v').wf = true) (hne : v' ≠ v) :
    WC w r tv g7 (wx.setCell ⟨g7, 1 + i, none⟩ (.int k v')) := by
  obtain ⟨l1, l2⟩ := h.lt
  have hil := (List.getElem?_eq_some_iff.1 hi).1
  refine ⟨h.b3.far (by simp; omega) _, h.ra.keep (by simp) (fun b hb _ => Below.heap_setCell _ _ _ _ (by simp; omega)), h.bel.setCell (by simp; omega) _, ⟨r.is, r.c.set i (.int k v'), r.t⟩, tc, ⟨okL_set hr.1 hi hw, hr.2⟩, ?_, ?_, ?_⟩
  · intro e
    have := congrArg Rw.c e
    exact set_ne hi hne this
  · have := h.b7.set_ (1 + i) (.int k v')
    have e : (r.vals tc).toArray.setIfInBounds (1 + i) (.int k v') = (Rw.vals ⟨r.is, r.c.set i (.int k v'), r.t⟩ tc).toArray := by
      simp only [List.setIfInBounds_toArray]
      congr 1
      rw [show 1 + i = i + 1 from by omega]
      simp [Rw.vals, List.set_append, hil]
    rwa [e] at this
  · have := h.rc.1.keep (w' := wx.setCell ⟨g7, 1 + i, none⟩ (.int k v')) (by simp) (fun b hb _ => Below.heap_setCell _ _ _ _ (by simp; omega))
    exact RowR.mono (S' := fun _ => True) this (fun _ _ _ => trivial)
theorem W0.is_ {w : World} {r : Rw} {tv : Value} {g0 g7 : Nat} {tc : Value} {wx : World} (h : W0 w r tv g0 g7 tc wx) (hr : r.ok) :
    WC w r tv g7 (wx.setCell ⟨g7, 0, none⟩ (.bool !r.is)) := by
  obtain ⟨l1, l2⟩ := h.lt
  refine ⟨h.b3.far (by simp; omega) _, h.ra.keep (by simp) (fun b hb _ => Below.heap_setCell _ _ _ _ (by simp; omega)), h.bel.setCell (by simp; omega) _, ⟨!r.is, r.c, r.t⟩, tc, hr, ?_, ?_, ?_⟩
  · intro e
    have := congrArg Rw.is e
    simp at this
  · have := h.b7.set_ 0 (.bool !r.is)
    simpa [Rw.vals] using this
  · have := h.rc.1.keep (w' := wx.setCell ⟨g7, 0, none⟩ (.bool !r.is)) (by simp) (fun b hb _ => Below.heap_setCell _ _ _ _ (by simp; omega))
    exact RowR.mono (S' := fun _ => True) this (fun _ _ _ => trivial)
theorem W0.app {w : World} {r : Rw} {tv : Value} {g0 g7 : Nat} {tc : Value} {wx : World} (h : W0 w r tv g0 g7 tc wx) (hr : r.ok) {wm w1 : World} (hb : Below wx.heap.size wx wm) (hg : wm.grownBy w1 none) {v : Value} {n base : Nat} (hn : n = r.t.length + 1) (ho : w1.ownsRow base 60 56 v n (flatH r.t ++ heldZ)) (hbase : g7 < base) :
    WC w r tv g7 (w1.setCell ⟨g7, 56, none⟩ v) := by
  obtain ⟨l1, l2⟩ := h.lt
  have hk : ∀ b, b < wx.heap.size → w1.heap[b]? = wx.heap[b]? := fun b hlt => (hg.block b (Nat.lt_of_lt_of_le hlt hb.size) (by simp)).trans (hb.block b hlt)
  have hk7 := h.b7.lt
  have hcl : r.c.length = 55 := (okL_len hr.1).trans len_cellK
  have hB : Below w.heap.size w w1 := ⟨hg.os.trans (hb.os.trans h.bel.os), hg.tape.trans (hb.tape.trans h.bel.tape), hg.output.trans (hb.output.trans h.bel.output), Nat.le_trans h.bel.size (Nat.le_trans hb.size hg.size), fun b hlt => (hk b (by have := h.bel.size; omega)).trans (h.bel.block b hlt)⟩
  have hok2 : ∀ y ∈ r.t ++ [hd0], y.ok := fun y hy => by
    rcases List.mem_append.1 hy with hy | hy
    · exact hr.2 y hy
    · have : y = hd0 := by simpa using hy
      rw [this]; exact hd0_ok
  have ho2 : w1.ownsRow base 60 56 v n ((r.t ++ [hd0]).flatMap Hd.vals) := by simpa [flatH, hd0_vals] using ho
  obtain ⟨a, cap, rfl, h1, h2, h3⟩ := RdHs.of_own ho2 hok2
  have b3 : Blk w1 w.heap.size 62 (r.vals tv).toArray := (hk _ h.b3.lt).trans h.b3
  have b7 : Blk w1 g7 62 (r.vals tc).toArray := (hk _ h.b7.lt).trans h.b7
  refine ⟨b3.far (by simp; omega) _, ?_, hB.setCell (by simp; omega) _, ⟨r.is, r.c, r.t ++ [hd0]⟩, .slice a n cap, ⟨hr.1, hok2⟩, ?_, ?_, ?_⟩
  · refine h.ra.keep (by simp; exact Nat.le_trans hb.size hg.size) (fun b hb' hlt => (Below.heap_setCell _ _ _ _ (by simp; omega)).trans (hk b hlt))
  · intro e
    have := congrArg (fun q => q.t.length) e
    simp at this
  · have := b7.set_ 56 (.slice a n cap)
    have e : (r.vals tc).toArray.setIfInBounds 56 (.slice a n cap) = (Rw.vals ⟨r.is, r.c, r.t ++ [hd0]⟩ (.slice a n cap)).toArray := by
      simp [Rw.vals, List.set_append, hcl]
    rwa [e] at this
  · refine RowR.mono (S := (base ≤ ·)) ⟨a, n, cap, rfl, h1.keep (by simp) (fun b hb' hlt => Below.heap_setCell _ _ _ _ (by simp; omega)), h2, h3⟩ (fun _ _ _ => trivial)
/-- one value of a table's cell is another one -/
theorem W0.tab {w : World} {r : Rw} {tv : Value} {g0 g7 : Nat} {wx : World} {b off m cap : Nat} (h : W0 w r tv g0 g7 (.slice (some ⟨b, off, none⟩) m cap) wx) (hr : r.ok) {i j : Nat} {y : Hd} (hy : r.t[i]? = some y) {k : IntKind} {v v' : Int} (hi : y.c[j]? = some (.int k v)) (hw : (Lit.int k v').wf = true) (hne : v' ≠ v) :
    WC w r tv g7 (wx.setCell ⟨b, off + i * 56 + (1 + j), none⟩ (.int k v')) := by
  obtain ⟨l1, l2⟩ := h.lt
  obtain ⟨x', m', cap', he, t1, t2, t3⟩ := h.rc.1
  cases he
  have hil := (List.getElem?_eq_some_iff.1 hy).1
  have hlm : r.t.length = m := t1.1
  obtain ⟨b', off', cur, he, hS, hcur, hle⟩ := h.rc.2 _ _ _ rfl i (by omega)
  cases he
  have hyo := hr.2 y (List.mem_of_getElem? hy)
  have hjl : j < 55 := by have := (List.getElem?_eq_some_iff.1 hi).1; rw [Hd.ok_len hyo] at this; exact this
  have hc0 : (wx.cell? ⟨b, off + i * 56 + (1 + j), none⟩).isSome = true := by
    rw [cell_of_row wx b _ cur _ (0, 0) hcur, Array.getElem?_eq_getElem (by omega)]; rfl
  have hfar : ∀ q : Addr, (⟨b, off + i * 56 + (1 + j), none⟩ : Addr) ≠ q → (wx.setCell ⟨b, off + i * 56 + (1 + j), none⟩ (.int k v')).cell? q = wx.cell? q := fun q hne => World.cell?_setCell_other (h := hne) ..
  refine ⟨h.b3.far (by simp; omega) _, h.ra.keep (by simp) (fun q hb _ => Below.heap_setCell _ _ _ _ (by simp; omega)), h.bel.setCell (by simp; omega) _, ⟨r.is, r.c, r.t.set i ⟨y.is, y.c.set j (.int k v')⟩⟩, .slice (some ⟨b, off, none⟩) m cap, ⟨hr.1, ok_set hr.2 i (x := ⟨y.is, y.c.set j (.int k v')⟩) (okL_set hyo hi hw)⟩, ?_, ?_, ?_⟩
  · intro e
    have e2 := congrArg (fun q => q.t[i]?) e
    simp only [List.getElem?_set_self hil, hy] at e2
    injection e2 with e2
    exact set_ne hi hne (congrArg Hd.c e2)
  · have := h.b7.far (p := ⟨b, off + i * 56 + (1 + j), none⟩) (by simp; omega) (.int k v')
    simpa [Rw.vals] using this
  · refine RowR.mono (S := fun q => g0 ≤ q ∧ q < g7) ⟨_, m, cap, rfl, ⟨by simp [hlm], ok_set hr.2 i (x := ⟨y.is, y.c.set j (.int k v')⟩) (okL_set hyo hi hw), fun q z hz => ?_⟩, t2, t3⟩ (fun _ _ _ => trivial)
    have hq : q < r.t.length := by have := (List.getElem?_eq_some_iff.1 hz).1; simpa using this
    obtain ⟨b', off', he, hS', hb', h1, h2⟩ := t1.2.2 q _ (List.getElem?_eq_getElem hq)
    cases he
    have hzo : z.ok := ok_set hr.2 i (x := ⟨y.is, y.c.set j (.int k v')⟩) (okL_set hyo hi hw) z (List.mem_of_getElem? hz)
    have hzl := Hd.vals_len hzo
    have hrow := row_of_cells (w := wx.setCell ⟨b, off + i * 56 + (1 + j), none⟩ (.int k v')) (p := ⟨b, off + q * 56, none⟩) (l := z.vals) (fun a u hu => by
      have ha : a < 56 := by rw [← hzl]; exact (List.getElem?_eq_some_iff.1 hu).1
      rw [add_at]
      have hold := row_cell h1 h2 a ha
      by_cases hqi : q = i
      · subst hqi
        rw [List.getElem?_set_self hil] at hz
        cases hz
        have hyq : r.t[q] = y := by rw [List.getElem?_eq_getElem hq] at hy; injection hy
        rw [hyq] at hold
        by_cases haj : a = 1 + j
        · subst haj
          rw [World.cell?_setCell_same' _ _ _ hc0]
          rw [← hu, Hd.vals, show 1 + j = j + 1 from by omega, List.getElem?_cons_succ, List.getElem?_set_self (by rw [Hd.ok_len hyo]; exact hjl)]
        · rw [hfar _ (by first | (simp; done) | (simp; omega)), hold, ← hu]
          cases a with
          | zero => rfl
          | succ a => simp only [Hd.vals, List.getElem?_cons_succ]; rw [List.getElem?_set_ne (by omega)]
      · rw [List.getElem?_set_ne (fun e => hqi e.symm), List.getElem?_eq_getElem hq] at hz
        cases hz
        rw [hfar _ (by
          intro e
          injection e with _ e
          rcases Nat.lt_or_gt_of_ne hqi with h' | h'
          · have : (q + 1) * 56 ≤ i * 56 := Nat.mul_le_mul_right _ h'
            omega
          · have : (i + 1) * 56 ≤ q * 56 := Nat.mul_le_mul_right _ h'
            omega), hold, hu])
    rw [hzl] at hrow
    exact ⟨b, off, rfl, hS', by simpa using hb', hrow.1, hrow.2⟩
/-- append of one nothing onto a table without room -/
theorem wpList_growH {P : Program} {t e : TypeId} (hA : AppOk P t e 56) {w : World} {ops : Array Oper} {rest : List Oper} {o : Oper} {a : Act} {Q : Exit → Act → World → Prop} (hgd : o.guard = none) (s x : Operand)
    (ho : o.op = .call { callee := .builtin .append, args := #[s, x], argTypes := #[t, t] })
    {S : Nat → Prop} (xo : Option Addr) (n : Nat) (l : List Hd) (hs : a.eval s = .slice xo n n) (hrd : RdHs S w xo n l)
    (ad : Addr) (news : List Value) (hx : a.eval x = .slice (some ad) 1 1) (hl : news.length = 56) (hr : hasRow w ad 56 = true) (hre : rowOf w ad 56 = news) (h1 : news.all cell1 = true) (hn : n ≤ 100000)
    (h : ∀ v' w', w'.ownsRow w.heap.size e 56 v' (n + 1) (flatH l ++ news) → w.grownBy w' none → wpList P ops Q rest (a.put o.dst v') w') : wpList P ops Q (o :: rest) a w := by
  obtain ⟨ht, i, z, hi, hz, hsize, hby, hzs, hsz⟩ := hA
  refine wpList_append_grows w hgd s x t ho e i z 56 i.bytes ht hi hz hsize rfl hzs hsz xo n n (flatH l) hs (fun hxo => ?_) (by rw [len_flatH hrd.2.1, hrd.1]) (fun b hb j u hu => ?_) ad 1 1 news hx (by rw [hl]) (fun j u hu => ?_) (fun u hu => cell1_one (List.all_eq_true.1 h1 u hu)) (by omega) (by simp only [maxLen]; omega) ?_ h
  · rcases Nat.eq_zero_or_pos n with h0 | h0
    · exact ⟨h0, h0⟩
    · obtain ⟨b, off, hx', -⟩ := hrd.whole h0
      rw [hxo] at hx'; cases hx'
  · have hlen : (flatH l).length = n * 56 := by rw [len_flatH hrd.2.1, hrd.1]
    have hj : j < n * 56 := by rw [← hlen]; exact (List.getElem?_eq_some_iff.1 hu).1
    obtain ⟨b', off, hx', -, -, k1, k2⟩ := hrd.whole (by omega)
    rw [hb] at hx'
    cases hx'
    rw [rowOf_at k1 j hj, k2, hu]
  · have hj : j < 56 := by rw [← hl]; exact (List.getElem?_eq_some_iff.1 hu).1
    rw [rowOf_at hr j hj, hre, hu]
  · exact Nat.le_trans (Nat.mul_le_mul (show n + 1 ≤ 100001 by omega) hby) (by omega)
end Go.Proofs.Ytphbmnjkhgfnoaa
