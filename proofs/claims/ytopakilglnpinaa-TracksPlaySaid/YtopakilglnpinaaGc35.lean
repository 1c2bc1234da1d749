/-
  The reference's lane of chapter 14: it says.
-/
import Derived.Test.YtopakilglnpinaaGc34
namespace Go.Proofs.Ytopakilglnpinaa
open Go.RowKit
set_option linter.unusedVariables false
set_option linter.unusedSimpArgs false

/-- rows in a slice of the call's own, read -/
theorem own_rd {base : Nat} {S : Nat → Prop} {w : World} {ps : List (Rw × Value)} {v : Value} {n : Nat} (h : w.ownsRow base 74 57 v n (flatP ps)) (hn : ps.length = n) (hp : ∀ p ∈ ps, p.1.ok ∧ RowR S w p.1 p.2) :
    ∃ a cap, v = .slice a n cap ∧ RdRs (fun b => base ≤ b ∨ S b) w a n (ps.map Prod.fst) ∧ n ≤ cap ∧ cap ≤ maxLen := by
  have hok : ∀ p ∈ ps, p.1.ok := fun p hq => (hp p hq).1
  rcases h.2 with ⟨rfl, h0⟩ | ⟨g, cap, cur, rfl, hb, hg, hnc, hcm, hcs, htake⟩
  · subst h0
    have : ps = [] := List.eq_nil_of_length_eq_zero hn
    subst this
    exact ⟨none, 0, rfl, ⟨rfl, by simp, by simp⟩, Nat.le_refl _, by simp⟩
  · refine ⟨_, cap, rfl, ⟨by simp [hn], ?_, fun k r hk => ?_⟩, hnc, hcm⟩
    · intro r hr
      obtain ⟨p, hp, rfl⟩ := List.mem_map.1 hr
      exact hok p hp
    · rw [List.getElem?_map, Option.map_eq_some_iff] at hk
      obtain ⟨p, hk, rfl⟩ := hk
      have hkl : k < ps.length := (List.getElem?_eq_some_iff.1 hk).1
      have hpo := hok p (List.mem_of_getElem? hk)
      have hlen := Rw.len hpo p.2
      have hrow := row_of_cells (w := w) (p := ⟨g, 0 + k * 57, none⟩) (l := p.1.vals p.2) (fun j u hu => by
        have hj : j < 57 := by rw [← hlen]; exact (List.getElem?_eq_some_iff.1 hu).1
        have hin : k * 57 + j < n * 57 := by
          have : (k + 1) * 57 ≤ n * 57 := Nat.mul_le_mul_right _ (by omega)
          omega
        rw [add_at, cell_of_row w g _ cur _ (0, 0) hg, show 0 + k * 57 + j = k * 57 + j from by omega]
        have e1 : cur[k * 57 + j]? = (cur.toList.take (n * 57))[k * 57 + j]? := by rw [List.getElem?_take, if_pos hin]; simp
        rw [e1, htake, flatP_at hok hk hj, hu])
      rw [hlen] at hrow
      obtain ⟨x, m, cp, e, y1, y2, y3⟩ := (hp p (List.mem_of_getElem? hk)).2
      rw [e] at hrow
      exact ⟨g, 0, x, m, cp, rfl, .inl hb, lt_of_some hg, hrow.1, hrow.2, y1.mono fun _ _ h => .inr h, y2, y3⟩

theorem Chg.after {S S' : Nat → Prop} {a b c : World} (h : Chg S a b) (k : Chg S' b c) (hs : ∀ i, i < a.heap.size → S' i → S i) : Chg S a c :=
  ⟨k.os.trans h.os, k.tape.trans h.tape, k.output.trans h.output, Nat.le_trans h.size k.size, fun i hi hn => (k.block i (Nat.lt_of_lt_of_le hi h.size) fun e => hn (hs i hi e)).trans (h.block i hi hn)⟩
/-- the walk's world: two words that grow, in two variables -/
structure RSy (w4 : World) (x3 x4 : Nat) (S : Nat → Prop) (v0 v1 : Value) (ps0 ps1 : List (Rw × Value)) (wr : World) : Prop where
  b3 : Blk wr x3 63 #[v0]
  b4 : Blk wr x4 63 #[v1]
  o0 : wr.ownsRow w4.heap.size 74 57 v0 ps0.length (flatP ps0)
  o1 : wr.ownsRow w4.heap.size 74 57 v1 ps1.length (flatP ps1)
  ne : ∀ g, v0.ownBlock = some g → v1.ownBlock ≠ some g
  r0 : ∀ p ∈ ps0, p.1.ok ∧ RowR S wr p.1 p.2
  r1 : ∀ p ∈ ps1, p.1.ok ∧ RowR S wr p.1 p.2
  c : Chg (fun b => b = x3 ∨ b = x4) w4 wr
  x : x3 < w4.heap.size ∧ x4 < w4.heap.size ∧ x3 ≠ x4
theorem RSy.swap {w4 : World} {x3 x4 : Nat} {S : Nat → Prop} {v0 v1 : Value} {ps0 ps1 : List (Rw × Value)} {wr : World} (h : RSy w4 x3 x4 S v0 v1 ps0 ps1 wr) : RSy w4 x4 x3 S v1 v0 ps1 ps0 wr :=
  ⟨h.b4, h.b3, h.o1, h.o0, fun g hg e => h.ne g e hg, h.r1, h.r0, h.c.mono fun _ _ hb => hb.symm, h.x.2.1, h.x.1, Ne.symm h.x.2.2⟩
theorem RSy.below {w4 : World} {x3 x4 : Nat} {S : Nat → Prop} {v0 v1 : Value} {ps0 ps1 : List (Rw × Value)} {wr w' : World} (h : RSy w4 x3 x4 S v0 v1 ps0 ps1 wr) (hb : Below wr.heap.size wr w') : RSy w4 x3 x4 S v0 v1 ps0 ps1 w' :=
  ⟨h.b3.below hb h.b3.lt, h.b4.below hb h.b4.lt, own_block h.o0 fun q hq => hb.block q (h.o0.lt q hq).2, own_block h.o1 fun q hq => hb.block q (h.o1.lt q hq).2, h.ne, fun p hp => ⟨(h.r0 p hp).1, (h.r0 p hp).2.below hb⟩, fun p hp => ⟨(h.r1 p hp).1, (h.r1 p hp).2.below hb⟩, h.c.trans (Chg.of_below hb _), h.x⟩
theorem RSy.step {w4 : World} {x3 x4 : Nat} {S : Nat → Prop} {v0 v1 : Value} {ps0 ps1 : List (Rw × Value)} {w5 w7 : World} (h : RSy w4 x3 x4 S v0 v1 ps0 ps1 w5) (hS : ∀ b, S b → b < w4.heap.size ∧ b ≠ x3 ∧ b ≠ x4) {r : Rw} {tv : Value} (hr : r.ok ∧ RowR S w5 r tv) {o : Obj} {n g cap : Nat} (hn : ps0.length = n)
    (hg : (w5.alloc o).grownBy w7 v0.ownBlock) (ho : w7.ownsRow w4.heap.size 74 57 (.slice (some ⟨g, 0, none⟩) (n + 1) cap) (n + 1) (flatP ps0 ++ r.vals tv)) (hl : v0.ownBlock = some g ∨ g = (w5.alloc o).heap.size) :
    RSy w4 x3 x4 S (.slice (some ⟨g, 0, none⟩) (n + 1) cap) v1 (ps0 ++ [(r, tv)]) ps1 (w7.setCell ⟨x3, 0, none⟩ (.slice (some ⟨g, 0, none⟩) (n + 1) cap)) := by
  have hs5 := h.c.size
  have hgs := hg.size
  have hgs' : w5.heap.size + 1 ≤ w7.heap.size := by simpa using hgs
  have hlow : ∀ b, b < w4.heap.size → v0.ownBlock ≠ some b := fun b hb => fun e => by have := (h.o0.lt b e).1; omega
  have hkeep : ∀ b, b < w5.heap.size → v0.ownBlock ≠ some b → b ≠ x3 → (w7.setCell ⟨x3, 0, none⟩ (.slice (some ⟨g, 0, none⟩) (n + 1) cap)).heap[b]? = w5.heap[b]? := fun b hb1 hb2 hb3 =>
    (Below.heap_setCell w7 ⟨x3, 0, none⟩ _ b hb3).trans ((hg.block b (by simp; omega) (fun e => hb2 e.symm)).trans (Below.heap_alloc w5 o b hb1))
  have hx := h.x
  have hb3 : Blk w7 x3 63 #[v0] := (hg.block x3 (by simp; omega) (fun e => hlow x3 hx.1 e.symm)).trans (h.b3.alloc _)
  have hrow : ∀ p : Rw × Value, RowR S w5 p.1 p.2 → RowR S (w7.setCell ⟨x3, 0, none⟩ (.slice (some ⟨g, 0, none⟩) (n + 1) cap)) p.1 p.2 := fun p hp => hp.keep (by simp; omega) fun b hb hl => by
    obtain ⟨q1, q2, q3⟩ := hS b hb
    exact hkeep b hl (hlow b q1) q2
  refine ⟨by simpa using hb3.set_ 0 _, (hkeep x4 h.b4.lt (hlow x4 hx.2.1) (Ne.symm hx.2.2)).trans h.b4, ?_, own_block h.o1 fun q hq => ?_, ?_, ?_, fun p hp => ⟨(h.r1 p hp).1, hrow p (h.r1 p hp).2⟩, ?_, hx⟩
  · have ho' : (w7.setCell ⟨x3, 0, none⟩ (.slice (some ⟨g, 0, none⟩) (n + 1) cap)).ownsRow w4.heap.size 74 57 (.slice (some ⟨g, 0, none⟩) (n + 1) cap) (n + 1) (flatP ps0 ++ r.vals tv) := own_block ho fun q hq => Below.heap_setCell w7 ⟨x3, 0, none⟩ _ q (by rintro rfl; have := (ho.lt _ hq).1; omega)
    rw [List.length_append, hn]
    simpa [flatP] using ho'
  · obtain ⟨q1, q2⟩ := h.o1.lt q hq
    exact hkeep q q2 (fun e => h.ne q e hq) (by omega)
  · intro g' hg' e
    have hg' : g = g' := by simpa [Value.ownBlock] using hg'
    subst hg'
    rcases hl with hl | hl
    · exact h.ne g hl e
    · have := (h.o1.lt g e).2
      simp at hl
      omega
  · intro p hp
    rcases List.mem_append.1 hp with hp | hp
    · exact ⟨(h.r0 p hp).1, hrow p (h.r0 p hp).2⟩
    · simp at hp
      subst hp
      exact ⟨hr.1, hrow (r, tv) hr.2⟩
  · exact (((h.c.alloc o).grown_ hg fun k hk => .inr (h.o0.lt k hk).1).setCell (p := ⟨x3, 0, none⟩) (.inl (.inl rfl)) _)

def RSaid (D : Nat → Prop) (lb : Nat) (M : RfM) (vo vc : Value) (own : Rw) (w : World) (e : Ending) (w' : World) : Prop :=
  ∃ (D' : Nat → Prop) (a0 a1 : Option Addr) (c0 c1 : Nat), e = .returned (.tuple #[.agg #[.slice a0 M.n c0], .agg #[.slice a1 M.n c1]]) ∧ RfAt D' w' lb (M.said own) vo vc ∧
    RdRs (fun _ => True) w' a0 M.n ((M.said own).out 0) ∧ RdRs (fun _ => True) w' a1 M.n ((M.said own).out 1) ∧ (M.n ≤ c0 ∧ c0 ≤ maxLen ∧ M.n ≤ c1 ∧ c1 ≤ maxLen) ∧ Chg (RfC lb vo vc) w w' ∧ ∀ b, D' b → D b ∨ w.heap.size ≤ b

theorem tab_next (k : Nat) (f : Nat → Rw) : tab k f ++ [f k] = tab (k + 1) f := by
  unfold tab
  rw [List.range_succ, List.map_append]
  rfl
set_option maxRecDepth 100000 in
set_option maxHeartbeats 1000000 in
theorem rsay_ended (lb : Nat) (ov : List Value) (w : World) (h : w.cell? ⟨lb, 2, none⟩ = some (.bool false)) (hp : lb < w.heap.size) : Calls Try.prog 15 #[.pointer (some ⟨lb, 0, none⟩), .agg ov.toArray] w fun e w' => e = .returned (.tuple #[.agg #[.slice none 0 0], .agg #[.slice none 0 0]]) ∧ Below w.heap.size w w' := by
  obtain ⟨w0, hw0⟩ : ∃ w0, w0 = (((((w.alloc (.cells ov.toArray 74)).alloc (.cells #[.slice none 0 0] 63)).alloc (.cells #[.slice none 0 0] 63)).alloc (.cells #[.slice none 0 0] 63)).alloc (.cells #[.slice none 0 0] 63)) := ⟨_, rfl⟩
  have hB : Below w.heap.size w w0 := by rw [hw0]; exact (((((Below.refl _ _).alloc (Nat.le_refl _) _).alloc (by simp) _).alloc (by simp; omega) _).alloc (by simp; omega) _).alloc (by simp; omega) _
  have h2 := (hB.cell (p := ⟨lb, 2, none⟩) hp).trans h
  have hsz : w0.heap.size = w.heap.size + 5 := by rw [hw0]; simp
  have b1 : Blk w0 (w.heap.size + 1) 63 #[.slice none 0 0] := by rw [hw0]; exact (((new1 w _ [Value.slice none 0 0] _).alloc _).alloc _).alloc _
  have b2 : Blk w0 (w.heap.size + 1 + 1) 63 #[.slice none 0 0] := by rw [hw0]; exact ((new2 w _ _ [Value.slice none 0 0] _).alloc _).alloc _
  have b3 : Blk w0 (w.heap.size + 1 + 1 + 1) 63 #[.slice none 0 0] := by
    rw [hw0]
    have := (Blk.new (((w.alloc (.cells ov.toArray 74)).alloc (.cells #[.slice none 0 0] 63)).alloc (.cells #[.slice none 0 0] 63)) 63 #[.slice none 0 0]).alloc (.cells #[.slice none 0 0] 63)
    simpa using this
  have b4 : Blk w0 (w.heap.size + 1 + 1 + 1 + 1) 63 #[.slice none 0 0] := by
    rw [hw0]
    have := (Blk.new ((((w.alloc (.cells ov.toArray 74)).alloc (.cells #[.slice none 0 0] 63)).alloc (.cells #[.slice none 0 0] 63)).alloc (.cells #[.slice none 0 0] 63)) 63 #[.slice none 0 0])
    simpa using this
  have c3 := b3.cell 0
  have c4 := b4.cell 0
  have z1 := b1.frozen 0
  have z2 := b2.frozen 0
  have c1 := b1.cell 0
  have c2 := b2.cell 0
  simp at c1 c2 c3 c4
  have HB := Lib.hid (And.intro hB (And.intro b1 b2))
  clear hB h hp b1 b2 b3 b4
  go_enter Try.func15, Try.ntmps15
  go_upto_region 2 with fail
  rw [← hw0]
  clear hw0
  go_wp2_with fail
  go_region
  go_wp2_with fail
  try simp only [Exit.inBlock, Exit.then]
  have e1 : Blk ((w0.setCell ⟨w.heap.size + 1, 0, none⟩ (.slice none 0 0)).setCell ⟨w.heap.size + 1 + 1, 0, none⟩ (.slice none 0 0)) (w.heap.size + 1) 63 #[.slice none 0 0] := (HB.out.2.1.set_ 0 _).far (by simp) _
  have e2 : Blk ((w0.setCell ⟨w.heap.size + 1, 0, none⟩ (.slice none 0 0)).setCell ⟨w.heap.size + 1 + 1, 0, none⟩ (.slice none 0 0)) (w.heap.size + 1 + 1) 63 #[.slice none 0 0] := (HB.out.2.2.far (by simp) _).set_ 0 _
  have r1 := e1.drew.cell 0
  have r2 := e2.drew.cell 0
  simp only [List.getElem?_toArray, List.getElem?_cons_zero] at r1 r2
  have hB := ((HB.out.1.setCell (p := ⟨w.heap.size + 1, 0, none⟩) (by simp) (.slice none 0 0)).setCell (p := ⟨w.heap.size + 1 + 1, 0, none⟩) (by simp; omega) (.slice none 0 0)).drew
  first | refine bodyPost_ret (ret_row2 (n := 1) (n' := 1) rfl (by kernel_rfl) (by kernel_rfl) _ _ _ _ rfl rfl ?_ ?_) rfl ?_ | refine bodyPost_end (ret_row2 (n := 1) (n' := 1) rfl (by kernel_rfl) (by kernel_rfl) _ _ _ _ rfl rfl ?_ ?_) rfl ?_
  · exact (row1 r1).1
  · exact (row1 r2).1
  · rw [(row1 r1).2, (row1 r2).2]; exact ⟨rfl, hB⟩
set_option maxRecDepth 100000 in
set_option maxHeartbeats 8000000 in
theorem rsay_any {D R : Nat → Prop} {w : World} {lb : Nat} {M : RfM} {vo vc : Value} (h : RfAt D w lb M vo vc) (hb : M.b = true) (hT : 0 < M.T) {own : Rw} (ho : own.ok) {tv : Value} (ht : RowR R w own tv) (hR : ∀ b, R b → ¬ RfC lb vo vc b) :
    Calls Try.prog 15 #[.pointer (some ⟨lb, 0, none⟩), .agg (own.vals tv).toArray] w (RSaid D lb M vo vc own w) := by
  obtain ⟨l1, l2, l3, l4⟩ := h.le
  obtain ⟨go, co, rfl, hco1, hco2⟩ : ∃ go co, vo = .slice (some ⟨go, 0, none⟩) M.T co ∧ M.T ≤ co ∧ co ≤ maxLen := by
    obtain ⟨ps, p1, p2, p3⟩ := h.own
    rcases p2.2 with ⟨-, h0⟩ | ⟨g, cp, cur, he, -, -, q1, q2, -⟩
    · omega
    · exact ⟨g, cp, he, q1, q2⟩
  obtain ⟨vc0, hvc0⟩ : ∃ gc cc, vc = .slice (some ⟨gc, 0, none⟩) M.T cc := by
    obtain ⟨ao, co', gc, cc, -, e2, -⟩ := h.rd hT
    exact ⟨gc, cc, e2⟩
  obtain ⟨cc, rfl⟩ := hvc0
  obtain ⟨ov, hov⟩ : ∃ ov, ov = own.vals tv := ⟨_, rfl⟩
  rw [← hov]
  have hvl : ov.length = 57 := by rw [hov]; exact Rw.len ho _
  have hvc : ov.all cell1 = true := by rw [hov]; exact ht.cell1 ho
  have hlb := h.b.lt
  have HOV := Lib.hid hov
  have HF := Lib.hid h
  have HTT := Lib.hid ht
  have HR := Lib.hid hR
  have HO := Lib.hid ho
  have HB := Lib.hid hb
  clear h ht hR ho hb hov
  obtain ⟨w0, hw0⟩ : ∃ w0, w0 = (((((w.alloc (.cells ov.toArray 74)).alloc (.cells #[.slice none 0 0] 63)).alloc (.cells #[.slice none 0 0] 63)).alloc (.cells #[.slice none 0 0] 63)).alloc (.cells #[.slice none 0 0] 63)) := ⟨_, rfl⟩
  have hB : Below w.heap.size w w0 := by rw [hw0]; exact (((((Below.refl _ _).alloc (Nat.le_refl _) _).alloc (by simp) _).alloc (by simp; omega) _).alloc (by simp; omega) _).alloc (by simp; omega) _
  have hsz : w0.heap.size = w.heap.size + 5 := by rw [hw0]; simp
  have b0 : Blk w0 w.heap.size 74 ov.toArray := by rw [hw0]; exact ((((Blk.new w _ _).alloc _).alloc _).alloc _).alloc _
  have b1 : Blk w0 (w.heap.size + 1) 63 #[.slice none 0 0] := by rw [hw0]; exact (((new1 w _ [Value.slice none 0 0] _).alloc _).alloc _).alloc _
  have b2 : Blk w0 (w.heap.size + 1 + 1) 63 #[.slice none 0 0] := by rw [hw0]; exact ((new2 w _ _ [Value.slice none 0 0] _).alloc _).alloc _
  have b3 : Blk w0 (w.heap.size + 1 + 1 + 1) 63 #[.slice none 0 0] := by
    rw [hw0]
    have := (Blk.new (((w.alloc (.cells ov.toArray 74)).alloc (.cells #[.slice none 0 0] 63)).alloc (.cells #[.slice none 0 0] 63)) 63 #[.slice none 0 0]).alloc (.cells #[.slice none 0 0] 63)
    simpa using this
  have b4 : Blk w0 (w.heap.size + 1 + 1 + 1 + 1) 63 #[.slice none 0 0] := by
    rw [hw0]
    have := (Blk.new ((((w.alloc (.cells ov.toArray 74)).alloc (.cells #[.slice none 0 0] 63)).alloc (.cells #[.slice none 0 0] 63)).alloc (.cells #[.slice none 0 0] 63)) 63 #[.slice none 0 0])
    simpa using this
  have HB0 := Lib.hid (And.intro hB (And.intro b0 (And.intro b1 (And.intro b2 (And.intro b3 b4)))))
  have F0 := HF.out.below hB
  have HF0 := Lib.hid F0
  obtain ⟨c0, -, c2, c3, c4⟩ := F0.cells
  rw [HB.out] at c2
  have z2 := F0.b.frozen 2
  clear hB b0 b1 b2 b3 b4 F0
  go_enter Try.func15, Try.ntmps15
  go_upto_region 2 with fail
  rw [← hw0]
  clear hw0
  go_upto_region 5 with fail
  have HX : Hid (Blk (w0.setCell ⟨lb, 2, none⟩ (.bool false)) lb 88 (rlV (M.said own) (.slice (some ⟨go, 0, none⟩) M.T co) (.slice (some ⟨vc0, 0, none⟩) M.T cc)).toArray ∧ Chg (· = lb) w (w0.setCell ⟨lb, 2, none⟩ (.bool false)) ∧
      Blk (w0.setCell ⟨lb, 2, none⟩ (.bool false)) w.heap.size 74 ov.toArray ∧ Blk (w0.setCell ⟨lb, 2, none⟩ (.bool false)) (w.heap.size + 1) 63 #[.slice none 0 0] ∧ Blk (w0.setCell ⟨lb, 2, none⟩ (.bool false)) (w.heap.size + 1 + 1) 63 #[.slice none 0 0] ∧
      Blk (w0.setCell ⟨lb, 2, none⟩ (.bool false)) (w.heap.size + 1 + 1 + 1) 63 #[.slice none 0 0] ∧ Blk (w0.setCell ⟨lb, 2, none⟩ (.bool false)) (w.heap.size + 1 + 1 + 1 + 1) 63 #[.slice none 0 0] ∧ (w0.setCell ⟨lb, 2, none⟩ (.bool false)).heap.size = w.heap.size + 5) := Lib.hid (by
    obtain ⟨k, k0, k1, k2, k3, k4⟩ := HB0.out
    refine ⟨?_, (Chg.of_below k (· = lb)).setCell (p := ⟨lb, 2, none⟩) (.inl rfl) _, k0.far (p := ⟨lb, 2, none⟩) (by show _ ≠ lb; omega) _, k1.far (p := ⟨lb, 2, none⟩) (by show _ ≠ lb; omega) _, k2.far (p := ⟨lb, 2, none⟩) (by show _ ≠ lb; omega) _, k3.far (p := ⟨lb, 2, none⟩) (by show _ ≠ lb; omega) _, k4.far (p := ⟨lb, 2, none⟩) (by show _ ≠ lb; omega) _, by simpa using hsz⟩
    have := HF0.out.b.set_ 2 (.bool false)
    simpa [rlV, RfM.said, HB.out] using this)
  generalize w0.setCell ⟨lb, 2, none⟩ (.bool false) = w2 at HX ⊢
  clear c0 c2 c3 c4 z2 HB0 HF0 hsz
  have hsz2 := HX.out.2.2.2.2.2.2.2
  obtain ⟨t, ht⟩ : ∃ t, t = M.T - 1 := ⟨_, rfl⟩
  have hw1 : IntKind.i64.wrap ((M.T : Int) - 1) = (t : Int) := by rw [IntWalk.i64_in _ (by omega)]; omega
  have ht1 : (t : Int) < M.T := by omega
  have ht0 : (0 : Int) ≤ t := by omega
  have htT : t < M.T := by omega
  have HTE := Lib.hid ht
  clear ht
  have c4 := HX.out.1.cell 4
  simp [rlV] at c4
  have hgl : Hid (go < w.heap.size ∧ go ≠ lb) := Lib.hid (by
    obtain ⟨ps, p1, p2, p3⟩ := HF.out.own
    exact ⟨own_lt p2 rfl, fun e => own_not p2 HF.out.b (by decide) (by rw [e]; rfl)⟩)
  have HCP : Hid (canPut w2 ⟨go, t * 57, none⟩ 57 = true) := Lib.hid (by
    obtain ⟨ps, p1, p2, p3⟩ := HF.out.own
    have hok : ∀ p ∈ ps, p.1.ok := fun p hp => by
      obtain ⟨j, hj, he⟩ := List.getElem_of_mem hp
      exact (p3 j p (by rw [List.getElem?_eq_getElem hj, he])).2.1
    rw [canPut_block (w := w) (HX.out.2.1.block go hgl.out.1 hgl.out.2)]
    exact (own_put p2 p1 hok htT rw0_ok (.slice none 0 0)).1)
  have F : Hid (∀ w', Chg (· = go) w2 w' → canPut w' ⟨go, t * 57, none⟩ 57 = true → (w'.cell? ⟨lb, 0, none⟩ = some (.int .i64 M.n) ∧ w'.cell? ⟨lb, 3, none⟩ = some (.slice (some ⟨go, 0, none⟩) M.T co) ∧ hasRow w' ⟨w.heap.size, 0, none⟩ 57 = true ∧ rowOf w' ⟨w.heap.size, 0, none⟩ 57 = ov ∧ canPut w' ⟨go, t * 57, none⟩ 57 = true ∧ Chg (· = go) w2 w')) := Lib.hid fun w' hc hp => by
    obtain ⟨x1, x2, x3, -⟩ := HX.out
    have k := x1.chg hc (Ne.symm hgl.out.2)
    have k0 := x3.chg hc (by have := hgl.out.1; omega)
    obtain ⟨r1, r2, -⟩ := k0.whole hvl
    have e0 := k.cell 0
    have e3 := k.cell 3
    have en : (M.said own).n = M.n := by unfold RfM.said; rw [if_pos HB.out]
    simp [rlV] at e0 e3
    rw [en] at e0
    exact ⟨e0, e3, r1, r2, hp, hc⟩
  have F0 : Hid (∀ w', Below w2.heap.size w2 w' → (w'.cell? ⟨lb, 0, none⟩ = some (.int .i64 M.n) ∧ w'.cell? ⟨lb, 3, none⟩ = some (.slice (some ⟨go, 0, none⟩) M.T co) ∧ hasRow w' ⟨w.heap.size, 0, none⟩ 57 = true ∧ rowOf w' ⟨w.heap.size, 0, none⟩ 57 = ov ∧ canPut w' ⟨go, t * 57, none⟩ 57 = true ∧ Chg (· = go) w2 w')) := Lib.hid fun w' hb => by
    refine F.out w' (Chg.of_below hb _) ?_
    rw [canPut_block (w := w2) (hb.block go (by have := hgl.out.1; omega))]
    exact HCP.out
  have F1 : Hid (∀ w' w'' : World, Below w'.heap.size w' w'' → (w'.cell? ⟨lb, 0, none⟩ = some (.int .i64 M.n) ∧ w'.cell? ⟨lb, 3, none⟩ = some (.slice (some ⟨go, 0, none⟩) M.T co) ∧ hasRow w' ⟨w.heap.size, 0, none⟩ 57 = true ∧ rowOf w' ⟨w.heap.size, 0, none⟩ 57 = ov ∧ canPut w' ⟨go, t * 57, none⟩ 57 = true ∧ Chg (· = go) w2 w') → (w''.cell? ⟨lb, 0, none⟩ = some (.int .i64 M.n) ∧ w''.cell? ⟨lb, 3, none⟩ = some (.slice (some ⟨go, 0, none⟩) M.T co) ∧ hasRow w'' ⟨w.heap.size, 0, none⟩ 57 = true ∧ rowOf w'' ⟨w.heap.size, 0, none⟩ 57 = ov ∧ canPut w'' ⟨go, t * 57, none⟩ 57 = true ∧ Chg (· = go) w2 w'')) := Lib.hid fun w' w'' hb h => by
    obtain ⟨-, -, -, -, s9, hc⟩ := h
    refine F.out w'' (hc.trans (Chg.of_below hb _)) ?_
    rw [canPut_block (w := w') (hb.block go (by have := hc.size; have := hgl.out.1; omega))]
    exact s9
  have F2 : Hid (∀ (w' : World) (l : List Value), l.length = 57 → (w'.cell? ⟨lb, 0, none⟩ = some (.int .i64 M.n) ∧ w'.cell? ⟨lb, 3, none⟩ = some (.slice (some ⟨go, 0, none⟩) M.T co) ∧ hasRow w' ⟨w.heap.size, 0, none⟩ 57 = true ∧ rowOf w' ⟨w.heap.size, 0, none⟩ 57 = ov ∧ canPut w' ⟨go, t * 57, none⟩ 57 = true ∧ Chg (· = go) w2 w') → ((putRow w' ⟨go, t * 57, none⟩ l).cell? ⟨lb, 0, none⟩ = some (.int .i64 M.n) ∧ (putRow w' ⟨go, t * 57, none⟩ l).cell? ⟨lb, 3, none⟩ = some (.slice (some ⟨go, 0, none⟩) M.T co) ∧ hasRow (putRow w' ⟨go, t * 57, none⟩ l) ⟨w.heap.size, 0, none⟩ 57 = true ∧ rowOf (putRow w' ⟨go, t * 57, none⟩ l) ⟨w.heap.size, 0, none⟩ 57 = ov ∧ canPut (putRow w' ⟨go, t * 57, none⟩ l) ⟨go, t * 57, none⟩ 57 = true ∧ Chg (· = go) w2 (putRow w' ⟨go, t * 57, none⟩ l))) := Lib.hid fun w' l hl h => by
    obtain ⟨-, -, -, -, s9, hc⟩ := h
    refine F.out _ (hc.put (p := ⟨go, t * 57, none⟩) (.inl rfl) _) ?_
    rw [canPut_put _ _ _ _ _ (by rw [hl]; exact s9)]
    exact s9
  have FP : Hid (∀ w' : World, (w'.cell? ⟨lb, 0, none⟩ = some (.int .i64 M.n) ∧ w'.cell? ⟨lb, 3, none⟩ = some (.slice (some ⟨go, 0, none⟩) M.T co) ∧ hasRow w' ⟨w.heap.size, 0, none⟩ 57 = true ∧ rowOf w' ⟨w.heap.size, 0, none⟩ 57 = ov ∧ canPut w' ⟨go, t * 57, none⟩ 57 = true ∧ Chg (· = go) w2 w') → Calls Try.prog 32 #[.int .i64 M.n, .agg ov.toArray] w' (PlainPost M.n own w')) := Lib.hid fun w' h => by
    obtain ⟨-, -, -, -, -, hc⟩ := h
    rw [HOV.out]
    refine rplain_any R M.n own HO.out tv w' ((HTT.out.keep HX.out.2.1.size fun b hb hl => HX.out.2.1.block b hl fun e => HR.out b hb (.inl e)).keep hc.size fun b hb hl => hc.block b hl fun e => HR.out b hb (.inr (.inl ?_)))
    rw [e]; rfl
  have hpo := Rw.plain_ok (n := (M.n : Int)) HO.out
  go_upto_region 6 with fail
  go_region_held3 (fun w' => (w'.cell? ⟨lb, 0, none⟩ = some (.int .i64 M.n) ∧ w'.cell? ⟨lb, 3, none⟩ = some (.slice (some ⟨go, 0, none⟩) M.T co) ∧ hasRow w' ⟨w.heap.size, 0, none⟩ 57 = true ∧ rowOf w' ⟨w.heap.size, 0, none⟩ 57 = ov ∧ canPut w' ⟨go, t * 57, none⟩ 57 = true ∧ Chg (· = go) w2 w'))
    (with_reducible (first | assumption | exact F0.out _ (Below.refl _ _).drew | exact F1.out _ _ (by assumption) (by assumption) | exact F2.out _ _ hyl (by assumption)))
    ((first
      | ((with_reducible refine (FP.out _ (by assumption)).mono ?_); rintro e w5 ⟨pv, rfl, hpx, hb5⟩; obtain ⟨yv, hyv⟩ : ∃ yv, yv = (own.plain M.n).vals pv := ⟨_, rfl⟩; rw [← hyv]; have hyl : yv.length = 57 := (by rw [hyv]; exact Rw.len hpo _); have hyc : yv.all cell1 = true := (by rw [hyv]; exact hpx.cell1 hpo); have HYV := Lib.hid hyv; have HPX := Lib.hid hpx; clear hyv hpx)))
  have HB5 := Lib.hid hb5
  clear hb5
  have HY : Hid (∃ D' : Nat → Prop, RfAt D' (putRow w5 ⟨go, t * 57, none⟩ yv) lb (M.said own) (.slice (some ⟨go, 0, none⟩) M.T co) (.slice (some ⟨vc0, 0, none⟩) M.T cc) ∧ (∀ b, D' b → D b ∨ w.heap.size + 5 ≤ b)) := Lib.hid (by
    obtain ⟨x1, x2, -⟩ := HX.out
    have hb : Below w2.heap.size w2 w5 := (Below.refl _ _).drew.trans HB5.out
    have hp : RowR (w.heap.size + 5 ≤ ·) w5 (own.plain M.n) pv := HPX.out.mono fun b _ h => by rw [← hsz2]; exact h
    obtain ⟨y1, y2⟩ := RfAt.saidStep (lo := w.heap.size + 5) (by omega) HF.out HB.out hT HO.out (x2.trans (Chg.of_below hb _)) (x1.below hb x1.lt) hp
    rw [← HTE.out, ← HYV.out] at y2
    exact ⟨_, y2, fun b hb => hb.elim .inl fun h => .inr h.1⟩)
  obtain ⟨D', hY1, hY2⟩ := HY.out
  have HYD := Lib.hid hY2
  have HW6 : Hid (Chg (RfC lb (.slice (some ⟨go, 0, none⟩) M.T co) (.slice (some ⟨vc0, 0, none⟩) M.T cc)) w (putRow w5 ⟨go, t * 57, none⟩ yv) ∧ (putRow w5 ⟨go, t * 57, none⟩ yv).heap.size ≥ w.heap.size + 5 ∧
      Blk (putRow w5 ⟨go, t * 57, none⟩ yv) (w.heap.size + 1) 63 #[.slice none 0 0] ∧ Blk (putRow w5 ⟨go, t * 57, none⟩ yv) (w.heap.size + 1 + 1) 63 #[.slice none 0 0] ∧
      Blk (putRow w5 ⟨go, t * 57, none⟩ yv) (w.heap.size + 1 + 1 + 1) 63 #[.slice none 0 0] ∧ Blk (putRow w5 ⟨go, t * 57, none⟩ yv) (w.heap.size + 1 + 1 + 1 + 1) 63 #[.slice none 0 0]) := Lib.hid (by
    obtain ⟨-, x2, -, x3, x4, x5, x6, -⟩ := HX.out
    have hb : Below w2.heap.size w2 w5 := (Below.refl _ _).drew.trans HB5.out
    have hc : Chg (· = go) w2 (putRow w5 ⟨go, t * 57, none⟩ yv) := (Chg.of_below hb (· = go)).put (p := ⟨go, t * 57, none⟩) (.inl rfl) _
    have hg := hgl.out.1
    refine ⟨(x2.mono fun k _ hk => .inl hk).trans (hc.mono fun k _ hk => .inr (.inl (by rw [hk]; rfl))), by have := hc.size; omega, x3.chg hc (by omega), x4.chg hc (by omega), x5.chg hc (by omega), x6.chg hc (by omega)⟩)
  generalize putRow w5 ⟨go, t * 57, none⟩ yv = w6 at hY1 HW6 ⊢
  have HF6 := Lib.hid hY1
  clear hY1 hY2 HY HX F F0 F1 F2 FP HCP c4 HYV HPX HB5 hyl hyc hsz2 hpo HTT HR hvl hvc
  obtain ⟨SS, hSS⟩ : ∃ SS, SS = RfS D' lb (.slice (some ⟨go, 0, none⟩) M.T co) (.slice (some ⟨vc0, 0, none⟩) M.T cc) := ⟨_, rfl⟩
  have HS2 : Hid (∀ b, SS b → b < w6.heap.size ∧ (b < w.heap.size ∨ w.heap.size + 5 ≤ b)) := Lib.hid fun b hb => by
    rw [hSS] at hb
    refine ⟨HF6.out.lt hb, ?_⟩
    have key : b < w.heap.size ∨ w.heap.size + 5 ≤ b := by
      rcases hb with hb | hb | hb | hb
      · left; omega
      · left; have := hgl.out.1; have e : go = b := by simpa [Value.ownBlock] using hb
        omega
      · left
        obtain ⟨us, u1, -⟩ := HF.out.come
        exact own_lt u1 hb
      · rcases HYD.out b hb with hb | hb
        · exact .inl (HF.out.dn b hb).1
        · exact .inr hb
    exact key
  have HSS : Hid (∀ b, SS b → b < w6.heap.size ∧ b ≠ w.heap.size + 1 + 1 + 1 ∧ b ≠ w.heap.size + 1 + 1 + 1 + 1) := Lib.hid fun b hb => by
    have := HS2.out b hb
    omega
  have HFK : Hid (∀ wr, Chg (fun b => b = w.heap.size + 1 + 1 + 1 ∨ b = w.heap.size + 1 + 1 + 1 + 1) w6 wr → RfAt D' wr lb (M.said own) (.slice (some ⟨go, 0, none⟩) M.T co) (.slice (some ⟨vc0, 0, none⟩) M.T cc)) := Lib.hid fun wr hc =>
    HF6.out.keep hc.size fun b hb hl => hc.block b hl (by rw [← hSS] at hb; have := HSS.out b hb; omega)
  have HEQ : Hid ((M.said own).n = M.n ∧ (M.said own).T = M.T) := Lib.hid (by unfold RfM.said; rw [if_pos HB.out]; exact ⟨rfl, rfl⟩)
  have HSE := Lib.hid hSS
  clear hSS
  go_wp2_with fail
  go_loopw [9] (fun s9 wr => ∃ (k : Nat) (v0 v1 : Value) (ps0 ps1 : List (Rw × Value)), k ≤ M.n ∧ s9 = .int .i64 k ∧ RSy w6 (w.heap.size + 1 + 1 + 1) (w.heap.size + 1 + 1 + 1 + 1) SS v0 v1 ps0 ps1 wr ∧ ps0.map Prod.fst = tab k (fun s => (M.said own).hist t 0 s) ∧ ps1.map Prod.fst = tab k (fun s => (M.said own).hist t 2 s)) (fun i _ => M.n - (intOf i).toNat)
  case atStart =>
    obtain ⟨x1, x2, -, -, x3, x4⟩ := HW6.out
    exact ⟨0, _, _, [], [], by omega, rfl, ⟨x3, x4, World.ownsRow_nil _ _ _ _, World.ownsRow_nil _ _ _ _, fun g hg => by simp [Value.ownBlock] at hg, by simp, by simp, Chg.refl _ _, by omega⟩, rfl, rfl⟩
  case round =>
    obtain ⟨k, v0, v1, ps0, ps1, hk, rfl, hs, hp0, hp1⟩ := hrel
    obtain ⟨wq, rfl⟩ : ∃ wq, wq = wr := ⟨_, rfl⟩
    have HS := Lib.hid hs
    have HP := Lib.hid (And.intro hp0 hp1)
    have hl0 : ps0.length = k := by rw [← List.length_map (f := Prod.fst), hp0]; simp [tab]
    have hl1 : ps1.length = k := by rw [← List.length_map (f := Prod.fst), hp1]; simp [tab]
    have hle0 : ps0.length ≤ 16 := by omega
    have hle1 : ps1.length ≤ 16 := by omega
    have HL := Lib.hid (And.intro hl0 hl1)
    clear hl0 hl1
    have c0 := (HFK.out wq hs.c).cells.1
    rw [HEQ.out.1] at c0
    have HTR : Hid (∀ (cw : Bool) (wz w' : World), k < M.n → Chg (fun b => b = w.heap.size + 1 + 1 + 1 ∨ b = w.heap.size + 1 + 1 + 1 + 1) w6 wz → Below wz.heap.size wz w' → Calls Try.prog 33 #[.pointer (some ⟨lb, 0, none⟩), .int .i64 k, .int .i64 t, .bool cw] w' (RRowP SS ((M.said own).hist t (if cw then 0 else 2) k) w')) := Lib.hid fun cw wz w' hkn hc hb => by
      have hf := (HFK.out wz hc).below hb
      obtain ⟨ao, co', gc, cc', -, -, h1⟩ := hf.rd (by rw [HEQ.out.2]; exact hT)
      rw [HSE.out]
      exact rtrack_any h1 (by rw [HEQ.out.1]; exact hkn) (by rw [HEQ.out.2]; exact htT) cw
    clear hs hp0 hp1
    by_cases hlt : k < M.n
    · skip
      have hlt' : (k : Int) < M.n := by omega
      obtain ⟨r0, hr0⟩ : ∃ r0, r0 = (M.said own).hist t 0 k := ⟨_, rfl⟩
      obtain ⟨r1, hr1⟩ : ∃ r1, r1 = (M.said own).hist t 2 k := ⟨_, rfl⟩
      have HR01 := Lib.hid (And.intro hr0 hr1)
      have HC0 : Hid (∀ w', Below wq.heap.size wq w' → Calls Try.prog 33 #[.pointer (some ⟨lb, 0, none⟩), .int .i64 k, .int .i64 t, .bool true] w' (RRowP SS r0 w')) := Lib.hid fun w' hb => by
        rw [hr0]; exact HTR.out true wq w' hlt HS.out.c hb
      have c3 := HS.out.b3.cell 0
      have z3 := HS.out.b3.frozen 0
      simp at c3
      clear hr0 hr1
      have hx3 : Hid (w.heap.size + 1 + 1 + 1 < w6.heap.size ∧ w.heap.size + 1 + 1 + 1 + 1 < w6.heap.size ∧ w6.heap.size ≤ wq.heap.size) := Lib.hid ⟨HS.out.x.1, HS.out.x.2.1, HS.out.c.size⟩
      go_upto_region 10 with fail
      go_region_law (first
        | (go_simp; go_at_call 33; refine (HC0.out _ (Below.refl _ _).drew).mono ?_; rintro e w5 ⟨tv0, rfl, hrow, hok, hb5⟩; have HS5 := Lib.hid (HS.out.below ((Below.refl _ _).drew.trans hb5)); have hz5 := hx3.out; have hy5 : wq.heap.size ≤ w5.heap.size := hb5.size; have c5 := HS5.out.b3.cell 0; simp at c5; have hl5 : w.heap.size + 1 + 1 + 1 < w5.heap.size := (by omega); obtain ⟨rv0, hrv0⟩ : ∃ rv0, rv0 = r0.vals tv0 := ⟨_, rfl⟩; rw [← hrv0]; have hvl0 : rv0.length = 57 := (by rw [hrv0]; exact Rw.len hok _); have hvc0 : rv0.all cell1 = true := (by rw [hrv0]; exact hrow.cell1 hok); have HRV := Lib.hid (And.intro hrv0 (And.intro hok (hrow.below hb5))); clear hrv0 hok hrow hb5)
        | (refine step_lies app_rrow (by rfl) (.tmp 47) (.tmp 52) (by rfl) w6.heap.size _ _ _ (by rfl) (HS5.out.o0.alloc _) ⟨w5.heap.size, 0, none⟩ 1 1 rv0 (by rfl) (by simp [hvl0]) (hasRow_new w5 _ _ 0 57 (by simp [hvl0])) ((rowOf_new w5 _ _ 0 57 (by simp [hvl0])).trans (List.take_of_length_le (by simp [hvl0]))) hvc0 (by omega) (by omega) (by simp; omega) ?_; intro gg cp w7 hown1 hgrow hlie; have H7 := Lib.hid (And.intro hown1 (And.intro hgrow hlie)); have hb7 := ((hgrow.block _ (by simp; omega) (own_ne HS5.out.o0 (b := w.heap.size + 1 + 1 + 1) (by omega))).trans (HS5.out.b3.alloc _)); have z7 := Blk.frozen hb7 0; have c7 := Blk.cell hb7 0; simp at c7; clear hown1 hgrow hlie hb7))
      all_goals
        have HS1 : Hid (RSy w6 (w.heap.size + 1 + 1 + 1) (w.heap.size + 1 + 1 + 1 + 1) SS (.slice (some ⟨gg, 0, none⟩) (ps0.length + 1) cp) v1 (ps0 ++ [(r0, tv0)]) ps1 (w7.setCell ⟨w.heap.size + 1 + 1 + 1, 0, none⟩ (.slice (some ⟨gg, 0, none⟩) (ps0.length + 1) cp))) := Lib.hid (by
          obtain ⟨q1, q2⟩ := HRV.out
          exact HS5.out.step HSS.out q2 rfl H7.out.2.1 (by rw [← q1]; exact H7.out.1) H7.out.2.2)
        generalize w7.setCell ⟨w.heap.size + 1 + 1 + 1, 0, none⟩ (.slice (some ⟨gg, 0, none⟩) (ps0.length + 1) cp) = w8 at HS1 ⊢
        clear H7 HS5 HRV z7 c7 c5 hz5 hy5 hl5 hvl0 hvc0 c3 z3 HC0
        obtain ⟨v0', hv0'⟩ : ∃ v0' : Value, v0' = .slice (some ⟨gg, 0, none⟩) (ps0.length + 1) cp := ⟨_, rfl⟩
        rw [← hv0'] at HS1
        try rw [← hv0']
        clear hv0'
        have HS := Lib.hid HS1.out.swap
        have c4 := HS.out.b3.cell 0
        have z4 := HS.out.b3.frozen 0
        simp at c4
        have HC1 : Hid (∀ w', Below w8.heap.size w8 w' → Calls Try.prog 33 #[.pointer (some ⟨lb, 0, none⟩), .int .i64 k, .int .i64 t, .bool false] w' (RRowP SS r1 w')) := Lib.hid fun w' hb => by
          rw [HR01.out.2]; exact HTR.out false w8 w' hlt HS1.out.c hb
        have hx4 : Hid (w.heap.size + 1 + 1 + 1 + 1 < w6.heap.size ∧ w6.heap.size ≤ w8.heap.size) := Lib.hid ⟨HS.out.x.1, HS.out.c.size⟩
        go_upto_region 11 with fail
        go_region_law (first
          | (go_simp; go_at_call 33; refine (HC1.out _ (Below.refl _ _).drew).mono ?_; rintro e w5 ⟨tv1, rfl, hrow, hok, hb5⟩; have HS5 := Lib.hid (HS.out.below ((Below.refl _ _).drew.trans hb5)); have hz5 := hx4.out; have hy5 : w8.heap.size ≤ w5.heap.size := hb5.size; have c5 := HS5.out.b3.cell 0; simp at c5; have hl5 : w.heap.size + 1 + 1 + 1 + 1 < w5.heap.size := (by omega); obtain ⟨rv1, hrv1⟩ : ∃ rv1, rv1 = r1.vals tv1 := ⟨_, rfl⟩; rw [← hrv1]; have hvl1 : rv1.length = 57 := (by rw [hrv1]; exact Rw.len hok _); have hvc1 : rv1.all cell1 = true := (by rw [hrv1]; exact hrow.cell1 hok); have HRV := Lib.hid (And.intro hrv1 (And.intro hok (hrow.below hb5))); clear hrv1 hok hrow hb5)
          | (refine step_lies app_rrow (by rfl) (.tmp 56) (.tmp 61) (by rfl) w6.heap.size _ _ _ (by rfl) (HS5.out.o0.alloc _) ⟨w5.heap.size, 0, none⟩ 1 1 rv1 (by rfl) (by simp [hvl1]) (hasRow_new w5 _ _ 0 57 (by simp [hvl1])) ((rowOf_new w5 _ _ 0 57 (by simp [hvl1])).trans (List.take_of_length_le (by simp [hvl1]))) hvc1 (by omega) (by omega) (by simp; omega) ?_; intro gg cp w7 hown1 hgrow hlie; have H7 := Lib.hid (And.intro hown1 (And.intro hgrow hlie)); have hb7 := ((hgrow.block _ (by simp; omega) (own_ne HS5.out.o0 (b := w.heap.size + 1 + 1 + 1 + 1) (by omega))).trans (HS5.out.b3.alloc _)); have z7 := Blk.frozen hb7 0; have c7 := Blk.cell hb7 0; simp at c7; clear hown1 hgrow hlie hb7))
        all_goals
          have HS2 : Hid (RSy w6 (w.heap.size + 1 + 1 + 1) (w.heap.size + 1 + 1 + 1 + 1) SS v0' (.slice (some ⟨gg, 0, none⟩) (ps1.length + 1) cp) (ps0 ++ [(r0, tv0)]) (ps1 ++ [(r1, tv1)]) (w7.setCell ⟨w.heap.size + 1 + 1 + 1 + 1, 0, none⟩ (.slice (some ⟨gg, 0, none⟩) (ps1.length + 1) cp))) := Lib.hid (by
            obtain ⟨q1, q2⟩ := HRV.out
            exact (HS5.out.step (fun b hb => ⟨(HSS.out b hb).1, (HSS.out b hb).2.2, (HSS.out b hb).2.1⟩) q2 rfl H7.out.2.1 (by rw [← q1]; exact H7.out.1) H7.out.2.2).swap)
          have HE : Hid ((ps0 ++ [(r0, tv0)]).map Prod.fst = tab (k + 1) (fun s => (M.said own).hist t 0 s) ∧ (ps1 ++ [(r1, tv1)]).map Prod.fst = tab (k + 1) (fun s => (M.said own).hist t 2 s)) := Lib.hid (by
            rw [List.map_append, List.map_append, HP.out.1, HP.out.2, ← tab_next, ← tab_next, ← HR01.out.1, ← HR01.out.2]
            exact ⟨rfl, rfl⟩)
          go_wp2_with fail
          exact ⟨⟨k + 1, _, _, _, _, by omega, by go_num, HS2.out, HE.out⟩, by simp [intOf]; omega⟩
    · have hlt' : ¬ (k : Int) < M.n := by omega
      obtain rfl : k = M.n := by omega
      clear HTR
      have c3 := HS.out.b3.cell 0
      have c4 := HS.out.b4.cell 0
      simp at c3 c4
      have k1 := HW6.out.2.2.1.chg HS.out.c (by omega)
      have k2 := HW6.out.2.2.2.1.chg HS.out.c (by omega)
      have z1 := k1.frozen 0
      have z2 := k2.frozen 0
      have d1 := k1.cell 0
      have d2 := k2.cell 0
      simp at d1 d2
      obtain ⟨a0, p0, rfl, x0, y0, u0⟩ := own_rd HS.out.o0 rfl HS.out.r0
      obtain ⟨a1, p1, rfl, x1, y1, u1⟩ := own_rd HS.out.o1 rfl HS.out.r1
      rw [HL.out.1] at x0 y0 c3
      rw [HL.out.2] at x1 y1 c4
      rw [HP.out.1] at x0
      rw [HP.out.2] at x1
      have HQ := Lib.hid (And.intro x0 (And.intro x1 (And.intro (And.intro y0 (And.intro u0 (And.intro y1 u1))) (And.intro k1 k2))))
      clear x0 x1 y0 y1 u0 u1 k1 k2
      go_upto_region 12 with fail
      go_region
      go_wp2_with fail
      try simp only [Exit.inBlock, Exit.then]
      have e1 := ((HQ.out.2.2.2.1.set_ 0 (Value.slice a0 M.n p0)).far (p := ⟨w.heap.size + 1 + 1, 0, none⟩) (by simp) (Value.slice a1 M.n p1)).drew
      have e2 := ((HQ.out.2.2.2.2.far (p := ⟨w.heap.size + 1, 0, none⟩) (by simp) (Value.slice a0 M.n p0)).set_ 0 (Value.slice a1 M.n p1)).drew
      have r1 := e1.cell 0
      have r2 := e2.cell 0
      simp only [Array.setIfInBounds, List.size_toArray, List.length_cons, List.length_nil, List.getElem?_toArray, List.getElem?_cons_zero] at r1 r2
      have hfin : RSaid D lb M (.slice (some ⟨go, 0, none⟩) M.T co) (.slice (some ⟨vc0, 0, none⟩) M.T cc) own w (.returned (.tuple #[.agg #[.slice a0 M.n p0], .agg #[.slice a1 M.n p1]])) (((wq.setCell ⟨w.heap.size + 1, 0, none⟩ (Value.slice a0 M.n p0)).setCell ⟨w.heap.size + 1 + 1, 0, none⟩ (Value.slice a1 M.n p1)).drew) := by
        obtain ⟨x0, x1, x2, -, -⟩ := HQ.out
        have hc : Chg (fun b => b = w.heap.size + 1 ∨ b = w.heap.size + 1 + 1) wq (((wq.setCell ⟨w.heap.size + 1, 0, none⟩ (Value.slice a0 M.n p0)).setCell ⟨w.heap.size + 1 + 1, 0, none⟩ (Value.slice a1 M.n p1)).drew) :=
          (((Chg.refl (fun b => b = w.heap.size + 1 ∨ b = w.heap.size + 1 + 1) wq).setCell (p := ⟨w.heap.size + 1, 0, none⟩) (.inl (.inl rfl)) _).setCell (p := ⟨w.heap.size + 1 + 1, 0, none⟩) (.inl (.inr rfl)) _).drew
        have h65 := HW6.out.2.1
        have hno : ∀ b, w6.heap.size ≤ b ∨ SS b → ¬ (b = w.heap.size + 1 ∨ b = w.heap.size + 1 + 1) := fun b hb => by
          rcases hb with hb | hb
          · omega
          · have := HS2.out b hb; omega
        refine ⟨D', a0, a1, p0, p1, rfl, (HFK.out wq HS.out.c).keep hc.size fun b hb _ => hc.block b (by assumption) (hno b (.inr (by rw [HSE.out]; exact hb))), ?_, ?_, x2, ?_, fun b hb => (HYD.out b hb).elim .inl fun h => .inr (by omega)⟩
        · have e : tab M.n (fun s => (M.said own).hist t 0 s) = (M.said own).out 0 := by unfold RfM.out; rw [HEQ.out.1, HEQ.out.2, HTE.out]
          rw [← e]
          exact (x0.keep hc.size fun b hb hl => hc.block b hl (hno b hb)).mono fun _ _ _ => trivial
        · have e : tab M.n (fun s => (M.said own).hist t 2 s) = (M.said own).out 1 := by unfold RfM.out; rw [HEQ.out.1, HEQ.out.2, HTE.out]
          rw [← e]
          exact (x1.keep hc.size fun b hb hl => hc.block b hl (hno b hb)).mono fun _ _ _ => trivial
        · exact (HW6.out.1.after HS.out.c fun i hi h => by omega).after hc fun i hi h => by omega
      first | refine bodyPost_ret (ret_row2 (n := 1) (n' := 1) rfl (by kernel_rfl) (by kernel_rfl) _ _ _ _ rfl rfl ?_ ?_) rfl ?_ | refine bodyPost_end (ret_row2 (n := 1) (n' := 1) rfl (by kernel_rfl) (by kernel_rfl) _ _ _ _ rfl rfl ?_ ?_) rfl ?_
      · exact (row1 r1).1
      · exact (row1 r2).1
      · rw [(row1 r1).2, (row1 r2).2]; exact hfin
end Go.Proofs.Ytopakilglnpinaa
