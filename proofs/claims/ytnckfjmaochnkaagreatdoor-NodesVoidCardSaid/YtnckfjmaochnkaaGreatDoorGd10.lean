/-
  (*tracks.Lane).side.
-/
import Derived.Test.YtnckfjmaochnkaaGreatDoorGd09
namespace Go.Proofs.YtnckfjmaochnkaaGreatDoor
open Go.RowKit
set_option linter.unusedVariables false
set_option linter.unusedSimpArgs false

def SidePost (n me way : Nat) (near far : List Rw) (w : World) (e : Ending) (w' : World) : Prop :=
  ∃ gt gn, e = .returned (.agg #[.slice (some ⟨gt, 0, none⟩) n n, .slice (some ⟨gn, 0, none⟩) n n]) ∧ w.heap.size ≤ gt ∧ w.heap.size ≤ gn ∧ gt ≠ gn ∧
    RowsB (fun b => w.heap.size ≤ b ∧ b ≠ gt ∧ b ≠ gn) w' gt 118 (tab n (sideM n me way near far 0)) ∧
    RowsB (fun b => w.heap.size ≤ b ∧ b ≠ gt ∧ b ≠ gn) w' gn 118 (tab n (sideM n me way near far 1)) ∧ Below w.heap.size w w'
/-- both lists, as far as sources below k are done -/
structure SideI (w : World) (gt gn gs n me way : Nat) (near far : List Rw) (k : Nat) (wr : World) : Prop where
  s : Blk wr gs 144 #[.slice (some ⟨gt, 0, none⟩) n n, .slice (some ⟨gn, 0, none⟩) n n]
  t : RowsB (fun b => w.heap.size ≤ b ∧ b ≠ gt ∧ b ≠ gn ∧ b ≠ gs) wr gt 118 (tab n fun s => if s < k then sideM n me way near far 0 s else inRow n far s)
  r : RowsB (fun b => w.heap.size ≤ b ∧ b ≠ gt ∧ b ≠ gn ∧ b ≠ gs) wr gn 118 (tab n fun s => if s < k then sideM n me way near far 1 s else inRow n near s)
  bel : Below w.heap.size w wr
  o : w.heap.size ≤ gt ∧ w.heap.size ≤ gn ∧ gt ≠ gn ∧ gt ≠ gs ∧ gn ≠ gs ∧ w.heap.size ≤ gs

theorem RowsB.drewN {S : Nat → Prop} {w : World} {g : Nat} {t : TypeId} {L : List Rw} (h : RowsB S w g t L) (q : Nat) : RowsB S (w.drewN q) g t L := h.keep (Nat.le_refl _) (fun _ _ _ => rfl)
theorem Below.drewN_ {B : Nat} {a w : World} (h : Below B a w) (n : Nat) : Below B a (w.drewN n) := ⟨h.os, h.tape, h.output, h.size, h.block⟩
theorem SideI.drewN {w : World} {gt gn gs n me way : Nat} {near far : List Rw} {k : Nat} {wr : World} (h : SideI w gt gn gs n me way near far k wr) (q : Nat) : SideI w gt gn gs n me way near far k (wr.drewN q) :=
  ⟨h.s.drewN q, h.t.drewN q, h.r.drewN q, Below.drewN_ h.bel q, h.o⟩
theorem SideI.drew {w : World} {gt gn gs n me way : Nat} {near far : List Rw} {k : Nat} {wr : World} (h : SideI w gt gn gs n me way near far k wr) : SideI w gt gn gs n me way near far k wr.drew :=
  ⟨h.s.drew, h.t.keep (Nat.le_refl _) (fun _ _ _ => rfl), h.r.keep (Nat.le_refl _) (fun _ _ _ => rfl), h.bel.drew, h.o⟩
theorem SideI.step {w : World} {gt gn gs n me way : Nat} {near far : List Rw} {k : Nat} {wr : World} (h : SideI w gt gn gs n me way near far k wr) (hk : k < n) {r0 r1 : Rw} (e0 : r0 = sideM n me way near far 0 k) (e1 : r1 = sideM n me way near far 1 k) (o0 : r0.ok) (o1 : r1.ok) {tv0 tv1 : Value}
    (x0 : RowX (fun b => w.heap.size ≤ b ∧ b ≠ gt ∧ b ≠ gn ∧ b ≠ gs) wr r0 tv0) (x1 : RowX (fun b => w.heap.size ≤ b ∧ b ≠ gt ∧ b ≠ gn ∧ b ≠ gs) wr r1 tv1) :
    SideI w gt gn gs n me way near far (k + 1) (putRow (putRow wr ⟨gt, k * 57, none⟩ (r0.vals tv0)) ⟨gn, k * 57, none⟩ (r1.vals tv1)) := by
  obtain ⟨q1, q2, q3, q4, q5, q6⟩ := h.o
  have c1 := (Chg.refl (· = gt) wr).put (p := ⟨gt, k * 57, none⟩) (.inl rfl) (r0.vals tv0)
  have c2 := (Chg.refl (· = gn) (putRow wr ⟨gt, k * 57, none⟩ (r0.vals tv0))).put (p := ⟨gn, k * 57, none⟩) (.inl rfl) (r1.vals tv1)
  have t1 := h.t.set (fun b hb => hb.2.1) (k := k) (by rw [tab_len]; exact hk) o0 x0
  have t2 := t1.chg c2 (by omega) (fun b _ hb e => hb.2.2.1 e)
  have n1 := h.r.chg c1 (by omega) (fun b _ hb e => hb.2.1 e)
  have n2 := n1.set (fun b hb => hb.2.2.1) (k := k) (by rw [tab_len]; exact hk) o1 (x1.keep (by simp) (fun b hb hl => c1.block b hl (fun e => hb.2.1 e)))
  refine ⟨?_, ?_, ?_, Below.put (Below.put h.bel (p := ⟨gt, k * 57, none⟩) q1 _) (p := ⟨gn, k * 57, none⟩) q2 _, h.o⟩
  · exact (putRow_other _ _ _ _ (by simp; omega)).trans ((putRow_other _ _ _ _ (by simp; omega)).trans h.s)
  · rw [tab_put (g := fun s => if s < k + 1 then sideM n me way near far 0 s else inRow n far s) hk (by rw [if_pos (by omega), e0]) (fun j hj hne => by
      by_cases hjk : j < k
      · rw [if_pos hjk, if_pos (by omega)]
      · rw [if_neg hjk, if_neg (by omega)])] at t2
    exact t2
  · rw [tab_put (g := fun s => if s < k + 1 then sideM n me way near far 1 s else inRow n near s) hk (by rw [if_pos (by omega), e1]) (fun j hj hne => by
      by_cases hjk : j < k
      · rw [if_pos hjk, if_pos (by omega)]
      · rw [if_neg hjk, if_neg (by omega)])] at n2
    exact n2
theorem SideI.skip {w : World} {gt gn gs n me way : Nat} {near far : List Rw} {k : Nat} {wr : World} (h : SideI w gt gn gs n me way near far k wr) (e0 : inRow n far k = sideM n me way near far 0 k) (e1 : inRow n near k = sideM n me way near far 1 k) :
    SideI w gt gn gs n me way near far (k + 1) wr := by
  refine ⟨h.s, ?_, ?_, h.bel, h.o⟩
  · have := h.t
    rw [tab_congr (g := fun s => if s < k + 1 then sideM n me way near far 0 s else inRow n far s) (fun j _ => by
      by_cases hjk : j < k
      · rw [if_pos hjk, if_pos (by omega)]
      · by_cases e : j = k
        · subst e; rw [if_neg hjk, if_pos (by omega), e0]
        · rw [if_neg hjk, if_neg (by omega)])] at this
    exact this
  · have := h.r
    rw [tab_congr (g := fun s => if s < k + 1 then sideM n me way near far 1 s else inRow n near s) (fun j _ => by
      by_cases hjk : j < k
      · rw [if_pos hjk, if_pos (by omega)]
      · by_cases e : j = k
        · subst e; rw [if_neg hjk, if_pos (by omega), e1]
        · rw [if_neg hjk, if_neg (by omega)])] at this
    exact this
/-- what the two stores at a source may rely on -/
theorem SideI.facts {w : World} {gt gn gs n me way : Nat} {near far : List Rw} {k : Nat} {wr : World} (h : SideI w gt gn gs n me way near far k wr) (hk : k < n) :
    wr.cell? ⟨gs, 0, none⟩ = some (.slice (some ⟨gt, 0, none⟩) n n) ∧ wr.cell? ⟨gs, 1, none⟩ = some (.slice (some ⟨gn, 0, none⟩) n n) ∧ canPut wr ⟨gt, k * 57, none⟩ 57 = true ∧ canPut wr ⟨gn, k * 57, none⟩ 57 = true := by
  have h0 := h.s.cell 0
  have h1 := h.s.cell 1
  simp at h0 h1
  exact ⟨h0, h1, h.t.canPut k (by rw [tab_len]; exact hk), h.r.canPut k (by rw [tab_len]; exact hk)⟩
theorem side_keep (gt gn gs n o : Nat) (l : List Value) (hl : l.length = 57) (l' : List Value) (hl' : l'.length = 57) (h1 : gt ≠ gs) (h2 : gn ≠ gs) :
    Hid (∀ w' : World, (w'.cell? ⟨gs, 0, none⟩ = some (.slice (some ⟨gt, 0, none⟩) n n) ∧ w'.cell? ⟨gs, 1, none⟩ = some (.slice (some ⟨gn, 0, none⟩) n n) ∧ canPut w' ⟨gt, o, none⟩ 57 = true ∧ canPut w' ⟨gn, o, none⟩ 57 = true) →
      ((putRow w' ⟨gt, o, none⟩ l).cell? ⟨gs, 0, none⟩ = some (.slice (some ⟨gt, 0, none⟩) n n) ∧ (putRow w' ⟨gt, o, none⟩ l).cell? ⟨gs, 1, none⟩ = some (.slice (some ⟨gn, 0, none⟩) n n) ∧ canPut (putRow w' ⟨gt, o, none⟩ l) ⟨gt, o, none⟩ 57 = true ∧ canPut (putRow w' ⟨gt, o, none⟩ l) ⟨gn, o, none⟩ 57 = true)) ∧
    Hid (∀ w' : World, (w'.cell? ⟨gs, 0, none⟩ = some (.slice (some ⟨gt, 0, none⟩) n n) ∧ w'.cell? ⟨gs, 1, none⟩ = some (.slice (some ⟨gn, 0, none⟩) n n) ∧ canPut w' ⟨gt, o, none⟩ 57 = true ∧ canPut w' ⟨gn, o, none⟩ 57 = true) →
      ((putRow w' ⟨gn, o, none⟩ l').cell? ⟨gs, 0, none⟩ = some (.slice (some ⟨gt, 0, none⟩) n n) ∧ (putRow w' ⟨gn, o, none⟩ l').cell? ⟨gs, 1, none⟩ = some (.slice (some ⟨gn, 0, none⟩) n n) ∧ canPut (putRow w' ⟨gn, o, none⟩ l') ⟨gt, o, none⟩ 57 = true ∧ canPut (putRow w' ⟨gn, o, none⟩ l') ⟨gn, o, none⟩ 57 = true)) :=
  ⟨Lib.hid fun w' ⟨a, b, c, d⟩ => ⟨cell_put a (Ne.symm h1), cell_put b (Ne.symm h1), by rw [canPut_putL (by rw [hl]; exact c)]; exact c, by rw [canPut_putL (by rw [hl]; exact c)]; exact d⟩,
   Lib.hid fun w' ⟨a, b, c, d⟩ => ⟨cell_put a (Ne.symm h2), cell_put b (Ne.symm h2), by rw [canPut_putL (by rw [hl']; exact d)]; exact c, by rw [canPut_putL (by rw [hl']; exact d)]; exact d⟩⟩
theorem cell_set {w : World} {p q : Addr} {v u : Value} (h : w.cell? p = some v) (hne : p.block ≠ q.block) : (w.setCell q u).cell? p = some v := (World.cell?_of_block (Below.heap_setCell w q u p.block hne)).trans h
set_option maxRecDepth 100000 in
set_option maxHeartbeats 1000000 in
theorem side_any (S S' : Nat → Prop) (p n me way : Nat) (an af : Option Addr) (ln cn lf cf : Nat) (near far : List Rw) (w : World) (hn : w.cell? ⟨p, 0, none⟩ = some (.int .i64 n)) (hme : w.cell? ⟨p, 1, none⟩ = some (.int .i64 me)) (hp : p < w.heap.size)
    (h4 : 4 ≤ n) (h16 : n ≤ 16) (hm : me < n) (hrn : RdRs S w an ln near) (hn1 : ln ≤ cn) (hn2 : cn ≤ maxLen) (hrf : RdRs S' w af lf far) (hf1 : lf ≤ cf) (hf2 : cf ≤ maxLen) :
    Calls Tryz.prog 39 #[.pointer (some ⟨p, 0, none⟩), .int .i64 way, .agg #[.slice an ln cn], .agg #[.slice af lf cf]] w (SidePost n me way near far w) := by
  have HW := Lib.hid (And.intro hrn hrf)
  have hok1 := hrn.2.1
  have hok2 := hrf.2.1
  have HOK := Lib.hid (And.intro hok1 hok2)
  clear hrn hrf hok1 hok2
  have HL : Hid (∀ w' : World, Below w.heap.size w w' → w'.cell? ⟨p, 0, none⟩ = some (.int .i64 n) ∧ w'.cell? ⟨p, 1, none⟩ = some (.int .i64 me)) := Lib.hid fun w' h => ⟨(h.cell (p := ⟨p, 0, none⟩) hp).trans hn, (h.cell (p := ⟨p, 1, none⟩) hp).trans hme⟩
  clear hn hme
  go_enter Tryz.func39, Tryz.ntmps39
  go_upto_region 1 with fail
  have hB0 : Below w.heap.size w (((w.alloc (.cells #[Value.slice an ln cn] 69)).alloc (.cells #[Value.slice af lf cf] 69)).alloc (.cells #[Value.slice none 0 0, Value.slice none 0 0] 144)) := (((Below.refl _ _).alloc (Nat.le_refl _) _).alloc (by simp) _).alloc (by simp; omega) _
  have k0 : Blk (((w.alloc (.cells #[Value.slice an ln cn] 69)).alloc (.cells #[Value.slice af lf cf] 69)).alloc (.cells #[Value.slice none 0 0, Value.slice none 0 0] 144)) w.heap.size 69 #[Value.slice an ln cn] := ((Blk.new w _ _).alloc _).alloc _
  have k1 : Blk (((w.alloc (.cells #[Value.slice an ln cn] 69)).alloc (.cells #[Value.slice af lf cf] 69)).alloc (.cells #[Value.slice none 0 0, Value.slice none 0 0] 144)) (w.heap.size + 1) 69 #[Value.slice af lf cf] := by
    have := (Blk.new (w.alloc (.cells #[Value.slice an ln cn] 69)) 69 #[Value.slice af lf cf]).alloc (.cells #[Value.slice none 0 0, Value.slice none 0 0] 144)
    simpa using this
  have k2 : Blk (((w.alloc (.cells #[Value.slice an ln cn] 69)).alloc (.cells #[Value.slice af lf cf] 69)).alloc (.cells #[Value.slice none 0 0, Value.slice none 0 0] 144)) (w.heap.size + 1 + 1) 144 #[Value.slice none 0 0, Value.slice none 0 0] := by
    have := Blk.new ((w.alloc (.cells #[Value.slice an ln cn] 69)).alloc (.cells #[Value.slice af lf cf] 69)) 144 #[Value.slice none 0 0, Value.slice none 0 0]
    simpa using this
  have hz0 : w.heap.size + 1 + 1 < (((w.alloc (.cells #[Value.slice an ln cn] 69)).alloc (.cells #[Value.slice af lf cf] 69)).alloc (.cells #[Value.slice none 0 0, Value.slice none 0 0] 144)).heap.size := by simp
  generalize (((w.alloc (.cells #[Value.slice an ln cn] 69)).alloc (.cells #[Value.slice af lf cf] 69)).alloc (.cells #[Value.slice none 0 0, Value.slice none 0 0] 144)) = w0 at hB0 k0 k1 k2 hz0 ⊢
  have HB0 := Lib.hid hB0
  have F0 : Hid (∀ w' : World, Below w0.heap.size w0 w' → Below w.heap.size w w' ∧ Blk w' w.heap.size 69 #[Value.slice an ln cn] ∧ Blk w' (w.heap.size + 1) 69 #[Value.slice af lf cf] ∧ Blk w' (w.heap.size + 1 + 1) 144 #[Value.slice none 0 0, Value.slice none 0 0]) :=
    Lib.hid fun w' h => ⟨HB0.out.trans (h.mono HB0.out.size), k0.below h k0.lt, k1.below h k1.lt, k2.below h k2.lt⟩
  have S1 : Hid (∀ w' : World, Below w0.heap.size w0 w' → w'.cell? ⟨p, 0, none⟩ = some (.int .i64 n) ∧ w'.cell? ⟨w.heap.size, 0, none⟩ = some (Value.slice an ln cn)) := Lib.hid fun w' h => by
    obtain ⟨h1, h2, -⟩ := F0.out w' h
    exact ⟨(HL.out w' h1).1, by have := h2.cell 0; simpa using this⟩
  clear k0 k1 k2 hB0
  go_region_held3 (fun w' => w'.cell? ⟨p, 0, none⟩ = some (.int .i64 n) ∧ w'.cell? ⟨w.heap.size, 0, none⟩ = some (Value.slice an ln cn))
    (first | exact S1.out _ (Below.refl _ _).drew | exact S1.out _ H1.out.1 | exact ⟨cell_set (S1.out _ H1.out.1).1 (by simp <;> omega), cell_set (S1.out _ H1.out.1).2 (by simp <;> omega)⟩)
    ((go_at_call 78; refine (norm_blk S n h16 an ln cn near _ (HW.out.1.below ((F0.out _ (Below.refl _ _).drew).1) (fun _ _ h => h)) hn1 hn2).mono ?_; rintro e w1 ⟨gn, rfl, hgn, hrn, hb1⟩; have H1 := Lib.hid (And.intro ((Below.refl w0.heap.size w0).drew.trans hb1) (And.intro hgn hrn)); have g2 := (F0.out w1 H1.out.1).2.2.2; have c2 := g2.cell 1; have z2 := g2.frozen 1; simp at c2; clear g2 hgn hrn hb1))
  go_upto_region 2 with fail
  have F2 : Hid (∀ w' : World, Below (w1.setCell ⟨w.heap.size + 1 + 1, 1, none⟩ (.slice (some ⟨gn, 0, none⟩) n n)).heap.size (w1.setCell ⟨w.heap.size + 1 + 1, 1, none⟩ (.slice (some ⟨gn, 0, none⟩) n n)) w' →
      Below w.heap.size w w' ∧ Blk w' (w.heap.size + 1) 69 #[Value.slice af lf cf] ∧ Blk w' (w.heap.size + 1 + 1) 144 #[Value.slice none 0 0, .slice (some ⟨gn, 0, none⟩) n n] ∧
      RowsB (fun b => w0.heap.size ≤ b ∧ b < w1.heap.size ∧ b ≠ gn) w' gn 118 (tab n (inRow n near))) := Lib.hid (by
    obtain ⟨h1, -, h3, h4⟩ := F0.out w1 H1.out.1
    have hgn := H1.out.2.1
    have hc := (Chg.refl (· = w.heap.size + 1 + 1) w1).set_at 1 (.slice (some ⟨gn, 0, none⟩) n n)
    have hr := (H1.out.2.2.mono (S' := fun b => w0.heap.size ≤ b ∧ b < w1.heap.size ∧ b ≠ gn) (fun b hl hb => ⟨by have := hb.1; simp at this; omega, hl, hb.2⟩)).chg hc (by simp at hgn; omega) (fun b _ h h' => by omega)
    have hz := h1.size
    have hs : (w1.setCell ⟨w.heap.size + 1 + 1, 1, none⟩ (.slice (some ⟨gn, 0, none⟩) n n)).heap.size = w1.heap.size := by simp
    intro w' hb
    rw [hs] at hb
    refine ⟨(h1.setCell (by simp; omega) _).trans (hb.mono (by omega)), (h3.chg hc (by omega)).below hb h3.lt, (h4.set_ 1 _).below hb h4.lt, ?_⟩
    exact hr.keep hb.size (fun b _ hl => hb.block b (by rw [hs] at hl; exact hl)))
  have hzz : Hid (w.heap.size + 1 + 1 < w0.heap.size ∧ w0.heap.size ≤ gn ∧ gn < w1.heap.size ∧ w0.heap.size ≤ w1.heap.size) := Lib.hid ⟨hz0, by have := H1.out.2.1; simpa using this, H1.out.2.2.lt, H1.out.1.size⟩
  have hz2 : w1.heap.size = (w1.setCell ⟨w.heap.size + 1 + 1, 1, none⟩ (.slice (some ⟨gn, 0, none⟩) n n)).heap.size := by simp
  generalize (w1.setCell ⟨w.heap.size + 1 + 1, 1, none⟩ (.slice (some ⟨gn, 0, none⟩) n n)) = w2 at F2 hz2 ⊢
  rw [hz2] at hzz
  have S2 : Hid (∀ w' : World, Below w2.heap.size w2 w' → w'.cell? ⟨p, 0, none⟩ = some (.int .i64 n) ∧ w'.cell? ⟨w.heap.size + 1, 0, none⟩ = some (Value.slice af lf cf)) := Lib.hid fun w' h => by
    obtain ⟨h1, h2, -⟩ := F2.out w' h
    exact ⟨(HL.out w' h1).1, by have := h2.cell 0; simpa using this⟩
  have hz12 := Lib.hid hz2
  clear hz2
  have hzz0 : w.heap.size + 1 + 1 < w2.heap.size := by have := hzz.out; omega
  go_region_held3 (fun w' => w'.cell? ⟨p, 0, none⟩ = some (.int .i64 n) ∧ w'.cell? ⟨w.heap.size + 1, 0, none⟩ = some (Value.slice af lf cf))
    (first | exact S2.out _ (Below.refl _ _).drew | exact S2.out _ H2.out.1 | exact ⟨cell_set (S2.out _ H2.out.1).1 (by simp <;> omega), cell_set (S2.out _ H2.out.1).2 (by simp <;> omega)⟩)
    ((go_at_call 78; refine (norm_blk S' n h16 af lf cf far _ (HW.out.2.below ((F2.out _ (Below.refl _ _).drew).1) (fun _ _ h => h)) hf1 hf2).mono ?_; rintro e w3 ⟨gt, rfl, hgn, hrn, hb1⟩; have H2 := Lib.hid (And.intro ((Below.refl w2.heap.size w2).drew.trans hb1) (And.intro hgn hrn)); have g2 := (F2.out w3 H2.out.1).2.2.1; have c2 := g2.cell 0; have z2 := g2.frozen 0; simp at c2; clear g2 hgn hrn hb1))
  go_upto_region 3 with fail
  have HI : Hid (SideI w gt gn (w.heap.size + 1 + 1) n me way near far 0 (w3.setCell ⟨w.heap.size + 1 + 1, 0, none⟩ (.slice (some ⟨gt, 0, none⟩) n n))) := Lib.hid (by
    obtain ⟨h1, -, h4, h5⟩ := F2.out w3 H2.out.1
    have hgt := H2.out.2.1
    obtain ⟨z1, z2, z3, z4⟩ := hzz.out
    have z5 := hz12.out
    have hlt := H2.out.2.2.lt
    simp at hgt
    have hc := (Chg.refl (· = w.heap.size + 1 + 1) w3).set_at 0 (.slice (some ⟨gt, 0, none⟩) n n)
    refine ⟨h4.set_ 0 _, ?_, ?_, h1.setCell (by simp; omega) _, by omega⟩
    · have := (H2.out.2.2.mono (S' := fun b => w.heap.size ≤ b ∧ b ≠ gt ∧ b ≠ gn ∧ b ≠ w.heap.size + 1 + 1) (fun b hl hb => by have := hb.1; simp at this; exact ⟨by omega, hb.2, by omega, by omega⟩)).chg hc (by omega) (fun b _ h h' => h.2.2.2 h')
      rw [tab_congr (g := fun s => if s < 0 then sideM n me way near far 0 s else inRow n far s) (fun k _ => by rw [if_neg (by omega)])] at this
      exact this
    · have := (h5.mono (S' := fun b => w.heap.size ≤ b ∧ b ≠ gt ∧ b ≠ gn ∧ b ≠ w.heap.size + 1 + 1) (fun b hl hb => ⟨by omega, by omega, hb.2.2, by omega⟩)).chg hc (by omega) (fun b _ h h' => h.2.2.2 h')
      rw [tab_congr (g := fun s => if s < 0 then sideM n me way near far 1 s else inRow n near s) (fun k _ => by rw [if_neg (by omega)])] at this
      exact this)
  have hz3 : Hid (w.heap.size + 1 + 1 < (w3.setCell ⟨w.heap.size + 1 + 1, 0, none⟩ (.slice (some ⟨gt, 0, none⟩) n n)).heap.size) := Lib.hid (by have := H2.out.1.size; simp; omega)
  clear c2 z2
  generalize (w3.setCell ⟨w.heap.size + 1 + 1, 0, none⟩ (.slice (some ⟨gt, 0, none⟩) n n)) = w4 at HI hz3 ⊢
  clear H2 S2 F2 hzz hzz0 H1 S1 F0 HB0
  have S4 := HL.out w4 HI.out.bel
  go_wp2_with fail
  clear S4
  go_loopw [30] (fun i wr => ∃ k : Nat, k ≤ n ∧ i = .int .i64 k ∧ SideI w gt gn (w.heap.size + 1 + 1) n me way near far k wr) (fun i _ => n - (intOf i).toNat)
  case atStart => exact ⟨0, by omega, rfl, HI.out⟩
  case round =>
    obtain ⟨k, hk, rfl, hI⟩ := hrel
    have HJ := Lib.hid hI
    clear hI
    by_cases hlt : k < n
    · have q := HL.out wr HJ.out.bel
      have HD := Lib.hid (distance_any p n me way k wr q.1 q.2 h4 h16 hm hlt)
      clear q
      obtain ⟨dd, hdd⟩ : ∃ dd, dd = distM n me way k := ⟨_, rfl⟩
      rw [← hdd] at HD
      have HDD := Lib.hid hdd
      clear hdd
      by_cases hd0 : dd = 0
      · have b0 : ((dd : Int) == 0) = true := by simp; omega
        have HS0 : Hid (rw0 = sideM n me way near far 0 k ∧ rw0 = sideM n me way near far 1 k) := Lib.hid (by unfold sideM; rw [if_pos (by rw [← HDD.out]; exact hd0), if_pos (by rw [← HDD.out]; exact hd0)]; exact ⟨rfl, rfl⟩)
        clear hd0
        go_wp2_with fail
        refine HD.out.mono ?_
        rintro e wd ⟨rfl, q, rfl⟩
        obtain ⟨f1, f2, f3, f4⟩ := HJ.out.facts hlt
        obtain ⟨K1, K2⟩ := side_keep gt gn (w.heap.size + 1 + 1) n (k * 57) rowZ len_rowZ rowZ len_rowZ HJ.out.o.2.2.2.1 HJ.out.o.2.2.2.2.1
        go_upto_region 8 with fail
        go_region_held3 (fun w' => w'.cell? ⟨w.heap.size + 1 + 1, 0, none⟩ = some (.slice (some ⟨gt, 0, none⟩) n n) ∧ w'.cell? ⟨w.heap.size + 1 + 1, 1, none⟩ = some (.slice (some ⟨gn, 0, none⟩) n n) ∧ canPut w' ⟨gt, k * 57, none⟩ 57 = true ∧ canPut w' ⟨gn, k * 57, none⟩ 57 = true)
          (first | (simp [f1, f2, f3, f4, canPut_drew, canPut_drewN]; done) | exact K1.out _ ⟨f1, f2, f3, f4⟩ | exact K2.out _ (K1.out _ ⟨f1, f2, f3, f4⟩))
          (fail)
        go_wp2_with fail
        have HT := Lib.hid (HJ.out.step hlt HS0.out.1 HS0.out.2 rw0_ok rw0_ok (rowX_nil _ _ rw0 rfl) (rowX_nil _ _ rw0 rfl))
        rw [rw0_vals] at HT
        exact ⟨⟨k + 1, by omega, by go_num, HT.out.drewN (q + 1)⟩, by simp [intOf]; omega⟩
      · have b0 : ((dd : Int) == 0) = false := by simp; omega
        by_cases hd1 : dd = 1
        · have b1 : ((dd : Int) == 1) = true := by simp; omega
          have HS0 : Hid (inRow n near k = sideM n me way near far 0 k ∧ rw0 = sideM n me way near far 1 k) := Lib.hid (by have h := HDD.out; unfold sideM; rw [← h]; simp [hd0, hd1])
          have hrow := HJ.out.r.row (k := k) (tab_at hlt)
          rw [if_neg (Nat.lt_irrefl k)] at hrow
          obtain ⟨tv, r1, r2, -, r3⟩ := hrow (inRow_ok HOK.out.1 k)
          have HR3 := Lib.hid r3
          have hin := inRow_ok (n := n) HOK.out.1 k
          have hvl := Rw.len hin tv
          have hvc := r3.1.cell1 hin
          obtain ⟨xv, hxv⟩ : ∃ xv, xv = (inRow n near k).vals tv := ⟨_, rfl⟩
          rw [← hxv] at hvl hvc r2
          have HXV := Lib.hid hxv
          clear hd0 hd1 hxv r3 hin
          go_wp2_with fail
          refine HD.out.mono ?_
          rintro e wd ⟨rfl, q, rfl⟩
          obtain ⟨f1, f2, f3, f4⟩ := HJ.out.facts hlt
          obtain ⟨K1, K2⟩ := side_keep gt gn (w.heap.size + 1 + 1) n (k * 57) xv hvl rowZ len_rowZ HJ.out.o.2.2.2.1 HJ.out.o.2.2.2.2.1
          have K3 : Hid (∀ w' : World, hasRow w' ⟨gn, k * 57, none⟩ 57 = true ∧ rowOf w' ⟨gn, k * 57, none⟩ 57 = xv → hasRow (putRow w' ⟨gt, k * 57, none⟩ xv) ⟨gn, k * 57, none⟩ 57 = true ∧ rowOf (putRow w' ⟨gt, k * 57, none⟩ xv) ⟨gn, k * 57, none⟩ 57 = xv) := Lib.hid fun w' h => by
            have := row_put (w := w') (p := ⟨gn, k * 57, none⟩) (q := ⟨gt, k * 57, none⟩) (n := 57) (l := xv) (by have := HJ.out.o.2.2.1; simp; omega)
            rw [this.1, this.2]; exact h
          go_upto_region 10 with fail
          obtain ⟨m1, m2, m3, m4⟩ := K1.out _ ⟨f1, f2, f3, f4⟩
          obtain ⟨m5, m6⟩ := K3.out _ ⟨r1, r2⟩
          have HT := Lib.hid (HJ.out.step hlt HS0.out.1 HS0.out.2 (inRow_ok (n := n) HOK.out.1 k) rw0_ok HR3.out (rowX_nil _ _ rw0 rfl))
          rw [rw0_vals, ← HXV.out] at HT
          go_region_law (first | fail)
          all_goals go_wp2_with fail
          all_goals exact ⟨⟨k + 1, by omega, by go_num, HT.out.drewN (q + 1)⟩, by simp [intOf]; omega⟩
        · have b1 : ((dd : Int) == 1) = false := by simp; omega
          have HS0 : Hid (inRow n far k = sideM n me way near far 0 k ∧ inRow n near k = sideM n me way near far 1 k) := Lib.hid (by have h := HDD.out; unfold sideM; rw [← h]; simp [hd0, hd1])
          clear hd0 hd1
          go_wp2_with fail
          refine HD.out.mono ?_
          rintro e wd ⟨rfl, q, rfl⟩
          go_wp2_with fail
          exact ⟨⟨k + 1, by omega, by go_num, (HJ.out.drewN q).skip HS0.out.1 HS0.out.2⟩, by simp [intOf]; omega⟩
    · obtain rfl : k = n := by omega
      have HE := Lib.hid HJ.out
      obtain ⟨-, -, g3, g4, g5⟩ := HJ.out.s.rules (l := [.slice (some ⟨gt, 0, none⟩) k k, .slice (some ⟨gn, 0, none⟩) k k])
      have f1 := g3 0 2
      have f2 := g4 0 2 (by simp)
      have f3 := g5 0 2
      simp at f1 f2 f3
      clear g3 g4 g5
      have hb : Blk (putRow wr ⟨w.heap.size + 1 + 1, 0, none⟩ [.slice (some ⟨gt, 0, none⟩) k k, .slice (some ⟨gn, 0, none⟩) k k]) (w.heap.size + 1 + 1) 144 [.slice (some ⟨gt, 0, none⟩) k k, .slice (some ⟨gn, 0, none⟩) k k].toArray := HJ.out.s.put_all (z := [.slice (some ⟨gt, 0, none⟩) k k, .slice (some ⟨gn, 0, none⟩) k k]) rfl
      have HB := Lib.hid hb
      clear hb
      go_wp2_with fail
      try simp only [Exit.inBlock, Exit.then]
      obtain ⟨q1, q2, -⟩ := HB.out.whole (n := 2) rfl
      first | refine bodyPost_ret (ret_row (n := 2) rfl (by kernel_rfl) _ _ _ rfl ?_) rfl ?_ | refine bodyPost_end (ret_row (n := 2) rfl (by kernel_rfl) _ _ _ rfl ?_) rfl ?_
      · exact q1
      · rw [q2]
        obtain ⟨o1, o2, o3, o4, o5, o6⟩ := HE.out.o
        have hc := (Chg.refl (· = w.heap.size + 1 + 1) wr).put (p := ⟨w.heap.size + 1 + 1, 0, none⟩) (.inl rfl) [.slice (some ⟨gt, 0, none⟩) k k, .slice (some ⟨gn, 0, none⟩) k k]
        have t1 := (HE.out.t.chg hc o4 (fun b _ h e => h.2.2.2 e)).mono (S' := fun b => w.heap.size ≤ b ∧ b ≠ gt ∧ b ≠ gn) (fun b _ h => ⟨h.1, h.2.1, h.2.2.1⟩)
        have t2 := (HE.out.r.chg hc o5 (fun b _ h e => h.2.2.2 e)).mono (S' := fun b => w.heap.size ≤ b ∧ b ≠ gt ∧ b ≠ gn) (fun b _ h => ⟨h.1, h.2.1, h.2.2.1⟩)
        rw [tab_congr (g := sideM k me way near far 0) (fun j hj => by rw [if_pos hj])] at t1
        rw [tab_congr (g := sideM k me way near far 1) (fun j hj => by rw [if_pos hj])] at t2
        exact ⟨gt, gn, rfl, o1, o2, o3, t1, t2, Below.put HE.out.bel (p := ⟨w.heap.size + 1 + 1, 0, none⟩) o6 _⟩
end Go.Proofs.YtnckfjmaochnkaaGreatDoor
