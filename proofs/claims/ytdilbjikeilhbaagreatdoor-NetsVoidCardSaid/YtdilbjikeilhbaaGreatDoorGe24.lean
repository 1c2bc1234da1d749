/-
  Wires (chapter 8): the end of a tick. Wires (chapter 8): the end of a tick: the walk.
-/
import Derived.Test.YtdilbjikeilhbaaGreatDoorGe23
import Derived.Test.YtdilbjikeilhbaaGreatDoorGe21
namespace Go.Proofs.YtdilbjikeilhbaaGreatDoor
open Go.RowKit
set_option linter.unusedVariables false
set_option linter.unusedSimpArgs false

theorem MapI.ne_blk {P : Program} {k : TypeId} {w : World} {b n g : Nat} {f : Int → Option Value} {t : TypeId} {cs : Array Value} (h : MapI P k w b n f) (hb : Blk w g t cs) : b ≠ g := by
  rintro rfl
  obtain ⟨D, ⟨es, clock, h1, h2⟩, h3⟩ := h
  rw [hb] at h1
  cases h1
theorem chgW {S S' : Nat → Prop} {a b c : World} (h : Chg S a b) (k : Chg S' b c) (hs : ∀ i, i < a.heap.size → S' i → S i) : Chg S a c :=
  ⟨k.os.trans h.os, k.tape.trans h.tape, k.output.trans h.output, Nat.le_trans h.size k.size, fun i hi hn => (k.block i (Nat.lt_of_lt_of_le hi h.size) fun e => hn (hs i hi e)).trans (h.block i hi hn)⟩
def gvF (G : Nat → Option (Value × Value)) (i : Int) : Option Value := if 0 ≤ i then (G i.toNat).map (fun p => Value.agg #[p.1, p.2]) else none
theorem gvF_at (G : Nat → Option (Value × Value)) (k : Nat) : gvF G (k : Int) = (G k).map (fun p => Value.agg #[p.1, p.2]) := by
  unfold gvF
  rw [if_pos (Int.natCast_nonneg k)]
  rfl
theorem gvF_put (G : Nat → Option (Value × Value)) (k : Nat) (x0 x1 : Value) : putF (gvF G) (k : Int) (.agg #[x0, x1]) = gvF (fun j => if j = k then some (x0, x1) else G j) := by
  funext i
  unfold putF gvF
  by_cases hi : 0 ≤ i
  · simp only [hi, if_true]
    by_cases hik : i = (k : Int)
    · subst hik; simp
    · have : i.toNat ≠ k := by omega
      simp [hik, this]
  · have : i ≠ (k : Int) := by omega
    simp [hi, this]
theorem gvF_none : gvF (fun _ => none) = fun _ => none := by
  funext i; unfold gvF; split <;> rfl
def endC (G : Nat → Option (Value × Value)) (k : Nat) : Cgo := match G k with
  | some p => ⟨p.1, p.2, true⟩
  | none => cgo0
def endW (W : Nat → List Cgo) (G : Nat → Option (Value × Value)) (k : Nat) : List Cgo := (W k).tail ++ [endC G k]
def LnB (lb wy : Nat → Nat) (n : Nat) (b : Nat) : Prop := ∃ k, k < 4 * n ∧ (b = lb k ∨ b = wy k)
structure EnI (w : World) (wb mb gb r : Nat) (lb wy : Nat → Nat) (n gc : Nat) (tk : Int) (W : Nat → List Cgo) (G : Nat → Option (Value × Value)) (left ll : Int → Bool) (wr : World) : Prop where
  rg : ∃ c cnt, RngI Tryz.prog 3 wr mb r c (lnF lb n) left cnt
  b : Blk wr wb 171 #[Value.map (some mb), .int .i64 n, .map (some gb), .int .i64 tk]
  g : MapI Tryz.prog 3 wr gb gc (gvF G)
  l : ∀ k : Nat, k < 4 * n → LnAt wr (lb k) (wy k) (if ll k = true then tk else tk + 1) (if ll k = true then W k else endW W G k)
  c : Chg (LnB lb wy n) w wr
  rr : w.heap.size ≤ r
section
variable {w wr w' : World} {wb mb gb r : Nat} {lb wy : Nat → Nat} {n gc : Nat} {tk : Int} {W : Nat → List Cgo} {G : Nat → Option (Value × Value)} {left : Int → Bool}
theorem lnF_some {i : Int} {v : Value} (h : lnF lb n i = some v) : ∃ k : Nat, k < 4 * n ∧ i = k ∧ v = .pointer (some ⟨lb k, 0, none⟩) := by
  unfold lnF at h
  split at h
  · rename_i hi
    exact ⟨i.toNat, by omega, by omega, by cases h; rfl⟩
  · cases h
theorem EnI.come (h : EnI w wb mb gb r lb wy n gc tk W G left left wr) (h16 : n ≤ 16) (ty : TypeId) :
    ((∀ k : Nat, k < 4 * n → left k = false) ∧ (Instr.next (.pointer (some ⟨r, 0, none⟩)) false ty).run Tryz.prog wr = .ok (.tuple #[.bool false]) wr) ∨
    ∃ (k : Nat) (w' : World), k < 4 * n ∧ left k = true ∧ (Instr.next (.pointer (some ⟨r, 0, none⟩)) false ty).run Tryz.prog wr = .ok (.tuple #[.bool true, .int .i64 k, .pointer (some ⟨lb k, 0, none⟩)]) w' ∧
      (Instr.entry (.pointer (some ⟨r, 0, none⟩))).run Tryz.prog w' = .ok (.tuple #[.int .i64 k, .pointer (some ⟨lb k, 0, none⟩)]) w' ∧ w'.rangeLeft mb r < wr.rangeLeft mb r ∧
      EnI w wb mb gb r lb wy n gc tk W G (fun j => left j && decide (j ≠ k)) left w' := by
  obtain ⟨c, cnt, hr⟩ := h.rg
  rcases hr.next (by kernel_rfl) ty with ⟨h1, h2⟩ | ⟨i, v, w', cnt', hi, hf, hl, h1, h2, h3, h4, h5, h6⟩
  · exact .inl ⟨fun k hk => h1 k (by simp [Lit.wf, IntKind.min, IntKind.max, IntKind.signed, IntKind.bits]; omega), h2⟩
  · obtain ⟨k, hk, rfl, rfl⟩ := lnF_some hf
    have hne : ∀ {g : Nat}, g < w.heap.size → w'.heap[g]? = wr.heap[g]? := fun {g} hg => h4.block g (Nat.lt_of_lt_of_le hg h.c.size) (by intro e; injection e with e; have := h.rr; omega)
    have hlt : ∀ {g : Nat} {t : TypeId} {cs : Array Value}, Blk wr g t cs → w'.heap[g]? = wr.heap[g]? := fun {g t cs} hb => h4.block g hb.lt (by
      intro e
      injection e with e
      obtain ⟨D, lf, ⟨es, clock, since, seen, c0, -, -, -, -, h5, -⟩, -⟩ := hr
      rw [← e, hb] at h5
      cases h5)
    have hm : w'.heap[gb]? = wr.heap[gb]? := h4.block gb h.g.lt (by
      intro e
      injection e with e
      obtain ⟨D, lf, ⟨es, clock, since, seen, c0, -, -, -, -, h5, -⟩, -⟩ := hr
      obtain ⟨D', ⟨es', clock', h7, -⟩, -⟩ := h.g
      rw [← e, h7] at h5
      cases h5)
    exact .inr ⟨k, w', hk, hl, h1, h6, by rw [h2.left_eq, hr.left_eq]; exact h3, ⟨c, cnt', h2⟩, (hlt h.b).trans h.b, h.g.keep hm, fun j hj => (h.l j hj).keep (hlt (h.l j hj).b) (hlt (h.l j hj).g),
      ⟨h4.os.trans h.c.os, h4.tape ▸ h.c.tape, h4.output.trans h.c.output, Nat.le_trans h.c.size (by omega), fun b hb hn => (hne hb).trans (h.c.block b hb hn)⟩, h.rr⟩
theorem EnI.below {ll : Int → Bool} (h : EnI w wb mb gb r lb wy n gc tk W G left ll wr) (hb : Below wr.heap.size wr w') : EnI w wb mb gb r lb wy n gc tk W G left ll w' := by
  obtain ⟨c, cnt, hr⟩ := h.rg
  exact ⟨⟨c, cnt, hr.kept (hb.block _ hr.lt.1) (hb.block _ hr.lt.2.1)⟩, (hb.block _ h.b.lt).trans h.b, h.g.keep (hb.block _ h.g.lt), fun k hk => (h.l k hk).keep (hb.block _ (h.l k hk).b.lt) (hb.block _ (h.l k hk).g.lt), h.c.trans (Chg.of_below hb _), h.rr⟩
theorem EnI.left_below {ll : Int → Bool} (h : EnI w wb mb gb r lb wy n gc tk W G left ll wr) (hm : w'.heap[mb]? = wr.heap[mb]?) (hr' : w'.heap[r]? = wr.heap[r]?) : w'.rangeLeft mb r = wr.rangeLeft mb r := by
  obtain ⟨c, cnt, hr⟩ := h.rg
  rw [hr.left_eq, (hr.kept hm hr').left_eq]
theorem EnI.sent {ll : Int → Bool} {k : Nat} (h : EnI w wb mb gb r lb wy n gc tk W G left ll wr) (hi : ∀ j k, j < 4 * n → k < 4 * n → j ≠ k → lb j ≠ lb k ∧ wy j ≠ wy k) (hll : ∀ j, left j = (ll j && decide (j ≠ k))) (hk : k < 4 * n) (hl : LnAt w' (lb k) (wy k) (tk + 1) (endW W G k)) (hc : Chg (fun b => b = lb k ∨ b = wy k) wr w') :
    EnI w wb mb gb r lb wy n gc tk W G left left w' ∧ w'.rangeLeft mb r = wr.rangeLeft mb r := by
  have hlk := h.l k hk
  have hr := h.rg
  obtain ⟨c, cnt, hr⟩ := hr
  have hmb : w'.heap[mb]? = wr.heap[mb]? := hc.block _ hr.lt.1 (by rintro (e | e); exact hr.map.ne_blk hlk.b e; exact hr.map.ne_blk hlk.g e)
  have hrr : w'.heap[r]? = wr.heap[r]? := hc.block _ hr.lt.2.1 (by
    obtain ⟨D, lf, ⟨es, clock, since, seen, c0, -, -, -, -, h5, -⟩, -⟩ := hr
    rintro (rfl | rfl)
    · rw [hlk.b] at h5; cases h5
    · rw [hlk.g] at h5; cases h5)
  refine ⟨⟨⟨c, cnt, hr.kept hmb hrr⟩, h.b.chg hc (by rintro (e | e); exact h.b.ne_ hlk.b (by decide) e; exact h.b.ne_ hlk.g (by decide) e), h.g.keep (hc.block _ h.g.lt (by rintro (e | e); exact h.g.ne_blk hlk.b e; exact h.g.ne_blk hlk.g e)), fun j hj => ?_, ?_, h.rr⟩, h.left_below hmb hrr⟩
  · by_cases hjk : j = k
    · subst hjk
      rw [hll]
      simpa using hl
    · have hkeep := hi j k hj hk hjk
      have := (h.l j hj).keep (w' := w') (hc.block _ (h.l j hj).b.lt (by rintro (e | e); exact hkeep.1 e; exact (h.l j hj).b.ne_ hlk.g (by decide) e)) (hc.block _ (h.l j hj).g.lt (by rintro (e | e); exact (h.l j hj).g.ne_ hlk.b (by decide) e; exact hkeep.2 e))
      have he : left (j : Int) = ll j := by rw [hll]; simp [show (j : Int) ≠ k by omega]
      rw [he]
      exact this
  · exact chgW h.c hc fun i _ e => ⟨k, hk, e⟩
end
end Go.Proofs.YtdilbjikeilhbaaGreatDoor
namespace Go.Proofs.YtdilbjikeilhbaaGreatDoor
open Go.RowKit
set_option linter.unusedVariables false
set_option linter.unusedSimpArgs false

section
variable (ρ : Operand → Value) (d : Option Tmp) (x y u : Operand) (ty : TypeId) (s : String) (af : Array Edge) (g : Option (Nat × Bool)) (w : World)
@[go_sem ↓] theorem bs_post1 (h : lenC (ρ x) 2 = true) : (execOp ρ { dst := d, op := .buildSlice 356 1 #[(0, x)], type := ty, pos := s, after := af, guard := g }).run Tryz.prog w = .ok (.value (.slice (some ⟨w.heap.size, 0, none⟩) 1 1)) (w.alloc (.cells (cellsL (ρ x)).toArray 63)) := by
  have := exec_bslice (n := 2) Tryz.underlying356 (by kernel_rfl) ρ d 1 [x] #[(0, x)] ty s af g w (by simp [iparts]) rfl (by omega) (by omega) (by simp [h])
  simpa using this
end
def EndP (w : World) (wb mb gb : Nat) (lb wy : Nat → Nat) (n : Nat) (tk : Int) (W : Nat → List Cgo) (G : Nat → Option (Value × Value)) (e : Ending) (w' : World) : Prop :=
  e = .returned (.int .i64 0) ∧ WrAt w' wb mb gb lb wy n 0 (tk + 1) (endW W G) (gvF fun _ => none) ∧ Chg (fun b => b = wb ∨ b = gb ∨ LnB lb wy n b) w w'
set_option maxRecDepth 100000 in
set_option maxHeartbeats 4000000 in
theorem wend_any {w : World} {wb mb gb : Nat} {lb wy : Nat → Nat} {n gc : Nat} {tk : Int} {W : Nat → List Cgo} {G : Nat → Option (Value × Value)} (h : WrAt w wb mb gb lb wy n gc tk W (gvF G)) (h4 : 4 ≤ n) (h16 : n ≤ 16) (hgm : gb ≠ mb)
    (hi : ∀ j k, j < 4 * n → k < 4 * n → j ≠ k → lb j ≠ lb k ∧ wy j ≠ wy k) (ht0 : 0 ≤ tk) (ht1 : tk ≤ 1000000) (hW : ∀ k, k < 4 * n → W k ≠ [] ∧ (W k).length ≤ 2) (hG : ∀ k p, G k = some p → cell1 p.1 = true ∧ cell1 p.2 = true) :
    Calls Tryz.prog 51 #[.pointer (some ⟨wb, 0, none⟩)] w (EndP w wb mb gb lb wy n tk W G) := by
  have HT := Lib.hid (wthere_any h.b (by omega))
  have c0 := h.b.cell 0
  simp only [List.getElem?_toArray, List.getElem?_cons_zero] at c0
  obtain ⟨c, hm⟩ := h.m
  obtain ⟨w1, cnt, hrun, hrg, hgr, hsz⟩ := hm.range (t := 167) (e := 175) (by kernel_rfl) (by kernel_rfl)
  have hb1 : Below w.heap.size w w1 := (Below.refl _ _).grown hgr (Nat.le_refl _) (fun q hq => by cases hq)
  have HE : Hid (EnI w wb mb gb w.heap.size lb wy n gc tk W G (fun i => (lnF lb n i).isSome) (fun i => (lnF lb n i).isSome) w1) := Lib.hid ⟨⟨c, cnt, hrg⟩, (h.below hb1).b, (h.below hb1).g, fun k hk => by
    rw [lnF_at lb hk]; exact (h.below hb1).l k hk, Chg.of_below hb1 _, Nat.le_refl _⟩
  have H := Lib.hid (And.intro h (And.intro hgm (And.intro hi (And.intro hW hG))))
  clear hm hrg hgr hsz hb1 h hW hG hi hgm
  go_enter Tryz.func51, Tryz.ntmps51
  go_wp2_with fail
  (with_reducible refine HT.out.mono ?_)
  rintro e w' ⟨rfl, rfl⟩
  go_wp2_with fail
  obtain ⟨r, hr⟩ : ∃ r, Hid (r = w.heap.size) := ⟨_, Lib.hid rfl⟩
  rw [← hr.out] at HE ⊢
  clear hrun c0 HT
  go_loopw [3] (fun _ wr => ∃ left, Hid (EnI w wb mb gb r lb wy n gc tk W G left left wr)) (fun _ wr => wr.rangeLeft mb r)
  case atStart => exact ⟨_, HE⟩
  case round =>
    obtain ⟨left, HL⟩ := hrel
    clear HE
    rcases HL.out.come h16 0 with ⟨hd, hnx⟩ | ⟨k, w2, hk, hlk, hnx, hen, hme, hE2⟩
    · -- nothing is left
      have HD := Lib.hid hd
      have c2 := HL.out.b.cell 2
      have c3 := HL.out.b.cell 3
      have z3 := HL.out.b.frozen 3
      simp only [List.getElem?_toArray, List.getElem?_cons_zero, List.getElem?_cons_succ] at c2 c3
      have hwr : IntKind.i64.wrap (tk + 1) = tk + 1 := IntWalk.i64_in _ (by omega)
      obtain ⟨w3, hcl, hm3, hg3⟩ := HL.out.g.clear (t := 54) (e := 63) (by kernel_rfl) 0
      clear hd
      have hwb3 : w3.heap[wb]? = wr.heap[wb]? := hg3.block wb HL.out.b.lt (by intro e; injection e with e; exact HL.out.g.ne_blk HL.out.b e.symm)
      have d3 : w3.cell? ⟨wb, 3, none⟩ = some (.int .i64 tk) := (World.cell?_of_block (a := ⟨wb, 3, none⟩) hwb3).trans c3
      have e3 : w3.frozen? ⟨wb, 3, none⟩ = false := (World.frozen?_of_block (a := ⟨wb, 3, none⟩) hwb3).trans z3
      go_wp2_with fail
      go_ret
      have hE := HL.out
      obtain ⟨hw, hgm, hi, hW, hG⟩ := H.out
      obtain ⟨c, cnt, hr2⟩ := hE.rg
      have hk3 : ∀ {g : Nat}, g < wr.heap.size → g ≠ gb → g ≠ wb → (w3.setCell ⟨wb, 3, none⟩ (.int .i64 (tk + 1))).heap[g]? = wr.heap[g]? := fun {g} h1 h2 h3 => (Below.heap_setCell _ _ _ _ (by show g ≠ wb; exact h3)).trans (hg3.block g h1 (by intro e; injection e with e; exact h2 e))
      have hb3 : Blk w3 wb 171 #[Value.map (some mb), .int .i64 n, .map (some gb), .int .i64 tk] := hwb3.trans hE.b
      refine ⟨rfl, ⟨by simpa using hb3.set_ 3 (.int .i64 (tk + 1)), ⟨c, hr2.map.keep (hk3 hr2.map.lt hgm.symm (hr2.map.ne_blk hE.b))⟩, ?_, fun k hk => ?_⟩, ?_⟩
      · rw [gvF_none]
        exact hm3.keep (Below.heap_setCell _ _ _ _ (by show gb ≠ wb; exact hE.g.ne_blk hE.b))
      · have := hE.l k hk
        rw [HD.out k hk] at this
        exact this.keep (hk3 this.b.lt (fun e => hE.g.ne_blk this.b e.symm) (this.b.ne_ hE.b (by decide))) (hk3 this.g.lt (fun e => hE.g.ne_blk this.g e.symm) (this.g.ne_ hE.b (by decide)))
      · refine chgW (hE.c.mono (S' := fun b => b = wb ∨ b = gb ∨ LnB lb wy n b) fun k _ h => .inr (.inr h)) (S' := fun b => b = wb ∨ b = gb) ⟨hg3.os, hg3.tape, hg3.output, by simpa using hg3.size, fun b hb hn => hk3 hb (fun e => hn (.inr e)) (fun e => hn (.inl e))⟩ fun i _ e => ?_
        rcases e with e | e
        · exact .inl e
        · exact .inr (.inl e)
    · have HE2 := Lib.hid hE2
      have HME := Lib.hid hme
      have c2 := hE2.b.cell 2
      simp only [List.getElem?_toArray, List.getElem?_cons_zero, List.getElem?_cons_succ] at c2
      have hkw : (Lit.int .i64 (k : Int)).wf = true := by simp [Lit.wf, IntKind.min, IntKind.max, IntKind.signed, IntKind.bits]; omega
      have hlo := hE2.g.look (t := 54) (e := 63) (by kernel_rfl) (by kernel_rfl) (z := .agg postZ.toArray) (by kernel_rfl) hkw
      rw [gvF_at] at hlo
      have hls := hE2.l k hk
      rw [hlk] at hls
      simp only [if_true] at hls
      have hW := H.out.2.2.2.1 k hk
      have hG := H.out.2.2.2.2 k
      obtain ⟨cc, ll, hcl⟩ : ∃ cc ll, W k = cc :: ll := by
        cases hwk : W k with
        | nil => exact absurd hwk hW.1
        | cons a l => exact ⟨a, l, rfl⟩
      rw [hcl] at hls hW
      have hll1 : ll.length ≤ 1 := by have := hW.2; simp at this; omega
      clear hE2 hme HL hW
      cases hgk : G k with
      | none =>
        rw [hgk] at hlo
        simp only [Option.map_none, Option.getD_none, Option.isSome_none] at hlo
        have hB : Below w2.heap.size w2 (w2.alloc (.cells postZ.toArray 63)) := balP (Below.refl _ _) _
        have HS : Hid (Calls Tryz.prog 96 #[.pointer (some ⟨lb k, 0, none⟩), .slice none 0 0] (w2.alloc (.cells postZ.toArray 63)) (SendP (lb k) (wy k) tk (ll ++ [sentC 0 (.int .u8 0) (.int .u8 0)]) (w2.alloc (.cells postZ.toArray 63)))) := Lib.hid (send_any (hls.keep (hB.block _ hls.b.lt) (hB.block _ hls.g.lt)) hll1 ht0 ht1 none 0 0 (.int .u8 0) (.int .u8 0) ⟨by omega, ⟨rfl, rfl⟩, by omega⟩)
        have HE3 := Lib.hid (HE2.out.below hB)
        have HL3 : Hid ((w2.alloc (.cells postZ.toArray 63)).rangeLeft mb r = w2.rangeLeft mb r) := Lib.hid (by
          obtain ⟨c, cnt, hr⟩ := HE2.out.rg
          exact HE2.out.left_below (hB.block _ hr.lt.1) (hB.block _ hr.lt.2.1))
        have hec : endW W G k = ll ++ [sentC 0 (.int .u8 0) (.int .u8 0)] := by unfold endW endC sentC; rw [hcl, hgk]; rfl
        have HC := Lib.hid hec
        clear hB hls hec hG hcl
        go_wp2_with fail
        (with_reducible refine HS.out.mono ?_)
        rintro e w4 ⟨rfl, hl4, hc4⟩
        obtain ⟨he4, hm4⟩ := HE3.out.sent (k := k) H.out.2.2.1 (fun j => rfl) hk (by rw [HC.out]; exact hl4) hc4
        have HE4 := Lib.hid he4
        have HM4 := Lib.hid hm4
        clear hl4 hc4 he4 hm4
        go_wp2_with fail
        exact ⟨⟨_, HE4⟩, by rw [HM4.out, HL3.out]; exact HME.out⟩
      | some p =>
        rw [hgk] at hlo
        simp only [Option.map_some, Option.getD_some, Option.isSome_some] at hlo
        obtain ⟨hp1, hp2⟩ := hG p hgk
        obtain ⟨cv, hcv⟩ : ∃ cv : List Value, Hid (cv = [p.1, p.2]) := ⟨_, Lib.hid rfl⟩
        rw [show (#[p.1, p.2] : Array Value) = cv.toArray by rw [hcv.out]] at hlo
        have hcvl : cv.length = 2 := by rw [hcv.out]; rfl
        have hcva : cv.all cell1 = true := by rw [hcv.out]; simp [hp1, hp2]
        have htk : List.take 2 cv = cv := List.take_of_length_le (by omega)
        have hB1 : Below w2.heap.size w2 (w2.alloc (.cells cv.toArray 63)) := balP (Below.refl _ _) _
        have hB : Below w2.heap.size w2 ((w2.alloc (.cells cv.toArray 63)).alloc (.cells cv.toArray 63)) := balP hB1 _
        have kx := Blk.new (w2.alloc (.cells cv.toArray 63)) 63 cv.toArray
        obtain ⟨y1, y2, -⟩ := kx.whole hcvl
        have hs1 : (w2.alloc (.cells cv.toArray 63)).heap.size = w2.heap.size + 1 := by simp
        rw [hs1] at kx y1 y2
        have HS : Hid (Calls Tryz.prog 96 #[.pointer (some ⟨lb k, 0, none⟩), .slice (some ⟨w2.heap.size + 1, 0, none⟩) 1 1] ((w2.alloc (.cells cv.toArray 63)).alloc (.cells cv.toArray 63)) (SendP (lb k) (wy k) tk (ll ++ [sentC 1 p.1 p.2]) ((w2.alloc (.cells cv.toArray 63)).alloc (.cells cv.toArray 63)))) := Lib.hid (send_any (hls.keep (hB.block _ hls.b.lt) (hB.block _ hls.g.lt)) hll1 ht0 ht1 _ 1 1 p.1 p.2 ⟨by omega, ⟨hp1, hp2⟩, fun _ => ⟨_, _, rfl, kx.lt, y1, by rw [y2, hcv.out]⟩⟩)
        have HE3 := Lib.hid (HE2.out.below hB)
        have HL3 : Hid (((w2.alloc (.cells cv.toArray 63)).alloc (.cells cv.toArray 63)).rangeLeft mb r = w2.rangeLeft mb r) := Lib.hid (by
          obtain ⟨c, cnt, hr⟩ := HE2.out.rg
          exact HE2.out.left_below (hB.block _ hr.lt.1) (hB.block _ hr.lt.2.1))
        have hec : endW W G k = ll ++ [sentC 1 p.1 p.2] := by unfold endW endC sentC; rw [hcl, hgk]; rfl
        have HC := Lib.hid hec
        clear hB hB1 kx y1 y2 hs1 hls hec hG hcl
        go_wp2_with fail
        (with_reducible refine HS.out.mono ?_)
        rintro e w4 ⟨rfl, hl4, hc4⟩
        obtain ⟨he4, hm4⟩ := HE3.out.sent (k := k) H.out.2.2.1 (fun j => rfl) hk (by rw [HC.out]; exact hl4) hc4
        have HE4 := Lib.hid he4
        have HM4 := Lib.hid hm4
        clear hl4 hc4 he4 hm4
        go_wp2_with fail
        exact ⟨⟨_, HE4⟩, by rw [HM4.out, HL3.out]; exact HME.out⟩
end Go.Proofs.YtdilbjikeilhbaaGreatDoor
