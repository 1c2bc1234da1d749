
/-
  slices.Clone, slices.Clip; words.Copy.
-/
import Derived.Test.YtbdklfcgcmdgaaaWrdI
import Derived.Laws.Cover3
namespace Go.Proofs.Ytbdklfcgcmdgaaa
open Go.RowKit
set_option linter.unusedVariables false
set_option linter.unusedSimpArgs false

@[go_sem ↓] theorem bs_held0 (ρ : Operand → Value) (d : Option Tmp) (ty : TypeId) (s : String) (af : Array Edge) (g : Option (Nat × Bool)) (w : World) :
    (execOp ρ { dst := d, op := .buildSlice 52 0 #[], type := ty, pos := s, after := af, guard := g }).run Try.prog w = .ok (.value (.slice (some ⟨w.heap.size, 0, none⟩) 0 0)) (w.alloc (.cells #[] 114)) := by
  obtain ⟨ht, i, z, hi, hz, h1, h2, h3, h4⟩ := app_held
  have e : Instr.fill (fun i => some (i * 56, 56)) (Array.map (fun _ => (default : Value)) (Array.range 0)) [] = some #[] := by
    simp [Instr.fill]
  simp [execOp, Instr.buildSlice, run_underlying ht, sizeOf, typeInfo, hi, h1, newRow, newObj, Sem.run, e]
@[go_sem] theorem eql_nil (w : World) (a : Option Addr) (n c : Nat) : (binOp .eql 52 (.slice a n c) (.slice none 0 0)).run Try.prog w = .ok (.bool a.isNone) w := by
  simp only [binOp]
  simp [run_equal_slice_nil w _ _ a n c Try.underlying52]
/-- a copy of a table: nothing, or a block of the call's own -/
def ClonePost (t : List Hd) (w : World) (e : Ending) (w' : World) : Prop :=
  ∃ x cap, e = .returned (.slice x t.length cap) ∧ RowR (w.heap.size ≤ ·) w' ⟨false, cellZ, t⟩ (.slice x t.length cap) ∧ RoomV (w.heap.size ≤ ·) w' (.slice x t.length cap) ∧ Below w.heap.size w w'
theorem room_own {w : World} {base : Nat} {a : Option Addr} {n cap k : Nat} {xs : List Value} (h : w.ownsRow base 114 56 (.slice a n cap) k xs) : RoomV (base ≤ ·) w (.slice a n cap) := fun x m cp e j hj => by
  cases e
  rcases h.2 with ⟨he, rfl⟩ | ⟨g, cp, cur, he, hb, hg, h1, h2, h3, -⟩
  · cases he; omega
  · cases he
    have : (j + 1) * 56 ≤ cur.size := by rw [h3]; exact Nat.mul_le_mul_right _ hj
    exact ⟨g, 0, cur, rfl, hb, hg, by omega⟩

set_option maxRecDepth 100000 in
set_option maxHeartbeats 1000000 in
theorem clone_any (S : Nat → Prop) (x : Option Addr) (m cap : Nat) (t : List Hd) (w : World) (hrd : RdHs S w x m t) (hm1 : m ≤ cap) (hm2 : cap ≤ maxLen) (hbig : m ≤ 100000) :
    Calls Try.prog 81 #[.slice x m cap] w (ClonePost t w) := by
  have hl : t.length = m := hrd.1
  have hok := hrd.2.1
  unfold maxLen at hm2
  cases x with
  | none =>
    have hm0 : m = 0 := by
      rcases Nat.eq_zero_or_pos m with h | h
      · exact h
      · obtain ⟨b, off, hx, -⟩ := hrd.whole h; cases hx
    subst hm0
    have ht : t = [] := List.eq_nil_of_length_eq_zero hl
    subst ht
    clear hrd
    go_enter Try.func81, Try.ntmps81
    go_wp2
    go_ret
    exact ⟨none, 0, rfl, rowR_nil _ _ _ rfl, RoomV.nil _ _, Below.refl _ _⟩
  | some p =>
    have HR := Lib.hid (And.intro hrd (And.intro hl hok))
    have hisn : (some p : Option Addr).isNone = false := rfl
    have hown := World.ownsRow_lit (base := w.heap.size) (size := 56) (e := 114) w #[] 0 (Nat.le_refl _) (by simp) rfl
    have hB : Below w.heap.size w (w.alloc (.cells #[] 114)) := (Below.refl _ _).alloc (Nat.le_refl _) _
    have HO := Lib.hid (And.intro hown (And.intro hB (hrd.below hB (fun _ _ h => h))))
    clear hown hB hrd hl hok
    go_enter Try.func81, Try.ntmps81
    go_wp2_with (at_builtin; refine wpList_appH app_held (by rfl) (.tmp 5) (.tmp 6) (by rfl) w.heap.size _ _ _ (by rfl) HO.out.1 (some p) m cap t (by rfl) HO.out.2.2 (by omega) (by simp) ?_; intro v1 w1 hown1 hg1 hv1; have H1 := Lib.hid (And.intro hown1 (And.intro hg1 hv1)); clear hown1 hg1 hv1)
    go_ret
    obtain ⟨h1, h2, x1, c1, rfl⟩ := H1.out
    rw [Nat.zero_add] at h1
    have hll := HR.out.2.1
    have ho : w1.ownsRow w.heap.size 114 56 (.slice x1 m c1) m (t.flatMap Hd.vals) := by simpa [flatH] using h1
    obtain ⟨a', c', he, k1, k2, k3⟩ := RdHs.of_own ho HR.out.2.2
    cases he
    subst hll
    refine ⟨_, _, by simp, ⟨_, _, _, rfl, k1, k2, k3⟩, room_own ho, HO.out.2.1.grown h2 (by simp) (fun q hq => (HO.out.1.lt q hq).1)⟩

set_option maxRecDepth 100000 in
set_option maxHeartbeats 1000000 in
theorem clip_any (x : Option Addr) (m cap : Nat) (w : World) (hm1 : m ≤ cap) (hm2 : cap ≤ maxLen) :
    Calls Try.prog 80 #[.slice x m cap] w fun e w' => e = .returned (.slice x m m) ∧ w' = w := by
  unfold maxLen at hm2
  have hcc : ((m : Nat) : Int) ≤ (m : Int) := Int.le_refl _
  cases x with
  | none =>
    go_enter Try.func80, Try.ntmps80
    go_wp2
    go_ret
    exact ⟨rfl, rfl⟩
  | some p =>
    go_enter Try.func80, Try.ntmps80
    go_wp2
    go_ret
    exact ⟨rfl, rfl⟩

/-- a row, its table in new memory, all of it its own -/
def CopyPost (r : Rw) (w : World) (e : Ending) (w' : World) : Prop := ∃ x, e = .returned (.agg (r.vals (.slice x r.t.length r.t.length)).toArray) ∧ RowX (w.heap.size ≤ ·) w' r (.slice x r.t.length r.t.length) ∧ Below w.heap.size w w'

set_option maxRecDepth 100000 in
set_option maxHeartbeats 1000000 in
theorem copy_any (S : Nat → Prop) (r : Rw) (hr : r.ok) (tv : Value) (w : World) (ht : RowR S w r tv) (hlen : r.t.length ≤ 100000) :
    Calls Try.prog 51 #[.agg (r.vals tv).toArray] w (CopyPost r w) := by
  have hst := R2.start w 54 54 r rw0 tv (.slice none 0 0)
  rw [rw0_vals] at hst
  have hvl := Rw.len hr tv
  obtain ⟨x, m, cap, rfl, t1, t2, t3⟩ := id ht
  have hml : r.t.length = m := t1.1
  go_enter Try.func51, Try.ntmps51
  go_upto_region 1 with fail
  generalize ((w.alloc (.cells (r.vals (.slice x m cap)).toArray 54)).alloc (.cells rowZ.toArray 54)) = w0 at hst ⊢
  have HS := Lib.hid hst
  obtain ⟨-, -, -, f56, -, -, fz⟩ := blk_row hst.b0 hr
  have z56 := fz 56
  have HC := Lib.hid (clone_any S x m cap r.t w0 (t1.below hst.bel (fun _ _ h => h)) t2 t3 (by omega))
  have HM := Lib.hid hml
  have hg0 : w.heap.size + 1 < w0.heap.size := by have := hst.sz; omega
  clear hst t1 ht fz hml
  go_wp2_with fail
  refine HC.out.mono ?_
  rintro e w1 ⟨x1, c1, rfl, hrow1, hroom1, hb1⟩
  rw [HM.out] at hrow1 hroom1 ⊢
  obtain ⟨x2, m2, c2, he, k1, k2, k3⟩ := hrow1
  cases he
  have b0 := HS.out.b0.below hb1 HS.out.b0.lt
  have b1 : Blk w1 (w.heap.size + 1) 54 rowZ.toArray := HS.out.b1.below hb1 HS.out.b1.lt
  obtain ⟨-, -, -, f1, -, -, fz1⟩ := blk_row b0 hr
  have z1 := fz1 56
  have hsz1 := hb1.size
  have e : (r.vals (.slice x m cap)).toArray.setIfInBounds 56 (.slice x1 m m) = (r.vals (.slice x1 m m)).toArray := by
    have hcl : r.c.length = 55 := (okL_len hr.1).trans len_cellK
    simp [Rw.vals, List.set_append, hcl]
  have n0 := b0.set_ 56 (.slice x1 m m)
  rw [e] at n0
  have n1 := b1.far (p := ⟨w.heap.size, 56, none⟩) (by simp) (.slice x1 m m)
  obtain ⟨-, -, -, -, r1, r2, -⟩ := blk_row n0 hr
  obtain ⟨-, -, r3⟩ := n1.whole len_rowZ
  have hvl2 := Rw.len hr (.slice x1 m m)
  have hvc : (r.vals (.slice x1 m m)).all cell1 = true := by
    have := okL_cell1 hr.1
    simp [Rw.vals, List.all_append] at this ⊢
    exact ⟨rfl, this, rfl⟩
  obtain ⟨p1, p2, -⟩ := (n1.put_all (l := r.vals (.slice x1 m m)) (by rw [len_rowZ, hvl2])).whole hvl2
  have hB1 : Below w.heap.size w w1 := HS.out.bel.trans (hb1.mono HS.out.bel.size)
  have hkeep : ∀ b, w0.heap.size ≤ b → b < w1.heap.size → (putRow (w1.setCell ⟨w.heap.size, 56, none⟩ (.slice x1 m m)) ⟨w.heap.size + 1, 0, none⟩ (r.vals (.slice x1 m m))).heap[b]? = w1.heap[b]? := fun b hb _ => by
    rw [putRow_other _ _ _ _ (by simp; omega)]
    exact Below.heap_setCell _ _ _ _ (by simp; omega)
  have hfin : CopyPost r w (.returned (.agg (r.vals (.slice x1 m m)).toArray)) (putRow (w1.setCell ⟨w.heap.size, 56, none⟩ (.slice x1 m m)) ⟨w.heap.size + 1, 0, none⟩ (r.vals (.slice x1 m m))) := by
    have hs0 := HS.out.bel.size
    refine ⟨x1, by rw [HM.out], ?_, Below.put (hB1.setCell (by simp) _) (by simp) _⟩
    rw [HM.out]
    refine ⟨⟨x1, m, m, rfl, (k1.keep (by simp) hkeep).mono (fun b _ h => by omega), Nat.le_refl _, by omega⟩, ?_⟩
    have hh := (RoomV.keep hroom1 hkeep).mono (S' := (w.heap.size ≤ ·)) (fun b _ h => by omega)
    intro y a b he k hk
    cases he
    exact hh x1 m c1 rfl k (by omega)
  have HF := Lib.hid (And.intro p1 (And.intro p2 hfin))
  clear p1 p2 hfin hkeep n0 n1 b0 b1 fz1 e hB1 k1 hroom1 hb1 HC HS
  have HCl := Lib.hid (clip_any x1 m c1 w1 k2 k3)
  go_wp2_with fail
  refine HCl.out.mono ?_
  rintro e w2 ⟨rfl, rfl⟩
  go_wp2_with fail
  try simp only [Exit.inBlock, Exit.then]
  first | refine bodyPost_ret (ret_row (n := 57) rfl (by kernel_rfl) _ _ _ rfl ?_) rfl ?_ | refine bodyPost_end (ret_row (n := 57) rfl (by kernel_rfl) _ _ _ rfl ?_) rfl ?_
  · exact HF.out.1
  · rw [HF.out.2.1]; exact HF.out.2.2
end Go.Proofs.Ytbdklfcgcmdgaaa
