/-
  slices.Clone, slices.Clip; words.Copy. tracks.copies; tracks.New.
-/
import Derived.Test.YtopakilglnpinaaGc29
import Derived.Laws.Cover3
import Derived.Test.YtopakilglnpinaaGc23
namespace Go.Proofs.Ytopakilglnpinaa
open Go.RowKit
set_option linter.unusedVariables false
set_option linter.unusedSimpArgs false

@[go_sem ↓] theorem bs_held0 (ρ : Operand → Value) (d : Option Tmp) (ty : TypeId) (s : String) (af : Array Edge) (g : Option (Nat × Bool)) (w : World) :
    (execOp ρ { dst := d, op := .buildSlice 52 0 #[], type := ty, pos := s, after := af, guard := g }).run Try.prog w = .ok (.value (.slice (some ⟨w.heap.size, 0, none⟩) 0 0)) (w.alloc (.cells #[] 90)) := by
  obtain ⟨ht, i, z, hi, hz, h1, h2, h3, h4⟩ := app_held
  have e : Instr.fill (fun i => some (i * 56, 56)) (Array.map (fun _ => (default : Value)) (Array.range 0)) [] = some #[] := by
    simp [Instr.fill]
  simp [execOp, Instr.buildSlice, run_underlying ht, sizeOf, typeInfo, hi, h1, newRow, newObj, Sem.run, e]
@[go_sem] theorem eql_nil (w : World) (a : Option Addr) (n c : Nat) : (binOp .eql 52 (.slice a n c) (.slice none 0 0)).run Try.prog w = .ok (.bool a.isNone) w := by
  simp only [binOp]
  simp [run_equal_slice_nil w _ _ a n c Try.underlying52]
/-- a copy of a table: nothing, or a block of the call's own -/
def ClonePost (t : List Hd) (w : World) (e : Ending) (w' : World) : Prop :=
  ∃ x cap, e = .returned (.slice x t.length cap) ∧ RowR (w.heap.size ≤ ·) w' ⟨false, cellZ, t⟩ (.slice x t.length cap) ∧ RoomV (w.heap.size ≤ ·) w' (.slice x t.length cap) ∧ Below w.heap.size w w'
set_option maxRecDepth 100000 in
set_option maxHeartbeats 1000000 in
theorem clone_any (S : Nat → Prop) (x : Option Addr) (m cap : Nat) (t : List Hd) (w : World) (hrd : RdHs S w x m t) (hm1 : m ≤ cap) (hm2 : cap ≤ maxLen) (hbig : m ≤ 100000) :
    Calls Try.prog 38 #[.slice x m cap] w (ClonePost t w) := by
  have hl : t.length = m := hrd.1
  have hok := hrd.2.1
  unfold maxLen at hm2
  cases x with
  | none =>
    have hm0 : m = 0 := by
      rcases Nat.eq_zero_or_pos m with h | h
      · exact h
      · obtain ⟨b, off, hx, -⟩ := hrd.whole h; cases hx
    subst hm0
    have ht : t = [] := List.eq_nil_of_length_eq_zero hl
    subst ht
    clear hrd
    go_enter Try.func38, Try.ntmps38
    go_wp2
    go_ret
    exact ⟨none, 0, rfl, rowR_nil _ _ _ rfl, RoomV.nil _ _, Below.refl _ _⟩
  | some p =>
    have HR := Lib.hid (And.intro hrd (And.intro hl hok))
    have hisn : (some p : Option Addr).isNone = false := rfl
    have hown := World.ownsRow_lit (base := w.heap.size) (size := 56) (e := 90) w #[] 0 (Nat.le_refl _) (by simp) rfl
    have hB : Below w.heap.size w (w.alloc (.cells #[] 90)) := (Below.refl _ _).alloc (Nat.le_refl _) _
    have HO := Lib.hid (And.intro hown (And.intro hB (hrd.below hB (fun _ _ h => h))))
    clear hown hB hrd hl hok
    go_enter Try.func38, Try.ntmps38
    go_wp2_with (at_builtin; refine wpList_appH app_held (by rfl) (.tmp 5) (.tmp 6) (by rfl) w.heap.size _ _ _ (by rfl) HO.out.1 (some p) m cap t (by rfl) HO.out.2.2 (by omega) (by simp) ?_; intro v1 w1 hown1 hg1 hv1; have H1 := Lib.hid (And.intro hown1 (And.intro hg1 hv1)); clear hown1 hg1 hv1)
    go_ret
    obtain ⟨h1, h2, x1, c1, rfl⟩ := H1.out
    rw [Nat.zero_add] at h1
    have hll := HR.out.2.1
    have ho : w1.ownsRow w.heap.size 90 56 (.slice x1 m c1) m (t.flatMap Hd.vals) := by simpa [flatH] using h1
    obtain ⟨a', c', he, k1, k2, k3⟩ := RdHs.of_own ho HR.out.2.2
    cases he
    subst hll
    refine ⟨_, _, by simp, ⟨_, _, _, rfl, k1, k2, k3⟩, room_own ho, HO.out.2.1.grown h2 (by simp) (fun q hq => (HO.out.1.lt q hq).1)⟩

set_option maxRecDepth 100000 in
set_option maxHeartbeats 1000000 in
theorem clip_any (x : Option Addr) (m cap : Nat) (w : World) (hm1 : m ≤ cap) (hm2 : cap ≤ maxLen) :
    Calls Try.prog 37 #[.slice x m cap] w fun e w' => e = .returned (.slice x m m) ∧ w' = w := by
  unfold maxLen at hm2
  have hcc : ((m : Nat) : Int) ≤ (m : Int) := Int.le_refl _
  cases x with
  | none =>
    go_enter Try.func37, Try.ntmps37
    go_wp2
    go_ret
    exact ⟨rfl, rfl⟩
  | some p =>
    go_enter Try.func37, Try.ntmps37
    go_wp2
    go_ret
    exact ⟨rfl, rfl⟩

/-- a row, its table in new memory, all of it its own -/
def CopyPost (r : Rw) (w : World) (e : Ending) (w' : World) : Prop := ∃ x, e = .returned (.agg (r.vals (.slice x r.t.length r.t.length)).toArray) ∧ RowX (w.heap.size ≤ ·) w' r (.slice x r.t.length r.t.length) ∧ Below w.heap.size w w'

set_option maxRecDepth 100000 in
set_option maxHeartbeats 1000000 in
theorem copy_any (S : Nat → Prop) (r : Rw) (hr : r.ok) (tv : Value) (w : World) (ht : RowR S w r tv) (hlen : r.t.length ≤ 100000) :
    Calls Try.prog 24 #[.agg (r.vals tv).toArray] w (CopyPost r w) := by
  have hst := R2.start w 54 54 r rw0 tv (.slice none 0 0)
  rw [rw0_vals] at hst
  have hvl := Rw.len hr tv
  obtain ⟨x, m, cap, rfl, t1, t2, t3⟩ := id ht
  have hml : r.t.length = m := t1.1
  go_enter Try.func24, Try.ntmps24
  go_upto_region 1 with fail
  generalize ((w.alloc (.cells (r.vals (.slice x m cap)).toArray 54)).alloc (.cells rowZ.toArray 54)) = w0 at hst ⊢
  have HS := Lib.hid hst
  obtain ⟨-, -, -, f56, -, -, fz⟩ := blk_row hst.b0 hr
  have z56 := fz 56
  have HC := Lib.hid (clone_any S x m cap r.t w0 (t1.below hst.bel (fun _ _ h => h)) t2 t3 (by omega))
  have HM := Lib.hid hml
  have hg0 : w.heap.size + 1 < w0.heap.size := by have := hst.sz; omega
  clear hst t1 ht fz hml
  go_wp2_with fail
  refine HC.out.mono ?_
  rintro e w1 ⟨x1, c1, rfl, hrow1, hroom1, hb1⟩
  rw [HM.out] at hrow1 hroom1 ⊢
  obtain ⟨x2, m2, c2, he, k1, k2, k3⟩ := hrow1
  cases he
  have b0 := HS.out.b0.below hb1 HS.out.b0.lt
  have b1 : Blk w1 (w.heap.size + 1) 54 rowZ.toArray := HS.out.b1.below hb1 HS.out.b1.lt
  obtain ⟨-, -, -, f1, -, -, fz1⟩ := blk_row b0 hr
  have z1 := fz1 56
  have hsz1 := hb1.size
  have e : (r.vals (.slice x m cap)).toArray.setIfInBounds 56 (.slice x1 m m) = (r.vals (.slice x1 m m)).toArray := by
    have hcl : r.c.length = 55 := (okL_len hr.1).trans len_cellK
    simp [Rw.vals, List.set_append, hcl]
  have n0 := b0.set_ 56 (.slice x1 m m)
  rw [e] at n0
  have n1 := b1.far (p := ⟨w.heap.size, 56, none⟩) (by simp) (.slice x1 m m)
  obtain ⟨-, -, -, -, r1, r2, -⟩ := blk_row n0 hr
  obtain ⟨-, -, r3⟩ := n1.whole len_rowZ
  have hvl2 := Rw.len hr (.slice x1 m m)
  have hvc : (r.vals (.slice x1 m m)).all cell1 = true := by
    have := okL_cell1 hr.1
    simp [Rw.vals, List.all_append] at this ⊢
    exact ⟨rfl, this, rfl⟩
  obtain ⟨p1, p2, -⟩ := (n1.put_all (l := r.vals (.slice x1 m m)) (by rw [len_rowZ, hvl2])).whole hvl2
  have hB1 : Below w.heap.size w w1 := HS.out.bel.trans (hb1.mono HS.out.bel.size)
  have hkeep : ∀ b, w0.heap.size ≤ b → b < w1.heap.size → (putRow (w1.setCell ⟨w.heap.size, 56, none⟩ (.slice x1 m m)) ⟨w.heap.size + 1, 0, none⟩ (r.vals (.slice x1 m m))).heap[b]? = w1.heap[b]? := fun b hb _ => by
    rw [putRow_other _ _ _ _ (by simp; omega)]
    exact Below.heap_setCell _ _ _ _ (by simp; omega)
  have hfin : CopyPost r w (.returned (.agg (r.vals (.slice x1 m m)).toArray)) (putRow (w1.setCell ⟨w.heap.size, 56, none⟩ (.slice x1 m m)) ⟨w.heap.size + 1, 0, none⟩ (r.vals (.slice x1 m m))) := by
    have hs0 := HS.out.bel.size
    refine ⟨x1, by rw [HM.out], ?_, Below.put (hB1.setCell (by simp) _) (by simp) _⟩
    rw [HM.out]
    refine ⟨⟨x1, m, m, rfl, (k1.keep (by simp) hkeep).mono (fun b _ h => by omega), Nat.le_refl _, by omega⟩, ?_⟩
    have hh := (RoomV.keep hroom1 hkeep).mono (S' := (w.heap.size ≤ ·)) (fun b _ h => by omega)
    intro y a b he k hk
    cases he
    exact hh x1 m c1 rfl k (by omega)
  have HF := Lib.hid (And.intro p1 (And.intro p2 hfin))
  clear p1 p2 hfin hkeep n0 n1 b0 b1 fz1 e hB1 k1 hroom1 hb1 HC HS
  have HCl := Lib.hid (clip_any x1 m c1 w1 k2 k3)
  go_wp2_with fail
  refine HCl.out.mono ?_
  rintro e w2 ⟨rfl, rfl⟩
  go_wp2_with fail
  try simp only [Exit.inBlock, Exit.then]
  first | refine bodyPost_ret (ret_row (n := 57) rfl (by kernel_rfl) _ _ _ rfl ?_) rfl ?_ | refine bodyPost_end (ret_row (n := 57) rfl (by kernel_rfl) _ _ _ rfl ?_) rfl ?_
  · exact HF.out.1
  · rw [HF.out.2.1]; exact HF.out.2.2
end Go.Proofs.Ytopakilglnpinaa
namespace Go.Proofs.Ytopakilglnpinaa
open Go.RowKit
set_option linter.unusedVariables false
set_option linter.unusedSimpArgs false

def cpL (l : List Rw) (n k : Nat) : List Rw := tab n fun s => if s < k then l.getD s rw0 else rw0
theorem cpL_zero (l : List Rw) (n : Nat) : List.replicate n rw0 = cpL l n 0 := by
  refine tab_ext (by simp) fun k hk => ?_
  rw [if_neg (by omega)]; simp [hk]
theorem cpL_end {l : List Rw} {n : Nat} (h : l.length = n) : cpL l n n = l := by
  refine (tab_ext h fun k hk => ?_).symm
  rw [if_pos hk, List.getD_eq_getElem?_getD, List.getElem?_eq_getElem (by omega)]; rfl
theorem cpL_set {l : List Rw} {n k : Nat} {r : Rw} (hk : k < n) (hr : l[k]? = some r) : (cpL l n k).set k r = cpL l n (k + 1) := by
  refine tab_put hk (by rw [if_pos (by omega), List.getD_eq_getElem?_getD, hr]; rfl) fun j hj hne => ?_
  by_cases h : j < k
  · rw [if_pos h, if_pos (by omega)]
  · rw [if_neg h, if_neg (by omega)]

def CopiesPost (l : List Rw) (w : World) (e : Ending) (w' : World) : Prop :=
  ∃ g, e = .returned (.slice (some ⟨g, 0, none⟩) l.length l.length) ∧ w.heap.size ≤ g ∧ RowsB (fun b => w.heap.size ≤ b ∧ b ≠ g) w' g 54 l ∧ Below w.heap.size w w'
structure CpI (w : World) (l : List Rw) (n g k : Nat) (wr : World) : Prop where
  r : RowsB (fun b => w.heap.size ≤ b ∧ b ≠ g) wr g 54 (cpL l n k)
  bel : Below w.heap.size w wr
theorem CpI.below {w : World} {l : List Rw} {n g k : Nat} {wr w' : World} (h : CpI w l n g k wr) (hb : Below wr.heap.size wr w') : CpI w l n g k w' :=
  ⟨h.r.keep hb.size (fun b _ hl => hb.block b hl), h.bel.trans (hb.mono h.bel.size)⟩
set_option maxRecDepth 100000 in
set_option maxHeartbeats 1000000 in
theorem copies_any (S : Nat → Prop) (a : Option Addr) (len cap : Nat) (l : List Rw) (w : World) (hrd : RdRs S w a len l) (hm1 : len ≤ cap) (hm2 : cap ≤ maxLen) (hlen : len ≤ 1000000) (hbt : ∀ r ∈ l, r.t.length ≤ 100000) :
    Calls Try.prog 31 #[.slice a len cap] w (CopiesPost l w) := by
  have hll := hrd.1
  have HLL := Lib.hid hrd.1
  have HR := Lib.hid (And.intro hrd hbt)
  unfold maxLen at hm2
  have HI : Hid (CpI w l len w.heap.size 0 (w.alloc (.cells (zrep rowZ len).toArray 54))) := Lib.hid ⟨by
    rw [← cpL_zero]; exact RowsB.start _ _ _ _, (Below.refl _ _).alloc (Nat.le_refl _) _⟩
  have hmk : len ≤ 1048576 := by omega
  clear hrd hbt hll
  go_enter Try.func31, Try.ntmps31
  go_wp2_with fail
  generalize hg : w.heap.size = g at HI ⊢
  have HG := Lib.hid hg
  clear hg
  generalize (w.alloc (.cells (zrep rowZ len).toArray 54)) = w0 at HI ⊢
  go_loopw [11] (fun i wr => ∃ k : Nat, k ≤ len ∧ i = .int .i64 k ∧ CpI w l len g k wr) (fun i _ => len - (intOf i).toNat)
  case atStart => exact ⟨0, by omega, rfl, HI.out⟩
  case round =>
    obtain ⟨k, hk, rfl, hI⟩ := hrel
    have HJ := Lib.hid hI
    clear hI
    by_cases hlt : k < len
    · obtain ⟨b, off, x, m, cp, r, rfl, -, hbw, hl, hok, -, -, g1, g2, -, -, g5, g6, g7⟩ := (HR.out.1.below HJ.out.bel (fun b _ h => h)).at_ k hlt
      obtain ⟨xv, hxv⟩ : ∃ xv, xv = r.vals (.slice x m cp) := ⟨_, rfl⟩
      have g3 : rowOf wr ⟨b, off + k * 57, none⟩ 57 = xv := by rw [hxv]; exact g2
      have hvl : xv.length = 57 := by rw [hxv]; exact Rw.len hok _
      have htk : List.take 57 xv = xv := List.take_of_length_le (by omega)
      have hvc : xv.all cell1 = true := by rw [hxv]; exact RowR.cell1 (S := S) (w := wr) ⟨x, m, cp, rfl, g5, g6, g7⟩ hok
      have HT : Hid (RowR S (wr.alloc (.cells xv.toArray 54)) r (.slice x m cp)) := Lib.hid ⟨x, m, cp, rfl, g5.below ((Below.refl wr.heap.size wr).alloc (Nat.le_refl _) _) (fun b _ h => h), g6, g7⟩
      have HC := Lib.hid (copy_any S r hok (.slice x m cp) _ HT.out (HR.out.2 r (List.mem_of_getElem? hl)))
      rw [← hxv] at HC
      have HX := Lib.hid (And.intro hl hok)
      have H6 := Lib.hid (HJ.out.below ((Below.refl wr.heap.size wr).alloc (Nat.le_refl _) (.cells xv.toArray 54)))
      have HLT := Lib.hid hlt
      clear hl hok g2 g5 g6 g7 hxv
      go_wp2_with fail
      (with_reducible refine HC.out.mono ?_)
      rintro e w7 ⟨x', rfl, hx', hb7⟩
      have H7 := Lib.hid (H6.out.below hb7)
      have c3 : canPut w7 ⟨g, k * 57, none⟩ 57 = true := H7.out.r.canPut k (by rw [cpL, tab_len]; exact HLT.out)
      have HGS : Hid (w.heap.size ≤ wr.heap.size ∧ g < wr.heap.size) := Lib.hid ⟨HJ.out.bel.size, HJ.out.r.lt⟩
      obtain ⟨yv, hyv⟩ : ∃ yv, yv = r.vals (.slice x' r.t.length r.t.length) := ⟨_, rfl⟩
      rw [← hyv]
      have hyl : yv.length = 57 := by rw [hyv]; exact Rw.len HX.out.2 _
      have hyc : yv.all cell1 = true := by rw [hyv]; exact hx'.1.cell1 HX.out.2
      have HEND : Hid (CpI w l len g (k + 1) (putRow w7 ⟨g, k * 57, none⟩ yv)) := Lib.hid (by
        have hs := HGS.out
        have hgw := HG.out
        have hmo : ∀ b, b < w7.heap.size → (wr.alloc (.cells xv.toArray 54)).heap.size ≤ b → w.heap.size ≤ b ∧ b ≠ g := fun b _ h => by
          have h' : wr.heap.size + 1 ≤ b := by simpa using h
          exact ⟨by omega, by omega⟩
        have h1 := H7.out.r.set (fun b hb => hb.2) (k := k) (by rw [cpL, tab_len]; exact HLT.out) HX.out.2 (hx'.mono (S' := fun b => w.heap.size ≤ b ∧ b ≠ g) hmo)
        rw [cpL_set HLT.out HX.out.1, ← hyv] at h1
        exact ⟨h1, Below.put H7.out.bel (p := ⟨g, k * 57, none⟩) (by show w.heap.size ≤ g; omega) _⟩)
      clear hx' hb7 hyv HX H7
      go_wp2_with fail
      exact ⟨⟨k + 1, by omega, by go_num, HEND.out⟩, by simp [intOf]; omega⟩
    · obtain rfl : k = len := by omega
      go_wp2_with fail
      go_ret
      have h1 := HJ.out.r
      rw [cpL_end HLL.out] at h1
      refine ⟨g, by rw [HLL.out]; rfl, by rw [HG.out]; exact Nat.le_refl _, h1, HJ.out.bel⟩
end Go.Proofs.Ytopakilglnpinaa
