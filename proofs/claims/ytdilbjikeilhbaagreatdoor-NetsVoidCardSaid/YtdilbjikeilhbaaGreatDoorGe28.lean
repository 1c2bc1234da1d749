/-
  Configs (chapter 4): rules 5 and 10. Configs (chapter 4): rule 7. Configs (chapter 4): rule 9; the list of rules.
-/
import Derived.Test.YtdilbjikeilhbaaGreatDoorGe26
import Derived.Deep.RegionHeld3
namespace Go.Proofs.YtdilbjikeilhbaaGreatDoor
open Go.RowKit
set_option linter.unusedVariables false
set_option linter.unusedSimpArgs false

theorem rdz3 (w : World) (x y z : Int) : RdZ (fun _ => True) (w.alloc (.cells #[.int .i64 x, .int .i64 y, .int .i64 z] 3)) (some ⟨w.heap.size, 0, none⟩) 3 [x, y, z] := by
  refine ⟨rfl, fun k v hv => ⟨w.heap.size, 0, rfl, trivial, by simp, ?_⟩⟩
  have hB := Blk.new w 3 #[.int .i64 x, .int .i64 y, .int .i64 z]
  match k, hv with
  | 0, hv => simp at hv; subst hv; exact hB.cell 0
  | 1, hv => simp at hv; subst hv; exact hB.cell 1
  | 2, hv => simp at hv; subst hv; exact hB.cell 2
  | n + 3, hv => simp at hv
set_option maxRecDepth 100000 in
set_option maxHeartbeats 1000000 in
theorem r10_any (A : CfA) (c : Cfg) (w : World) : Calls Tryz.prog 74 #[.agg (cfV A c).toArray] w (RuS (eachE 1 100 [c.mi, c.go, c.fr]) w) := by
  obtain ⟨pa, pn, pc, sa, sn, sc, ba, bn, bc, ta, tn, tc⟩ := A
  obtain ⟨cv, hcv⟩ : ∃ cv, cv = cfV ⟨pa, pn, pc, sa, sn, sc, ba, bn, bc, ta, tn, tc⟩ c := ⟨_, rfl⟩
  rw [← hcv]
  have HCV := Lib.hid hcv
  clear hcv
  go_enter Tryz.func74, Tryz.ntmps74
  go_upto_region 1 with fail
  have HB0 : Hid (Below w.heap.size w (w.alloc (.cells cv.toArray 25)) ∧ Blk (w.alloc (.cells cv.toArray 25)) w.heap.size 25 cv.toArray) := Lib.hid ⟨(Below.refl _ _).alloc (Nat.le_refl _) _, Blk.new _ _ _⟩
  generalize w.alloc (.cells cv.toArray 25) = w0 at HB0 ⊢
  rw [HCV.out] at HB0
  obtain ⟨c0, c1, c2, c3, c4, c5, c6, c7, c8⟩ := cfV_cells HB0.out.2
  have c0 : w0.cell? ⟨w.heap.size, 0, none⟩ = some (.int .i64 c.N) := c0
  have c1 : w0.cell? ⟨w.heap.size, 1, none⟩ = some (.slice pa pn pc) := c1
  have c2 : w0.cell? ⟨w.heap.size, 2, none⟩ = some (.slice sa sn sc) := c2
  have c3 : w0.cell? ⟨w.heap.size, 3, none⟩ = some (.int .i64 c.lo) := c3
  have c4 : w0.cell? ⟨w.heap.size, 4, none⟩ = some (.slice ba bn bc) := c4
  have c5 : w0.cell? ⟨w.heap.size, 5, none⟩ = some (.slice ta tn tc) := c5
  have c6 : w0.cell? ⟨w.heap.size, 6, none⟩ = some (.int .i64 c.mi) := c6
  have c7 : w0.cell? ⟨w.heap.size, 7, none⟩ = some (.int .i64 c.go) := c7
  have c8 : w0.cell? ⟨w.heap.size, 8, none⟩ = some (.int .i64 c.fr) := c8
  have HW := Lib.hid (eachI_any _ _ 3 3 [c.mi, c.go, c.fr] 1 100 _ (rdz3 w0 c.mi c.go c.fr) (by omega) (by unfold maxLen; omega))
  have HB2 : Hid (Below w.heap.size w (w0.alloc (.cells #[.int .i64 c.mi, .int .i64 c.go, .int .i64 c.fr] 3))) := Lib.hid (HB0.out.1.alloc (by have := HB0.out.2.lt; omega) _)
  have hs2 : w.heap.size ≤ (w0.alloc (.cells #[.int .i64 c.mi, .int .i64 c.go, .int .i64 c.fr] 3)).heap.size := HB2.out.size
  have HS2 := Lib.hid hs2
  clear hs2
  go_wp2_with fail
  (with_reducible refine HW.out.mono ?_)
  rintro e w' ⟨rfl, hb⟩
  have HB3 := Lib.hid (HB2.out.trans (hb.mono HS2.out))
  clear hb
  go_wp2_with fail
  go_ret
  exact ⟨rfl, HB3.out⟩
def coverB (n : Nat) (l : List Int) : Bool := (List.range n).all fun i => hasB (i : Int) l
theorem coverB_succ (n : Nat) (l : List Int) : coverB (n + 1) l = (coverB n l && hasB (n : Int) l) := by simp [coverB, List.range_succ, List.all_append]
set_option maxRecDepth 100000 in
set_option maxHeartbeats 1000000 in
theorem r5_any (S : Nat → Prop) (A : CfA) (c : Cfg) (w : World) (h : CfR S w A c) (hbig : A.pn ≤ 1000) : Calls Tryz.prog 66 #[.agg (cfV A c).toArray] w (RuS (mustE (insideB (A.pn : Int) c.Sl && coverB A.pn c.Sl)) w) := by
  obtain ⟨pa, pn, pc, sa, sn, sc, ba, bn, bc, ta, tn, tc⟩ := A
  have HRR := Lib.hid h
  obtain ⟨-, ⟨hm1, hm2⟩, -⟩ := h.cp
  simp only at hm1 hm2 hbig
  clear h
  obtain ⟨cv, hcv⟩ : ∃ cv, cv = cfV ⟨pa, pn, pc, sa, sn, sc, ba, bn, bc, ta, tn, tc⟩ c := ⟨_, rfl⟩
  rw [← hcv]
  have HCV := Lib.hid hcv
  clear hcv
  go_enter Tryz.func66, Tryz.ntmps66
  go_upto_region 1 with fail
  have HB0 : Hid (Below w.heap.size w (w.alloc (.cells cv.toArray 25)) ∧ Blk (w.alloc (.cells cv.toArray 25)) w.heap.size 25 cv.toArray) := Lib.hid ⟨(Below.refl _ _).alloc (Nat.le_refl _) _, Blk.new _ _ _⟩
  generalize w.alloc (.cells cv.toArray 25) = w0 at HB0 ⊢
  rw [HCV.out] at HB0
  obtain ⟨c0, c1, c2, c3, c4, c5, c6, c7, c8⟩ := cfV_cells HB0.out.2
  have c0 : w0.cell? ⟨w.heap.size, 0, none⟩ = some (.int .i64 c.N) := c0
  have c1 : w0.cell? ⟨w.heap.size, 1, none⟩ = some (.slice pa pn pc) := c1
  have c2 : w0.cell? ⟨w.heap.size, 2, none⟩ = some (.slice sa sn sc) := c2
  have c3 : w0.cell? ⟨w.heap.size, 3, none⟩ = some (.int .i64 c.lo) := c3
  have c4 : w0.cell? ⟨w.heap.size, 4, none⟩ = some (.slice ba bn bc) := c4
  have c5 : w0.cell? ⟨w.heap.size, 5, none⟩ = some (.slice ta tn tc) := c5
  have c6 : w0.cell? ⟨w.heap.size, 6, none⟩ = some (.int .i64 c.mi) := c6
  have c7 : w0.cell? ⟨w.heap.size, 7, none⟩ = some (.int .i64 c.go) := c7
  have c8 : w0.cell? ⟨w.heap.size, 8, none⟩ = some (.int .i64 c.fr) := c8
  have HI := Lib.hid (inside_any S sa sn sc c.Sl (pn : Int) w0 (HRR.out.below HB0.out.1).s hm1 hm2)
  have hw0 : w.heap.size < w0.heap.size := HB0.out.2.lt
  have HM := Lib.hid fun b w => must_any b w
  obtain ⟨b1, hb1⟩ : ∃ b, Hid (b = insideB (pn : Int) c.Sl) := ⟨_, Lib.hid rfl⟩
  rw [← hb1.out] at HI
  have HX := Lib.hid (And.intro hm1 hm2)
  clear hm1 hm2
  go_upto_region 2 with fail
  (with_reducible refine HI.out.mono ?_)
  rintro e w1 ⟨rfl, hB1⟩
  have HB1 : Hid (Below w0.heap.size w0 w1) := Lib.hid hB1
  have c1a : w1.cell? ⟨w.heap.size, 1, none⟩ = some (.slice pa pn pc) := (hB1.cell (p := ⟨w.heap.size, 1, none⟩) hw0).trans c1
  have HC2 := Lib.hid c2
  clear hB1 c0 c1 c2 c3 c4 c5 c6 c7 c8
  go_wp2_with fail
  go_loopw [14, 3] (fun i v wr => ∃ k : Nat, k ≤ pn ∧ i = .int .i64 k ∧ v = .bool (b1 && coverB k c.Sl) ∧ wr = w1) (fun i _ _ => pn - (intOf i).toNat)
  case atStart => exact ⟨0, by omega, rfl, by simp [coverB], rfl⟩
  case round =>
    obtain ⟨k, hk, rfl, rfl, rfl⟩ := hrel
    obtain ⟨q, hq⟩ : ∃ q, Hid (q = (b1 && coverB k c.Sl)) := ⟨_, Lib.hid rfl⟩
    rw [← hq.out]
    by_cases hlt : k < pn
    · have hlt' : (k : Int) < pn := by omega
      have hk0 : (0 : Int) ≤ k := by omega
      have c2a : wr.cell? ⟨w.heap.size, 2, none⟩ = some (.slice sa sn sc) := (HB1.out.cell (p := ⟨w.heap.size, 2, none⟩) hw0).trans HC2.out
      have HK := Lib.hid (contains_any S sa sn sc c.Sl (k : Int) wr (((HRR.out.below HB0.out.1).s).below HB1.out) HX.out.1 HX.out.2)
      obtain ⟨b2, hb2⟩ : ∃ b, Hid (b = hasB (k : Int) c.Sl) := ⟨_, Lib.hid rfl⟩
      rw [← hb2.out] at HK
      cases q
      · go_wp2_with fail
        go_roundw
        case rel => exact ⟨k + 1, by omega, by simp, by rw [coverB_succ, ← Bool.and_assoc, ← hq.out]; rfl, trivial⟩
        case measure => simp [intOf]; omega
      · go_wp2_with fail
        (with_reducible refine HK.out.mono ?_)
        rintro e w2 ⟨rfl, rfl⟩
        go_wp2_with fail
        go_roundw
        case rel => exact ⟨k + 1, by omega, by simp, by rw [coverB_succ, ← Bool.and_assoc, ← hq.out, ← hb2.out]; rfl, trivial⟩
        case measure => simp [intOf]; omega
    · obtain rfl : k = pn := by omega
      go_wp2_with fail
      (with_reducible refine (HM.out q wr).mono ?_)
      rintro e w2 ⟨rfl, rfl⟩
      go_wp2_with fail
      go_ret
      exact ⟨by rw [← hb1.out, ← hq.out]; rfl, HB0.out.1.trans (HB1.out.mono (by omega))⟩
end Go.Proofs.YtdilbjikeilhbaaGreatDoor
namespace Go.Proofs.YtdilbjikeilhbaaGreatDoor
open Go.RowKit
set_option linter.unusedVariables false
set_option linter.unusedSimpArgs false

theorem rdz2 (w : World) (x y : Int) : RdZ (fun _ => True) (w.alloc (.cells #[.int .i64 x, .int .i64 y] 35)) (some ⟨w.heap.size, 0, none⟩) 2 [x, y] := by
  refine ⟨rfl, fun k v hv => ⟨w.heap.size, 0, rfl, trivial, by simp, ?_⟩⟩
  have hB := Blk.new w 35 #[.int .i64 x, .int .i64 y]
  match k, hv with
  | 0, hv => simp at hv; subst hv; exact hB.cell 0
  | 1, hv => simp at hv; subst hv; exact hB.cell 1
  | n + 2, hv => simp at hv
theorem first2_any (x y : Int) (w : World) : Calls Tryz.prog 70 #[.slice (some ⟨w.heap.size, 0, none⟩) 2 2] (w.alloc (.cells #[.int .i64 x, .int .i64 y] 35)) fun e w' => e = .returned (.int .i64 (firstE [x, y])) ∧ Below w.heap.size w w' := by
  refine (first_any _ _ 2 2 [x, y] _ (rdz2 w x y) (by omega) (by unfold maxLen; omega)).mono ?_
  rintro e w' ⟨rfl, rfl⟩
  exact ⟨rfl, (Below.refl _ _).alloc (Nat.le_refl _) _⟩
set_option maxRecDepth 100000 in
set_option maxHeartbeats 1000000 in
theorem r7_any (S : Nat → Prop) (A : CfA) (c : Cfg) (w : World) (h : CfR S w A c) : Calls Tryz.prog 69 #[.agg (cfV A c).toArray] w (RuS (firstE [mustE (decide ((A.bn : Int) = c.N)), eachE 0 4096 c.B]) w) := by
  obtain ⟨pa, pn, pc, sa, sn, sc, ba, bn, bc, ta, tn, tc⟩ := A
  have HRR := Lib.hid h
  obtain ⟨-, -, ⟨hm1, hm2⟩, -⟩ := h.cp
  simp only at hm1 hm2
  clear h
  obtain ⟨cv, hcv⟩ : ∃ cv, cv = cfV ⟨pa, pn, pc, sa, sn, sc, ba, bn, bc, ta, tn, tc⟩ c := ⟨_, rfl⟩
  rw [← hcv]
  have HCV := Lib.hid hcv
  clear hcv
  go_enter Tryz.func69, Tryz.ntmps69
  go_upto_region 1 with fail
  have HB0 : Hid (Below w.heap.size w (w.alloc (.cells cv.toArray 25)) ∧ Blk (w.alloc (.cells cv.toArray 25)) w.heap.size 25 cv.toArray) := Lib.hid ⟨(Below.refl _ _).alloc (Nat.le_refl _) _, Blk.new _ _ _⟩
  generalize w.alloc (.cells cv.toArray 25) = w0 at HB0 ⊢
  rw [HCV.out] at HB0
  obtain ⟨c0, c1, c2, c3, c4, c5, c6, c7, c8⟩ := cfV_cells HB0.out.2
  have c0 : w0.cell? ⟨w.heap.size, 0, none⟩ = some (.int .i64 c.N) := c0
  have c1 : w0.cell? ⟨w.heap.size, 1, none⟩ = some (.slice pa pn pc) := c1
  have c2 : w0.cell? ⟨w.heap.size, 2, none⟩ = some (.slice sa sn sc) := c2
  have c3 : w0.cell? ⟨w.heap.size, 3, none⟩ = some (.int .i64 c.lo) := c3
  have c4 : w0.cell? ⟨w.heap.size, 4, none⟩ = some (.slice ba bn bc) := c4
  have c5 : w0.cell? ⟨w.heap.size, 5, none⟩ = some (.slice ta tn tc) := c5
  have c6 : w0.cell? ⟨w.heap.size, 6, none⟩ = some (.int .i64 c.mi) := c6
  have c7 : w0.cell? ⟨w.heap.size, 7, none⟩ = some (.int .i64 c.go) := c7
  have c8 : w0.cell? ⟨w.heap.size, 8, none⟩ = some (.int .i64 c.fr) := c8
  have hw0 : w.heap.size < w0.heap.size := HB0.out.2.lt
  have HE : Hid (∀ w', Below w0.heap.size w0 w' → Calls Tryz.prog 71 #[.slice ba bn bc, .int .i64 0, .int .i64 4096] w' fun e w'' => e = .returned (.int .i64 (eachE 0 4096 c.B)) ∧ Below w0.heap.size w0 w'') := Lib.hid fun w' hb => by
    refine (eachI_any _ ba bn bc c.B 0 4096 w' (((HRR.out.below HB0.out.1).b).below hb) hm1 hm2).mono ?_
    rintro e w'' ⟨rfl, hb2⟩
    exact ⟨rfl, hb.trans (hb2.mono hb.size)⟩
  have HM := Lib.hid fun b w => must_any b w
  have HF := Lib.hid fun x y w => first2_any x y w
  obtain ⟨q, hq⟩ : ∃ q, Hid (q = eachE 0 4096 c.B) := ⟨_, Lib.hid rfl⟩
  rw [← hq.out] at HE
  obtain ⟨N, hN⟩ : ∃ N, Hid (N = c.N) := ⟨_, Lib.hid rfl⟩
  have c0 : w0.cell? ⟨w.heap.size, 0, none⟩ = some (.int .i64 N) := by rw [hN.out]; exact c0
  have FA : Hid (∀ w', Below w0.heap.size w0 w' → w'.cell? ⟨w.heap.size, 4, none⟩ = some (.slice ba bn bc) ∧ w'.cell? ⟨w.heap.size, 0, none⟩ = some (.int .i64 N)) := Lib.hid fun w' hb => ⟨(hb.cell (p := ⟨w.heap.size, 4, none⟩) hw0).trans c4, (hb.cell (p := ⟨w.heap.size, 0, none⟩) hw0).trans c0⟩
  have c4' := c4
  have c0' := c0
  clear hm1 hm2 c1 c2 c3 c5 c6 c7 c8
  go_region_held3 (fun w' => w'.cell? ⟨w.heap.size, 4, none⟩ = some (.slice ba bn bc) ∧ w'.cell? ⟨w.heap.size, 0, none⟩ = some (.int .i64 N))
    (with_reducible (first | assumption | exact FA.out _ (Below.refl _ _).drew | exact FA.out _ HB2.out | exact FA.out _ (HB2.out.alloc HB2.out.size _) | exact FA.out _ (HB2.out.trans (HB3.out.mono HB2.out.size))))
    ((first
      | (go_at_call 61; refine (HM.out _ _).mono ?_; rintro e w1 ⟨rfl, rfl⟩)
      | (go_at_call 71; refine (HE.out _ (Below.refl _ _).drew).mono ?_; rintro e w2 ⟨rfl, hb2⟩; have HB2 := Lib.hid hb2; clear hb2)
      | (go_at_call 70; refine (HF.out _ _ _).mono ?_; rintro e w3 ⟨rfl, hb3⟩; have HB3 := Lib.hid hb3; clear hb3)))
  go_wp2_with fail
  go_ret
  exact ⟨by rw [← hN.out, ← hq.out]; rfl, HB0.out.1.trans ((HB2.out.trans (HB3.out.mono HB2.out.size)).mono (by omega))⟩
end Go.Proofs.YtdilbjikeilhbaaGreatDoor
namespace Go.Proofs.YtdilbjikeilhbaaGreatDoor
open Go.RowKit
set_option linter.unusedVariables false
set_option linter.unusedSimpArgs false

def stOk (c : Cfg) : Prop := ∀ s ∈ c.St, 0 ≤ s.1 ∧ s.1 < c.N ∧ 1 ≤ s.2.2 ∧ s.2.2 ≤ 100
theorem RdSt.row {S : Nat → Prop} {w : World} {x : Option Addr} {m : Nat} {l : List (Int × Int × Int)} (h : RdSt S w x m l) {k : Nat} (hk : k < m) :
    ∃ b off s, x = some ⟨b, off, none⟩ ∧ S b ∧ b < w.heap.size ∧ l[k]? = some s ∧ hasRow w ⟨b, off + k * 3, none⟩ 3 = true ∧ rowOf w ⟨b, off + k * 3, none⟩ 3 = stv s := by
  obtain ⟨h1, h3⟩ := h
  have hkk : l[k]? = some (l[k]'(by omega)) := List.getElem?_eq_getElem (by omega)
  obtain ⟨b, off, hx, hS, hb, hr1, hr2, hr3⟩ := h3 k _ hkk
  refine ⟨b, off, _, hx, hS, hb, hkk, ?_⟩
  exact row_of_cells (w := w) (p := ⟨b, off + k * 3, none⟩) (l := stv (l[k]'(by omega))) (fun j v hv => by
    have hj : j < 3 := by have := (List.getElem?_eq_some_iff.1 hv).1; simpa [stv] using this
    rw [add_at]
    have hm3 : j = 0 ∨ j = 1 ∨ j = 2 := by omega
    rcases hm3 with rfl | rfl | rfl
    · rw [Nat.add_zero, hr1]; exact hv
    · rw [hr2]; exact hv
    · rw [hr3]; exact hv)
theorem ag_st : aggOf Tryz.prog 183 3 = true := by kernel_rfl
@[go_sem ↓] theorem ld_st (ρ : Operand → Value) (d : Option Tmp) (x : Operand) (ty : TypeId) (s : String) (af : Array Edge) (g : Option (Nat × Bool)) (w : World) (h : hasRowV w 3 (ρ x) = true) :
    (execOp ρ { dst := d, op := .load 183 x, type := ty, pos := s, after := af, guard := g }).run Tryz.prog w = .ok (.value (.agg (rowV w 3 (ρ x)).toArray)) w := exec_load ag_st ρ d x ty s af g w h
@[go_sem ↓] theorem st_st (ρ : Operand → Value) (d : Option Tmp) (x y : Operand) (ty : TypeId) (s : String) (af : Array Edge) (g : Option (Nat × Bool)) (w : World) (h1 : okAgg 3 (ρ y) = true) (h2 : canPutV w 3 (ρ x) = true) :
    (execOp ρ { dst := d, op := .store 183 x y, type := ty, pos := s, after := af, guard := g }).run Tryz.prog w = .ok .skip (putV w (ρ x) (ρ y)) := exec_store ag_st ρ d x y ty s af g w h1 h2
def ruleFs : List Nat := [57, 59, 60, 65, 66, 68, 69, 72, 73, 74]
set_option maxRecDepth 100000 in
set_option maxHeartbeats 1000000 in
theorem rules_any (w : World) : Calls Tryz.prog 31 #[] w fun e w' => e = .returned (.slice (some ⟨w.heap.size, 0, none⟩) 10 10) ∧ Blk w' w.heap.size 157 ((ruleFs.map fun f => Value.func (.func f) #[] #[]).toArray) ∧ Below w.heap.size w w' := by
  go_enter Tryz.func31, Tryz.ntmps31
  go_wp2
  go_ret
  exact ⟨rfl, Blk.new _ _ _, (Below.refl _ _).alloc (Nat.le_refl _) _⟩
end Go.Proofs.YtdilbjikeilhbaaGreatDoor
