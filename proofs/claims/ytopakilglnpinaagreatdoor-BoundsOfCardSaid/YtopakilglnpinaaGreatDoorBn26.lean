
/-
  Configs (chapter 4): the document's answer: pairs.
-/
import Derived.Test.YtopakilglnpinaaGreatDoorBn25
namespace Go.Proofs.YtopakilglnpinaaGreatDoor
open Go.RowKit
set_option linter.unusedVariables false
set_option linter.unusedSimpArgs false

theorem mk_boolB : MakeOk Tryz.prog 55 4 [.bool false] := ⟨Tryz.underlying55, by kernel_rfl, by decide⟩
@[go_sem ↓] theorem ms_boolB (ρ : Operand → Value) (d : Option Tmp) (x y : Operand) (ty : TypeId) (s : String) (af : Array Edge) (g : Option (Nat × Bool)) (w : World) (h : madeOk (ρ x) (ρ y) = true) :
    (execOp ρ { dst := d, op := .makeSlice 55 x y, type := ty, pos := s, after := af, guard := g }).run Tryz.prog w =
      .ok (.value (.slice (some ⟨w.heap.size, 0, none⟩) (lenV (ρ x)) (lenV (ρ x)))) (w.alloc (.cells (zrep [.bool false] (lenV (ρ x))).toArray 4)) := exec_make mk_boolB ρ d x y ty s af g w h
def RetB (P : Prop) (w : World) (e : Ending) (w' : World) : Prop := ∃ b : Bool, e = .returned (.bool b) ∧ (b = true → P) ∧ Below w.heap.size w w'
/-- the first k pairs are such as may be -/
def PairPre (N : Int) (P : List Int) (k : Nat) : Prop := ∀ i a, i < k → P[i]? = some a → (0 ≤ a ∧ a < N) ∧ (∀ p, 0 < i → P[i - 1]? = some p → p < a) ∧ a ∉ halvesL N (P.take i) ∧ stepE N a ∉ halvesL N (P.take i)
theorem pairPre_step {N : Int} {P : List Int} {k : Nat} {z : Int} (h : PairPre N P k) (hz : P[k]? = some z) (h0 : 0 ≤ z) (h1 : z < N) (hp : ∀ p, 0 < k → P[k - 1]? = some p → p < z) (hn1 : z ∉ halvesL N (P.take k)) (hn2 : stepE N z ∉ halvesL N (P.take k)) : PairPre N P (k + 1) := by
  intro i a hi ha
  by_cases hik : i < k
  · exact h i a hik ha
  · obtain rfl : i = k := by omega
    rw [hz] at ha
    cases ha
    exact ⟨⟨h0, h1⟩, hp, hn1, hn2⟩
theorem RetB.no {P : Prop} {w w' : World} (h : Below w.heap.size w w') : RetB P w (.returned (.bool false)) w' := ⟨false, rfl, (fun h => by cases h), h⟩
/-- which numbers are told -/
def usedV (n : Nat) (H : List Int) : List Value := (List.range n).map fun i : Nat => Value.bool (decide ((i : Int) ∈ H))
theorem usedV_nil (n : Nat) : zrep [Value.bool false] n = usedV n [] := by
  simp [usedV, zrep, List.flatMap_singleton', List.map_const']
theorem usedV_at {n : Nat} {H : List Int} {y : Nat} (h : y < n) : (usedV n H).toArray[y]? = some (.bool (decide ((y : Int) ∈ H))) := by
  simp [usedV, h]
theorem usedV_set {n : Nat} {H : List Int} {y : Nat} : (usedV n H).set y (.bool true) = usedV n (H ++ [(y : Int)]) := by
  apply List.ext_getElem?
  intro k
  rw [List.getElem?_set]
  by_cases hk : k < n
  · simp only [usedV, List.length_map, List.length_range, List.getElem?_map, List.getElem?_range hk, Option.map_some, List.mem_append, List.mem_singleton]
    by_cases hy : y = k
    · subst hy
      simp [hk]
    · rw [if_neg hy]
      have : ¬ (k : Int) = y := by omega
      simp [this]
  · simp [usedV, hk]
    intro h
    omega
set_option maxRecDepth 100000 in
set_option maxHeartbeats 2000000 in
theorem rpairs_any (S : Nat → Prop) (A : CfA) (c : Cfg) (w : World) (h : CfR S w A c) (hN : 4 ≤ c.N ∧ c.N ≤ 16) (hP : c.P.length ≤ 8) : Calls Tryz.prog 34 #[.agg (cfV A c).toArray] w (RetB (PairOk c.N c.P) w) := by
  obtain ⟨pa, pn, pc, sa, sn, sc, ba, bn, bc, ta, tn, tc⟩ := A
  have HR := Lib.hid h.p
  have hpl : c.P.length = pn := h.p.1
  have hm2 := h.cp.1.2
  unfold maxLen at hm2
  simp only at HR hm2
  have hm1 : pn ≤ pc := h.cp.1.1
  obtain ⟨N, hN0⟩ : ∃ N : Nat, Hid (c.N = N) := ⟨c.N.toNat, Lib.hid (by omega)⟩
  have hN4 : 4 ≤ N := by have := hN0.out; omega
  have hN16 : N ≤ 16 := by have := hN0.out; omega
  rw [hN0.out]
  obtain ⟨cv, hcv⟩ : ∃ cv, cv = cfV ⟨pa, pn, pc, sa, sn, sc, ba, bn, bc, ta, tn, tc⟩ c := ⟨_, rfl⟩
  rw [← hcv]
  have HCV := Lib.hid hcv
  clear hcv h hN
  go_enter Tryz.func34, Tryz.ntmps34
  go_upto_region 1 with fail
  have HB0 : Hid (Below w.heap.size w (w.alloc (.cells cv.toArray 25)) ∧ Blk (w.alloc (.cells cv.toArray 25)) w.heap.size 25 cv.toArray) := Lib.hid ⟨(Below.refl _ _).alloc (Nat.le_refl _) _, Blk.new _ _ _⟩
  generalize w.alloc (.cells cv.toArray 25) = w0 at HB0 ⊢
  rw [HCV.out] at HB0
  have hw0 : w.heap.size < w0.heap.size := HB0.out.2.lt
  have H1 : Hid (Below w0.heap.size w0 (w0.alloc (.cells (zrep [Value.bool false] 16).toArray 4)) ∧ Blk (w0.alloc (.cells (zrep [Value.bool false] 16).toArray 4)) w0.heap.size 4 (usedV 16 (halvesL N (c.P.take 0))).toArray) := Lib.hid ⟨(Below.refl _ _).alloc (Nat.le_refl _) _, by
    rw [show halvesL N (c.P.take 0) = [] from rfl, ← usedV_nil]; exact Blk.new _ _ _⟩
  have hmk : madeOk (.int .i64 16) (.int .i64 16) = true := by decide
  have hlv : lenV (.int .i64 16) = 16 := by decide
  go_upto_region 2 with fail
  generalize w0.alloc (.cells (zrep [Value.bool false] 16).toArray 4) = w1 at H1 ⊢
  go_wp2_with fail
  go_loopw [4, 5, 6] (fun i _ _ wr => ∃ k : Nat, k ≤ pn ∧ i = .int .i64 k ∧ Hid (Below w0.heap.size w0 wr ∧ Blk wr w0.heap.size 4 (usedV 16 (halvesL N (c.P.take k))).toArray ∧ PairPre N c.P k)) (fun i _ _ _ => pn - (intOf i).toNat)
  case atStart => exact ⟨0, by omega, rfl, Lib.hid ⟨H1.out.1, H1.out.2, fun i a h => absurd h (by omega)⟩⟩
  case round =>
    obtain ⟨k, hk, rfl, HK⟩ := hrel
    obtain ⟨c0, c1, -⟩ := cfV_cells (HB0.out.2.below HK.out.1 hw0)
    replace c1 : wr.cell? ⟨w.heap.size, 1, none⟩ = some (.slice pa pn pc) := c1
    replace c0 : wr.cell? ⟨w.heap.size, 0, none⟩ = some (.int .i64 c.N) := c0
    rw [hN0.out] at c0
    have HNO : Hid (RetB (PairOk N c.P) w (.returned (.bool false)) wr) := Lib.hid (RetB.no (HB0.out.1.trans (HK.out.1.mono HB0.out.1.size)))
    clear H1
    by_cases hlt : k < pn
    · obtain ⟨b, off, z, rfl, -, hbl, hz, hc⟩ := HR.out.at_ hlt
      have hlt' : (k : Int) < pn := by omega
      have hk0 : (0 : Int) ≤ k := by omega
      have HZ := Lib.hid hz
      have hcz := ((HB0.out.1.trans (HK.out.1.mono HB0.out.1.size)).cell (p := ⟨b, off + k, none⟩) hbl).trans hc
      clear hc hz
      by_cases hz0 : z < 0
      · go_wp2_with fail
        go_ret
        exact HNO.out
      · obtain ⟨y, rfl⟩ : ∃ y : Nat, z = y := ⟨z.toNat, by omega⟩
        by_cases hzn : (N : Int) ≤ y
        · go_wp2_with fail
          go_ret
          exact HNO.out
        · have hyn : y < N := by omega
          by_cases hk1 : 0 < k
          · obtain ⟨b2, off2, x, he, -, hbl2, hx, hcx⟩ := HR.out.at_ (show k - 1 < pn by omega)
            simp only [Option.some.injEq, Addr.mk.injEq] at he
            obtain ⟨rfl, rfl, -⟩ := he
            have hcx := ((HB0.out.1.trans (HK.out.1.mono HB0.out.1.size)).cell (p := ⟨b, off + (k - 1), none⟩) hbl2).trans hcx
            have hkp : (0 : Int) < k := by omega
            by_cases hle : (y : Int) ≤ x
            · go_wp2_with fail
              go_ret
              exact HNO.out
            · have HXP := Lib.hid hx
              have hxy : x < (y : Int) := by omega
              have hy2 : ∃ y2 : Nat, stepE N y = y2 ∧ y2 < N := ⟨(stepE N y).toNat, by
                rw [stepE, if_pos ⟨⟨by omega, by omega⟩, by omega, by omega⟩]
                have h3 := Int.emod_nonneg ((y : Int) + 1) (show (N : Int) ≠ 0 by omega)
                have h4 := Int.emod_lt_of_pos ((y : Int) + 1) (show (0 : Int) < N by omega)
                omega⟩
              obtain ⟨y2, hs2, hy2n⟩ := hy2
              have hem : ((y : Int) + 1) % N = y2 := by rw [← hs2, stepE, if_pos ⟨⟨by omega, by omega⟩, by omega, by omega⟩]
              have htm : ((y : Int) + 1).tmod N = y2 := by rw [Int.tmod_eq_emod_of_nonneg (by omega), hem]
              have HEM := Lib.hid hs2
              have hNz : ¬ (N : Int) = 0 := by omega
              have hu1 := (HK.out.2.1.cell y).trans (usedV_at (H := halvesL N (c.P.take k)) (show y < 16 by omega))
              have hu2 := (HK.out.2.1.cell y2).trans (usedV_at (H := halvesL N (c.P.take k)) (show y2 < 16 by omega))
              obtain ⟨q1, hq1⟩ : ∃ q1, Hid (q1 = decide ((y : Int) ∈ halvesL N (c.P.take k))) := ⟨_, Lib.hid rfl⟩
              obtain ⟨q2, hq2⟩ : ∃ q2, Hid (q2 = decide ((y2 : Int) ∈ halvesL N (c.P.take k))) := ⟨_, Lib.hid rfl⟩
              rw [← hq1.out] at hu1
              rw [← hq2.out] at hu2
              have hf1 : wr.frozen? ⟨w0.heap.size, y, none⟩ = false := HK.out.2.1.frozen y
              have hb1 : (wr.setCell ⟨w0.heap.size, y, none⟩ (.bool true)).frozen? ⟨w0.heap.size, y2, none⟩ = false := (HK.out.2.1.set_ y (.bool true)).frozen y2
              obtain ⟨vv, hvv⟩ : ∃ vv, (wr.setCell ⟨w0.heap.size, y, none⟩ (.bool true)).cell? ⟨w0.heap.size, y2, none⟩ = some vv := ⟨_, by
                rw [(HK.out.2.1.set_ y (.bool true)).cell y2, Array.getElem?_eq_getElem (by simp [usedV]; omega)]⟩
              cases q1 with
              | true =>
                go_wp2_with fail
                go_ret
                exact HNO.out
              | false =>
                cases q2 with
                | true =>
                  go_wp2_with fail
                  go_ret
                  exact HNO.out
                | false =>
                  have HN : Hid (Below w0.heap.size w0 ((wr.setCell ⟨w0.heap.size, y, none⟩ (.bool true)).setCell ⟨w0.heap.size, y2, none⟩ (.bool true)) ∧ Blk ((wr.setCell ⟨w0.heap.size, y, none⟩ (.bool true)).setCell ⟨w0.heap.size, y2, none⟩ (.bool true)) w0.heap.size 4 (usedV 16 (halvesL N (c.P.take (k + 1)))).toArray ∧ PairPre N c.P (k + 1)) := Lib.hid ⟨(HK.out.1.setCell (Nat.le_refl _) _).setCell (Nat.le_refl _) _, by
                    have := (HK.out.2.1.set_ y (.bool true)).set_ y2 (.bool true)
                    rw [halvesL_step HZ.out, HEM.out, show ∀ l : List Int, l ++ [(y : Int), (y2 : Int)] = (l ++ [(y : Int)]) ++ [(y2 : Int)] from fun l => by simp, ← usedV_set, ← usedV_set]
                    simpa using this, pairPre_step HK.out.2.2 HZ.out (by omega) (by omega) (fun p _ hp => by rw [HXP.out] at hp; cases hp; exact hxy) (by rw [← decide_eq_false_iff_not, ← hq1.out]) (by rw [HEM.out, ← decide_eq_false_iff_not, ← hq2.out])⟩
                  clear hs2
                  go_wp2_with fail
                  exact ⟨⟨k + 1, by omega, by go_num, HN⟩, by simp [intOf]; omega⟩
          · obtain rfl : k = 0 := by omega
            replace hcz : wr.cell? ⟨b, off, none⟩ = some (.int .i64 (y : Int)) := hcz
            have hy2 : ∃ y2 : Nat, stepE N y = y2 ∧ y2 < N := ⟨(stepE N y).toNat, by
              rw [stepE, if_pos ⟨⟨by omega, by omega⟩, by omega, by omega⟩]
              have h3 := Int.emod_nonneg ((y : Int) + 1) (show (N : Int) ≠ 0 by omega)
              have h4 := Int.emod_lt_of_pos ((y : Int) + 1) (show (0 : Int) < N by omega)
              omega⟩
            obtain ⟨y2, hs2, hy2n⟩ := hy2
            have hem : ((y : Int) + 1) % N = y2 := by rw [← hs2, stepE, if_pos ⟨⟨by omega, by omega⟩, by omega, by omega⟩]
            have htm : ((y : Int) + 1).tmod N = y2 := by rw [Int.tmod_eq_emod_of_nonneg (by omega), hem]
            have HEM := Lib.hid hs2
            have hNz : ¬ (N : Int) = 0 := by omega
            have hu1 := (HK.out.2.1.cell y).trans (usedV_at (H := halvesL N (c.P.take 0)) (show y < 16 by omega))
            have hu2 := (HK.out.2.1.cell y2).trans (usedV_at (H := halvesL N (c.P.take 0)) (show y2 < 16 by omega))
            obtain ⟨q1, hq1⟩ : ∃ q1, Hid (q1 = decide ((y : Int) ∈ halvesL N (c.P.take 0))) := ⟨_, Lib.hid rfl⟩
            obtain ⟨q2, hq2⟩ : ∃ q2, Hid (q2 = decide ((y2 : Int) ∈ halvesL N (c.P.take 0))) := ⟨_, Lib.hid rfl⟩
            rw [← hq1.out] at hu1
            rw [← hq2.out] at hu2
            have hf1 : wr.frozen? ⟨w0.heap.size, y, none⟩ = false := HK.out.2.1.frozen y
            have hb1 : (wr.setCell ⟨w0.heap.size, y, none⟩ (.bool true)).frozen? ⟨w0.heap.size, y2, none⟩ = false := (HK.out.2.1.set_ y (.bool true)).frozen y2
            obtain ⟨vv, hvv⟩ : ∃ vv, (wr.setCell ⟨w0.heap.size, y, none⟩ (.bool true)).cell? ⟨w0.heap.size, y2, none⟩ = some vv := ⟨_, by
              rw [(HK.out.2.1.set_ y (.bool true)).cell y2, Array.getElem?_eq_getElem (by simp [usedV]; omega)]⟩
            cases q1 with
            | true =>
              go_wp2_with fail
              go_ret
              exact HNO.out
            | false =>
              cases q2 with
              | true =>
                go_wp2_with fail
                go_ret
                exact HNO.out
              | false =>
                have HN : Hid (Below w0.heap.size w0 ((wr.setCell ⟨w0.heap.size, y, none⟩ (.bool true)).setCell ⟨w0.heap.size, y2, none⟩ (.bool true)) ∧ Blk ((wr.setCell ⟨w0.heap.size, y, none⟩ (.bool true)).setCell ⟨w0.heap.size, y2, none⟩ (.bool true)) w0.heap.size 4 (usedV 16 (halvesL N (c.P.take (0 + 1)))).toArray ∧ PairPre N c.P (0 + 1)) := Lib.hid ⟨(HK.out.1.setCell (Nat.le_refl _) _).setCell (Nat.le_refl _) _, by
                  have := (HK.out.2.1.set_ y (.bool true)).set_ y2 (.bool true)
                  rw [halvesL_step HZ.out, HEM.out, show ∀ l : List Int, l ++ [(y : Int), (y2 : Int)] = (l ++ [(y : Int)]) ++ [(y2 : Int)] from fun l => by simp, ← usedV_set, ← usedV_set]
                  simpa using this, pairPre_step HK.out.2.2 HZ.out (by omega) (by omega) (fun p h _ => absurd h (by omega)) (by rw [← decide_eq_false_iff_not, ← hq1.out]) (by rw [HEM.out, ← decide_eq_false_iff_not, ← hq2.out])⟩
                clear hs2
                go_wp2_with fail
                exact ⟨⟨0 + 1, by omega, by go_num, HN⟩, by simp [intOf]; omega⟩
    · obtain rfl : k = pn := by omega
      have hlt' : ¬ (k : Int) < k := by omega
      have HF : Hid (RetB (PairOk N c.P) w (.returned (.bool true)) wr) := Lib.hid ⟨true, rfl, fun _ i a hi => HK.out.2.2 i a (by have := (List.getElem?_eq_some_iff.1 hi).1; omega) hi, HB0.out.1.trans (HK.out.1.mono HB0.out.1.size)⟩
      go_wp2_with fail
      go_ret
      exact HF.out
end Go.Proofs.YtopakilglnpinaaGreatDoor
