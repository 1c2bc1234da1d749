/-
  sennitlaw13.fine: is a cell such as may be?
-/
import Derived.Test.YtphbmnjkhgfnoaaWrdK
namespace Go.Proofs.Ytphbmnjkhgfnoaa
open Go.RowKit
set_option linter.unusedVariables false
set_option linter.unusedSimpArgs false

def Sd.zero (s : Sd) : Bool := decide (s.tick = 0) && decide (s.kind = 0) && decide (s.st = 0) && decide (s.seq = 0) && decide (s.val = 0)
theorem Sd.zero_iff {s : Sd} (h : s.is = false) : s.zero = true ↔ s.vals = saidZ := by
  obtain ⟨a, b, c, d, e, f⟩ := s
  simp only at h
  subst h
  simp [Sd.zero, Sd.vals, saidZ, and_assoc]
def Sd.fine (s : Sd) : Bool := decide (0 ≤ s.tick) && decide (s.tick ≤ 1099511627776) && (if s.is then decide (s.kind = 1) || decide (s.kind = 2) else s.zero)
def Cl.fine (c : Cl) : Bool := c.o.fine && c.r.fine && decide (-1 ≤ c.age) && decide (c.age ≤ 1099511627776) && decide (-1 ≤ c.cmd) && decide (c.cmd < 8) && decide (c.mode < 8)
theorem Sd.norm_fine (s : Sd) : s.norm.fine = true := by
  unfold Sd.norm
  split
  · rename_i h
    unfold Sd.good at h
    simp only [Bool.and_eq_true, decide_eq_true_eq] at h
    obtain ⟨⟨⟨h1, h2⟩, h3⟩, h4⟩ := h
    simp only [Bool.or_eq_true, decide_eq_true_eq] at h4
    simp [Sd.fine, h1, h2, h3, h4]
  · rfl
theorem Sd.fine_norm {s : Sd} (h : s.fine = true) : s.norm = s := by
  unfold Sd.fine at h
  simp only [Bool.and_eq_true, decide_eq_true_eq] at h
  obtain ⟨⟨h1, h2⟩, h3⟩ := h
  cases his : s.is with
  | true =>
    rw [his] at h3
    have : s.good = true := by
      unfold Sd.good
      simp [his, h1, h2]
      simpa using h3
    unfold Sd.norm
    rw [if_pos this]
  | false =>
    rw [his] at h3
    simp only [Bool.false_eq_true, if_false] at h3
    have hs : s = sd0 := Sd.vals_inj.1 (((Sd.zero_iff his).1 h3).trans sd0_vals.symm)
    rw [hs]; rfl
theorem Cl.norm_fine (c : Cl) : c.norm.fine = true := by
  have h1 : -1 ≤ c.norm.age ∧ c.norm.age ≤ 1099511627776 := by
    show -1 ≤ (if c.age < 0 ∨ 1099511627776 < c.age then (-1 : Int) else c.age) ∧ (if c.age < 0 ∨ 1099511627776 < c.age then (-1 : Int) else c.age) ≤ 1099511627776
    split <;> omega
  have h2 : -1 ≤ c.norm.cmd ∧ c.norm.cmd < 8 := by
    show -1 ≤ (if c.cmd < 0 ∨ 8 ≤ c.cmd then (-1 : Int) else c.cmd) ∧ (if c.cmd < 0 ∨ 8 ≤ c.cmd then (-1 : Int) else c.cmd) < 8
    split <;> omega
  have h3 : c.norm.mode < 8 := by
    show (if 7 < c.mode then (0 : Int) else c.mode) < 8
    split <;> omega
  have h4 : c.norm.o.fine = true := Sd.norm_fine c.o
  have h5 : c.norm.r.fine = true := Sd.norm_fine c.r
  simp [Cl.fine, h1.1, h1.2, h2.1, h2.2, h3, h4, h5]
theorem Cl.fine_norm {c : Cl} (h : c.fine = true) : c.norm = c := by
  unfold Cl.fine at h
  simp only [Bool.and_eq_true, decide_eq_true_eq] at h
  obtain ⟨⟨⟨⟨⟨⟨h1, h2⟩, h3⟩, h4⟩, h5⟩, h6⟩, h7⟩ := h
  obtain ⟨a, o, r, v, m, n⟩ := c
  simp only at h1 h2 h3 h4 h5 h6 h7
  simp only [Cl.norm, Sd.fine_norm h1, Sd.fine_norm h2, Cl.mk.injEq, true_and]
  refine ⟨?_, ?_, ?_⟩
  · split <;> omega
  · split <;> omega
  · split <;> omega

@[go_sem ↓] theorem bs_said2 (ρ : Operand → Value) (d : Option Tmp) (x y : Operand) (ty : TypeId) (s : String) (af : Array Edge) (g : Option (Nat × Bool)) (w : World) (h : lenC (ρ x) 6 = true) (h' : lenC (ρ y) 6 = true) :
    (execOp ρ { dst := d, op := .buildSlice 139 2 #[(0, x), (1, y)], type := ty, pos := s, after := af, guard := g }).run Try.prog w = .ok (.value (.slice (some ⟨w.heap.size, 0, none⟩) 2 2)) (w.alloc (.cells (cellsL (ρ x) ++ cellsL (ρ y)).toArray 49)) := by
  have := exec_bslice (n := 6) Try.underlying139 (by kernel_rfl) ρ d 2 [x, y] #[(0, x), (1, y)] ty s af g w (by simp [iparts]) rfl (by omega) (by omega) (by simp [h, h'])
  simpa using this
@[go_sem ↓] theorem ne_said (ρ : Operand → Value) (ds : Option Tmp) (x y : Operand) (t' ty : TypeId) (s : String) (af : Array Edge) (g : Option (Nat × Bool)) (w : World) (h1 : okV saidK (ρ x) = true) (h2 : okV saidK (ρ y) = true) :
    (execOp ρ { dst := ds, op := .binOp .neq 49 x y t', type := ty, pos := s, after := af, guard := g }).run Try.prog w = .ok (.value (.bool (!eqV (ρ x) (ρ y)))) w := exec_neq (d := 6) (by kernel_rfl) (by omega) (by kernel_rfl) (by kernel_rfl) ρ ds x y t' ty s af g w h1 h2
theorem saidZ_ok : okL saidK saidZ = true := by decide

def sAt (c : Cl) (k : Nat) : Sd := if k = 0 then c.o else c.r
theorem fine_at {c : Cl} (k : Nat) (h : (sAt c k).fine = false) : c.fine = false := by
  unfold sAt at h
  unfold Cl.fine
  split at h
  · rw [h]; simp
  · rw [h]; simp
theorem blk_part {w : World} {g : Nat} {t : TypeId} {l l1 l2 l3 : List Value} (hb : Blk w g t l.toArray) (h : l = l1 ++ l2 ++ l3) : hasRow w ⟨g, l1.length, none⟩ l2.length = true ∧ rowOf w ⟨g, l1.length, none⟩ l2.length = l2 ∧ ∀ j, j < l2.length → w.cell? ⟨g, l1.length + j, none⟩ = l2[j]? := by
  subst h
  obtain ⟨r1, r2, r3, r4, -⟩ := hb.rules
  refine ⟨by rw [r3]; simp, by rw [r4 _ _ (by first | (simp; done) | (simp; omega))]; simp, fun j hj => ?_⟩
  rw [r1, List.append_assoc, List.getElem?_append_right (by omega), List.getElem?_append_left (by omega)]
  congr 1; omega

set_option maxRecDepth 100000 in
set_option maxHeartbeats 8000000 in
theorem fine_any (c : Cl) (hv : c.v.length = 40) (hc : okL cellK c.vals = true) (w : World) : Calls Try.prog 45 #[.agg c.vals.toArray] w fun e w' => e = .returned (.bool c.fine) ∧ Below w.heap.size w w' := by
  obtain ⟨q, hq⟩ : ∃ q, q = c.fine := ⟨_, rfl⟩
  rw [← hq]
  have HQ := Lib.hid hq
  clear hq
  obtain ⟨h0, h1, h2, h3, h4, h5⟩ := (cell_ok_parts hv).1 hc
  have hb0 : Blk (w.alloc (.cells c.vals.toArray 58)) w.heap.size 58 c.vals.toArray := Blk.new _ _ _
  have hB0 : Below w.heap.size w (w.alloc (.cells c.vals.toArray 58)) := (Below.refl _ _).alloc (Nat.le_refl _) _
  go_enter Try.func45, Try.ntmps45
  go_upto_region 1 with fail
  generalize w.alloc (.cells c.vals.toArray 58) = w0 at hb0 hB0 ⊢
  have hl : c.vals.length = 55 := Cl.len hv
  obtain ⟨r1, r2, r3, r4, -⟩ := hb0.rules
  have a1 : hasRow w0 ⟨w.heap.size, 1, none⟩ 6 = true := by rw [r3, hl]; rfl
  have a2 : rowOf w0 ⟨w.heap.size, 1, none⟩ 6 = c.o.vals := by rw [r4 _ _ (by omega)]; rfl
  have b1 : hasRow w0 ⟨w.heap.size, 7, none⟩ 6 = true := by rw [r3, hl]; rfl
  have b2 : rowOf w0 ⟨w.heap.size, 7, none⟩ 6 = c.r.vals := by rw [r4 _ _ (by omega)]; rfl
  have lo : c.o.vals.length = 6 := rfl
  have lr : c.r.vals.length = 6 := rfl
  have H0 := Lib.hid (And.intro hb0 hB0)
  clear hb0 hB0 r1 r2 r3 r4
  generalize hov : c.o.vals = ov at a2 lo
  generalize hrv : c.r.vals = rv at b2 lr
  have HV := Lib.hid (And.intro hov hrv)
  clear hov hrv
  go_upto_region 3 with fail
  have k1 : Blk (w0.alloc (.cells (ov ++ rv).toArray 49)) w0.heap.size 49 (ov ++ rv).toArray := Blk.new _ _ _
  have k2 := H0.out.1.alloc (.cells (ov ++ rv).toArray 49)
  have k3 := H0.out.2.alloc H0.out.2.size (.cells (ov ++ rv).toArray 49)
  generalize w0.alloc (.cells (ov ++ rv).toArray 49) = w1 at k1 k2 k3 ⊢
  have hrow : ∀ k, k < 2 → hasRow w1 ⟨w0.heap.size, k * 6, none⟩ 6 = true ∧ rowOf w1 ⟨w0.heap.size, k * 6, none⟩ 6 = (sAt c k).vals ∧ (∀ j, j < 6 → w1.cell? ⟨w0.heap.size, k * 6 + j, none⟩ = (sAt c k).vals[j]?) ∧ okL saidK (sAt c k).vals = true := fun k hk => by
    have hk2 : k = 0 ∨ k = 1 := by omega
    rcases hk2 with rfl | rfl
    · have := blk_part k1 (l1 := []) (l2 := ov) (l3 := rv) (by simp)
      rw [lo] at this
      simp only [List.length_nil] at this
      rw [show sAt c 0 = c.o from rfl, HV.out.1]
      exact ⟨this.1, this.2.1, this.2.2, by rw [← HV.out.1]; exact h1⟩
    · have := blk_part k1 (l1 := ov) (l2 := rv) (l3 := []) (by simp)
      rw [lo, lr] at this
      rw [show sAt c 1 = c.r from rfl, HV.out.2]
      exact ⟨this.1, this.2.1, this.2.2, by rw [← HV.out.2]; exact h2⟩
  have HR := Lib.hid hrow
  have H1 := Lib.hid (And.intro k2 k3)
  clear k1 k2 k3 hrow a1 a2 b1 b2
  have hzk := saidZ_ok
  go_loopw [4] (fun i wr => ∃ k : Nat, k ≤ 2 ∧ i = .int .i64 k ∧ (∀ j, j < k → (sAt c j).fine = true) ∧ wr = w1) (fun i _ => 2 - (intOf i).toNat)
  case atStart =>
    go_wp2
    first | exact ⟨0, by omega, rfl, fun j hj => by omega, rfl⟩ | exact ⟨0, by omega, rfl, fun j hj => by omega⟩
  case round =>
    obtain ⟨k, hk, rfl, hf, rfl⟩ := hrel
    by_cases hlt : k < 2
    · obtain ⟨d1, d2, d3, d4⟩ := HR.out k hlt
      obtain ⟨s, hs⟩ : ∃ s, s = sAt c k := ⟨_, rfl⟩
      rw [← hs] at d2 d3 d4
      have f0 : wr.cell? ⟨w0.heap.size, k * 6, none⟩ = some (.bool s.is) := d3 0 (by omega)
      have f1 : wr.cell? ⟨w0.heap.size, k * 6 + 1, none⟩ = some (.int .i64 s.tick) := d3 1 (by omega)
      have f2 : wr.cell? ⟨w0.heap.size, k * 6 + 2, none⟩ = some (.int .u8 s.kind) := d3 2 (by omega)
      clear d3
      generalize hsv : s.vals = sv at d2 d4
      have HS := Lib.hid (And.intro hs (And.intro hsv hf))
      clear hs hsv hf
      have bad : s.fine = false → Hid (q = false) := fun h => Lib.hid (by rw [HQ.out]; exact fine_at k (by rw [← HS.out.1]; exact h))
      have good : s.fine = true → Hid (∀ j, j < k + 1 → (sAt c j).fine = true) := fun h => Lib.hid (fun j hj => by
        by_cases hjk : j = k
        · subst hjk; rw [← HS.out.1]; exact h
        · exact HS.out.2.2 j (by omega))
      by_cases t1 : s.tick < 0
      · have HB := bad (by simp [Sd.fine]; omega)
        clear bad good
        go_wp2
        go_ret
        exact ⟨by rw [HB.out]; rfl, H1.out.2⟩
      · by_cases t2 : 1099511627776 < s.tick
        · have HB := bad (by simp [Sd.fine]; omega)
          clear bad good
          go_wp2
          go_ret
          exact ⟨by rw [HB.out]; rfl, H1.out.2⟩
        · cases his : s.is with
          | false =>
            rw [his] at f0
            by_cases hz : sv = saidZ
            · have HG := good (by
                have := (Sd.zero_iff his).2 (HS.out.2.1.trans hz)
                simp [Sd.fine, his, this]; omega)
              clear bad good
              subst hz
              go_wp2
              exact ⟨⟨k + 1, by omega, by go_num, HG.out, trivial⟩, by simp [intOf]; omega⟩
            · have HB := bad (by
                have : s.zero = false := by
                  rw [Bool.eq_false_iff]
                  intro h
                  exact hz (HS.out.2.1.symm.trans ((Sd.zero_iff his).1 h))
                simp [Sd.fine, his, this])
              clear bad good
              go_wp2
              go_ret
              exact ⟨by rw [HB.out]; rfl, H1.out.2⟩
          | true =>
            rw [his] at f0
            by_cases g1 : s.kind = 1
            · have HG := good (by simp [Sd.fine, his, g1]; omega)
              clear bad good
              rw [g1] at f2
              go_wp2
              exact ⟨⟨k + 1, by omega, by go_num, HG.out, trivial⟩, by simp [intOf]; omega⟩
            · by_cases g2 : s.kind = 2
              · have HG := good (by simp [Sd.fine, his, g2]; omega)
                clear bad good
                rw [g2] at f2
                go_wp2
                exact ⟨⟨k + 1, by omega, by go_num, HG.out, trivial⟩, by simp [intOf]; omega⟩
              · have HB := bad (by simp [Sd.fine, his, g1, g2])
                have hb1 : (s.kind != 1) = true := by simp [g1]
                have hb2 : (s.kind != 2) = true := by simp [g2]
                clear bad good
                go_wp2
                go_ret
                exact ⟨by rw [HB.out]; rfl, H1.out.2⟩
    · have hk2 : k = 2 := by omega
      subst hk2
      have e0 : c.o.fine = true := hf 0 (by omega)
      have e1 : c.r.fine = true := hf 1 (by omega)
      have c0 : wr.cell? ⟨w.heap.size, 0, none⟩ = some (.int .i64 c.age) := H1.out.1.cell 0
      have c53 : wr.cell? ⟨w.heap.size, 53, none⟩ = some (.int .i8 c.cmd) := by
        have e : c.vals[53]? = some (.int .i8 c.cmd) := by simp [Cl.vals, Sd.vals, List.getElem?_append, hv]
        rw [H1.out.1.cell, ← e, List.getElem?_toArray]
      have c54 : wr.cell? ⟨w.heap.size, 54, none⟩ = some (.int .u8 c.mode) := by
        have e : c.vals[54]? = some (.int .u8 c.mode) := by simp [Cl.vals, Sd.vals, List.getElem?_append, hv]
        rw [H1.out.1.cell, ← e, List.getElem?_toArray]
      have HE : Hid (q = (decide (-1 ≤ c.age) && decide (c.age ≤ 1099511627776) && decide (-1 ≤ c.cmd) && decide (c.cmd < 8) && decide (c.mode < 8))) := Lib.hid (by rw [HQ.out]; simp [Cl.fine, e0, e1])
      clear hf e0 e1
      by_cases g1 : -1 ≤ c.age
      · by_cases g2 : c.age ≤ 1099511627776
        · by_cases g3 : -1 ≤ c.cmd
          · by_cases g4 : c.cmd < 8
            · by_cases g5 : c.mode < 8
              · have HB : Hid (q = true) := Lib.hid (by rw [HE.out]; simp [g1, g2, g3, g4, g5])
                go_wp2
                go_ret
                exact ⟨by rw [HB.out]; rfl, H1.out.2⟩
              · have HB : Hid (q = false) := Lib.hid (by rw [HE.out, Bool.eq_false_iff]; simp; omega)
                go_wp2
                go_ret
                exact ⟨by rw [HB.out]; rfl, H1.out.2⟩
            · have HB : Hid (q = false) := Lib.hid (by rw [HE.out, Bool.eq_false_iff]; simp; omega)
              go_wp2
              go_ret
              exact ⟨by rw [HB.out]; rfl, H1.out.2⟩
          · have HB : Hid (q = false) := Lib.hid (by rw [HE.out, Bool.eq_false_iff]; simp; omega)
            go_wp2
            go_ret
            exact ⟨by rw [HB.out]; rfl, H1.out.2⟩
        · have HB : Hid (q = false) := Lib.hid (by rw [HE.out, Bool.eq_false_iff]; simp; omega)
          go_wp2
          go_ret
          exact ⟨by rw [HB.out]; rfl, H1.out.2⟩
      · have HB : Hid (q = false) := Lib.hid (by rw [HE.out, Bool.eq_false_iff]; simp; omega)
        go_wp2
        go_ret
        exact ⟨by rw [HB.out]; rfl, H1.out.2⟩
end Go.Proofs.Ytphbmnjkhgfnoaa
