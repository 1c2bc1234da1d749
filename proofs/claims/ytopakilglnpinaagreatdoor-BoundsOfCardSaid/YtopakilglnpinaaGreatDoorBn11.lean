
/-
  Configs (chapter 4): a config's own copy.
-/
import Derived.Test.YtopakilglnpinaaGreatDoorBn10
namespace Go.Proofs.YtopakilglnpinaaGreatDoor
open Go.RowKit
set_option linter.unusedVariables false
set_option linter.unusedSimpArgs false

@[go_sem ↓] theorem st_cfg (ρ : Operand → Value) (d : Option Tmp) (x y : Operand) (ty : TypeId) (s : String) (af : Array Edge) (g : Option (Nat × Bool)) (w : World) (h1 : okAgg 9 (ρ y) = true) (h2 : canPutV w 9 (ρ x) = true) :
    (execOp ρ { dst := d, op := .store 25 x y, type := ty, pos := s, after := af, guard := g }).run Tryz.prog w = .ok .skip (putV w (ρ x) (ρ y)) := exec_store ag_cfg ρ d x y ty s af g w h1 h2
theorem ret_rowB {P : Program} {fn : Func} {p : Tmp} {ty : TypeId} {n : Nat} (h : fn.results = #[.cell p ty]) (hT : aggOf P ty n = true) (tmps : Array Value) (w : World) (a : Addr)
    (hp : tmps.getD p undef = .pointer (some a)) (hr : hasRow w a n = true) : (results fn tmps).run P w = .ok (.agg (rowOf w a n).toArray) w := by
  have hp' : tmps[p]?.getD undef = .pointer (some a) := by simpa using hp
  simp [results, h, hp', asAddr, run_load_row hT hr]
def cfZ : List Value := [.int .i64 0, .slice none 0 0, .slice none 0 0, .int .i64 0, .slice none 0 0, .slice none 0 0, .int .i64 0, .int .i64 0, .int .i64 0]
def OwnP (c : Cfg) (w : World) (e : Ending) (w' : World) : Prop := ∃ A, e = .returned (.agg (cfV A c).toArray) ∧ CfR (w.heap.size ≤ ·) w' A c ∧ Below w.heap.size w w'
/-- a copy under way: k of its three lists of ints are its own -/
structure OwK (w : World) (c : Cfg) (A : CfA) (k : Nat) (wr : World) : Prop where
  blk : Blk wr w.heap.size 25 (cfV A c).toArray
  res : Blk wr (w.heap.size + 1) 25 cfZ.toArray
  ptr : Blk wr (w.heap.size + 1 + 1) 61 #[.pointer (some ⟨w.heap.size, 1, none⟩), .pointer (some ⟨w.heap.size, 2, none⟩), .pointer (some ⟨w.heap.size, 4, none⟩)]
  all : CfR (fun b => b < w.heap.size ∨ w.heap.size + 3 ≤ b) wr A c
  p : 1 ≤ k → RdZ (w.heap.size + 3 ≤ ·) wr A.pa A.pn c.P
  s : 2 ≤ k → RdZ (w.heap.size + 3 ≤ ·) wr A.sa A.sn c.Sl
  b : 3 ≤ k → RdZ (w.heap.size + 3 ≤ ·) wr A.ba A.bn c.B
  low : Below w.heap.size w wr
  size : w.heap.size + 3 ≤ wr.heap.size
  sm : A.pn ≤ 1000 ∧ A.sn ≤ 1000 ∧ A.bn ≤ 1000 ∧ A.tn ≤ 1000
theorem OwK.far {w : World} {c : Cfg} {A : CfA} {k : Nat} {wr w2 : World} (h : OwK w c A k wr) (hb : Below wr.heap.size wr w2) (i : Nat) (v : Value) :
    wr.heap.size ≤ (w2.setCell ⟨w.heap.size, i, none⟩ v).heap.size ∧ (∀ b, b ≠ w.heap.size → b < wr.heap.size → (w2.setCell ⟨w.heap.size, i, none⟩ v).heap[b]? = wr.heap[b]?) ∧ (∀ b, wr.heap.size ≤ b → (w2.setCell ⟨w.heap.size, i, none⟩ v).heap[b]? = w2.heap[b]?) ∧ Below w.heap.size w (w2.setCell ⟨w.heap.size, i, none⟩ v) := by
  have hs := h.size
  have hs2 := hb.size
  refine ⟨by simpa using hs2, fun b hne hlt => (Below.heap_setCell w2 _ v b hne).trans (hb.block b hlt), fun b hge => Below.heap_setCell w2 _ v b (by simp; omega), (h.low.trans (hb.mono (by omega))).setCell (Nat.le_refl _) v⟩
theorem OwK.step0 {w : World} {c : Cfg} {A : CfA} {wr w2 : World} (h : OwK w c A 0 wr) (hb : Below wr.heap.size wr w2) {a : Option Addr} (hr : RdZ (wr.heap.size ≤ ·) w2 a c.P.length c.P) :
    OwK w c { A with pa := a, pn := c.P.length, pc := c.P.length } 1 (w2.setCell ⟨w.heap.size, 1, none⟩ (.slice a c.P.length c.P.length)) := by
  obtain ⟨k1, k2, k3, k4⟩ := h.far hb 1 (.slice a c.P.length c.P.length)
  have hs := h.size
  have hl := h.all.p.1
  obtain ⟨sm1, sm2, sm3, sm4⟩ := h.sm
  have kn : RdZ (w.heap.size + 3 ≤ ·) (w2.setCell ⟨w.heap.size, 1, none⟩ (.slice a c.P.length c.P.length)) a c.P.length c.P := (hr.keep (by simp) fun b hS hl => k3 b hS).mono fun b _ hS => by omega
  have hmx : c.P.length ≤ maxLen := by unfold maxLen; omega
  have hb0 := (h.blk.below hb h.blk.lt).set_ 1 (.slice a c.P.length c.P.length)
  exact ⟨by simpa [cfV] using hb0, (k2 _ (by omega) h.res.lt).trans h.res, (k2 _ (by omega) h.ptr.lt).trans h.ptr,
    ⟨(kn.mono fun b _ h => .inr h), (h.all.s.keep k1 fun b hS hl => k2 b (by rcases hS with hS | hS <;> omega) hl), (h.all.b.keep k1 fun b hS hl => k2 b (by rcases hS with hS | hS <;> omega) hl), h.all.t.keep k1 fun b hS hl => k2 b (by rcases hS with hS | hS <;> omega) hl, ⟨Nat.le_refl _, hmx⟩, h.all.cp.2.1, h.all.cp.2.2.1, h.all.cp.2.2.2⟩,
    fun _ => kn, fun hh => absurd hh (by omega), fun hh => absurd hh (by omega), k4, by omega, (by simp only; omega), h.sm.2.1, h.sm.2.2.1, h.sm.2.2.2⟩
theorem OwK.step1 {w : World} {c : Cfg} {A : CfA} {wr w2 : World} (h : OwK w c A 1 wr) (hb : Below wr.heap.size wr w2) {a : Option Addr} (hr : RdZ (wr.heap.size ≤ ·) w2 a c.Sl.length c.Sl) :
    OwK w c { A with sa := a, sn := c.Sl.length, sc := c.Sl.length } 2 (w2.setCell ⟨w.heap.size, 2, none⟩ (.slice a c.Sl.length c.Sl.length)) := by
  obtain ⟨k1, k2, k3, k4⟩ := h.far hb 2 (.slice a c.Sl.length c.Sl.length)
  have hs := h.size
  have hl := h.all.s.1
  obtain ⟨sm1, sm2, sm3, sm4⟩ := h.sm
  have kn : RdZ (w.heap.size + 3 ≤ ·) (w2.setCell ⟨w.heap.size, 2, none⟩ (.slice a c.Sl.length c.Sl.length)) a c.Sl.length c.Sl := (hr.keep (by simp) fun b hS hl => k3 b hS).mono fun b _ hS => by omega
  have hmx : c.Sl.length ≤ maxLen := by unfold maxLen; omega
  have hb0 := (h.blk.below hb h.blk.lt).set_ 2 (.slice a c.Sl.length c.Sl.length)
  exact ⟨by simpa [cfV] using hb0, (k2 _ (by omega) h.res.lt).trans h.res, (k2 _ (by omega) h.ptr.lt).trans h.ptr,
    ⟨(h.all.p.keep k1 fun b hS hl => k2 b (by rcases hS with hS | hS <;> omega) hl), (kn.mono fun b _ h => .inr h), (h.all.b.keep k1 fun b hS hl => k2 b (by rcases hS with hS | hS <;> omega) hl), h.all.t.keep k1 fun b hS hl => k2 b (by rcases hS with hS | hS <;> omega) hl, h.all.cp.1, ⟨Nat.le_refl _, hmx⟩, h.all.cp.2.2.1, h.all.cp.2.2.2⟩,
    fun _ => (h.p (by omega)).keep k1 fun b hS hl => k2 b (by omega) hl, fun _ => kn, fun hh => absurd hh (by omega), k4, by omega, h.sm.1, (by simp only; omega), h.sm.2.2.1, h.sm.2.2.2⟩
theorem OwK.step2 {w : World} {c : Cfg} {A : CfA} {wr w2 : World} (h : OwK w c A 2 wr) (hb : Below wr.heap.size wr w2) {a : Option Addr} (hr : RdZ (wr.heap.size ≤ ·) w2 a c.B.length c.B) :
    OwK w c { A with ba := a, bn := c.B.length, bc := c.B.length } 3 (w2.setCell ⟨w.heap.size, 4, none⟩ (.slice a c.B.length c.B.length)) := by
  obtain ⟨k1, k2, k3, k4⟩ := h.far hb 4 (.slice a c.B.length c.B.length)
  have hs := h.size
  have hl := h.all.b.1
  obtain ⟨sm1, sm2, sm3, sm4⟩ := h.sm
  have kn : RdZ (w.heap.size + 3 ≤ ·) (w2.setCell ⟨w.heap.size, 4, none⟩ (.slice a c.B.length c.B.length)) a c.B.length c.B := (hr.keep (by simp) fun b hS hl => k3 b hS).mono fun b _ hS => by omega
  have hmx : c.B.length ≤ maxLen := by unfold maxLen; omega
  have hb0 := (h.blk.below hb h.blk.lt).set_ 4 (.slice a c.B.length c.B.length)
  exact ⟨by simpa [cfV] using hb0, (k2 _ (by omega) h.res.lt).trans h.res, (k2 _ (by omega) h.ptr.lt).trans h.ptr,
    ⟨(h.all.p.keep k1 fun b hS hl => k2 b (by rcases hS with hS | hS <;> omega) hl), (h.all.s.keep k1 fun b hS hl => k2 b (by rcases hS with hS | hS <;> omega) hl), (kn.mono fun b _ h => .inr h), h.all.t.keep k1 fun b hS hl => k2 b (by rcases hS with hS | hS <;> omega) hl, h.all.cp.1, h.all.cp.2.1, ⟨Nat.le_refl _, hmx⟩, h.all.cp.2.2.2⟩,
    fun _ => (h.p (by omega)).keep k1 fun b hS hl => k2 b (by omega) hl, fun _ => (h.s (by omega)).keep k1 fun b hS hl => k2 b (by omega) hl, fun _ => kn, k4, by omega, h.sm.1, h.sm.2.1, (by simp only; omega), h.sm.2.2.2⟩
set_option maxRecDepth 100000 in
set_option maxHeartbeats 2000000 in
theorem own_any (S : Nat → Prop) (A : CfA) (c : Cfg) (w : World) (h : CfR S w A c) (hb1 : A.pn ≤ 1000) (hb2 : A.sn ≤ 1000) (hb3 : A.bn ≤ 1000) (hb4 : A.tn ≤ 1000) : Calls Tryz.prog 37 #[.agg (cfV A c).toArray] w (OwnP c w) := by
  have hlow : Below w.heap.size w (((w.alloc (.cells (cfV A c).toArray 25)).alloc (.cells cfZ.toArray 25)).alloc (.cells #[.pointer (some ⟨w.heap.size, 1, none⟩), .pointer (some ⟨w.heap.size, 2, none⟩), .pointer (some ⟨w.heap.size, 4, none⟩)] 61)) := (((Below.refl _ _).alloc (Nat.le_refl _) _).alloc (by simp) _).alloc (by simp <;> omega) _
  have hst : OwK w c A 0 (((w.alloc (.cells (cfV A c).toArray 25)).alloc (.cells cfZ.toArray 25)).alloc (.cells #[.pointer (some ⟨w.heap.size, 1, none⟩), .pointer (some ⟨w.heap.size, 2, none⟩), .pointer (some ⟨w.heap.size, 4, none⟩)] 61)) :=
    ⟨((Blk.new _ _ _).alloc _).alloc _, by have := (Blk.new (w.alloc (.cells (cfV A c).toArray 25)) 25 cfZ.toArray).alloc (.cells #[.pointer (some ⟨w.heap.size, 1, none⟩), .pointer (some ⟨w.heap.size, 2, none⟩), .pointer (some ⟨w.heap.size, 4, none⟩)] 61); simpa using this,
      by have := Blk.new ((w.alloc (.cells (cfV A c).toArray 25)).alloc (.cells cfZ.toArray 25)) 61 #[.pointer (some ⟨w.heap.size, 1, none⟩), .pointer (some ⟨w.heap.size, 2, none⟩), .pointer (some ⟨w.heap.size, 4, none⟩)]; simpa using this,
      ((h.mono (S' := fun b => b < w.heap.size) fun b hl _ => hl).below hlow).mono fun b _ hl => .inl hl, fun hh => absurd hh (by omega), fun hh => absurd hh (by omega), fun hh => absurd hh (by omega), hlow, by simp <;> omega, hb1, hb2, hb3, hb4⟩
  have HST := Lib.hid hst
  have hrs : ∃ wr0, wr0 = (((w.alloc (.cells (cfV A c).toArray 25)).alloc (.cells cfZ.toArray 25)).alloc (.cells #[.pointer (some ⟨w.heap.size, 1, none⟩), .pointer (some ⟨w.heap.size, 2, none⟩), .pointer (some ⟨w.heap.size, 4, none⟩)] 61)) := ⟨_, rfl⟩
  clear hst hlow h hrs
  obtain ⟨cv, hcv⟩ : ∃ cv, cv = cfV A c := ⟨_, rfl⟩
  rw [← hcv] at HST ⊢
  clear hcv hb1 hb2 hb3 hb4
  go_enter Tryz.func37, Tryz.ntmps37
  go_upto_region 2 with fail
  simp only [cfZ] at HST
  generalize ((w.alloc (.cells cv.toArray 25)).alloc (.cells #[.int .i64 0, .slice none 0 0, .slice none 0 0, .int .i64 0, .slice none 0 0, .slice none 0 0, .int .i64 0, .int .i64 0, .int .i64 0] 25)).alloc (.cells #[.pointer (some ⟨w.heap.size, 1, none⟩), .pointer (some ⟨w.heap.size, 2, none⟩), .pointer (some ⟨w.heap.size, 4, none⟩)] 61) = w0 at HST ⊢
  go_loopw [10] (fun i wr => ∃ (k : Nat) (A : CfA), k ≤ 3 ∧ i = .int .i64 k ∧ Hid (OwK w c A k wr)) (fun i _ => 3 - (intOf i).toNat)
  case atStart => exact ⟨0, _, by omega, rfl, HST⟩
  case round =>
    obtain ⟨k, A, hk, rfl, HO⟩ := hrel
    clear HST
    obtain ⟨pa, pn, pc, sa, sn, sc, ba, bn, bc, ta, tn, tc⟩ := A
    rcases (by omega : k = 0 ∨ k = 1 ∨ k = 2 ∨ k = 3) with rfl | rfl | rfl | rfl
    · have cp : wr.cell? ⟨w.heap.size + 1 + 1, 0, none⟩ = some (.pointer (some ⟨w.heap.size, 1, none⟩)) := HO.out.ptr.cell 0
      have cs : wr.cell? ⟨w.heap.size, 1, none⟩ = some (.slice pa pn pc) := HO.out.blk.cell 1
      have HC := Lib.hid (cloneI_any _ pa pn pc c.P wr HO.out.all.p (by have := HO.out.sm; simp only at this; omega))
      go_wp2_with fail
      (with_reducible refine HC.out.mono ?_)
      rintro e w2 ⟨a, cap, rfl, hr, hm1, hm2, hB⟩
      have HL := Lib.hid (clipI_any a c.P.length cap w2 hm1 hm2)
      have HN := Lib.hid (HO.out.step0 hB hr)
      have cs2 : w2.cell? ⟨w.heap.size, 1, none⟩ = some (.slice pa pn pc) := (hB.cell (p := ⟨w.heap.size, 1, none⟩) HO.out.blk.lt).trans cs
      have fs2 : w2.frozen? ⟨w.heap.size, 1, none⟩ = false := (HO.out.blk.below hB HO.out.blk.lt).frozen 1
      clear hB hr hm1 hm2 cp cs
      generalize c.P.length = n at HL HN
      go_wp2_with fail
      (with_reducible refine HL.out.mono ?_)
      rintro e w3 ⟨rfl, rfl⟩
      go_wp2_with fail
      go_roundw
      case rel => exact ⟨1, _, by omega, by simp, HN⟩
      case measure => simp [intOf]
    · have cp : wr.cell? ⟨w.heap.size + 1 + 1, 1, none⟩ = some (.pointer (some ⟨w.heap.size, 2, none⟩)) := HO.out.ptr.cell 1
      have cs : wr.cell? ⟨w.heap.size, 2, none⟩ = some (.slice sa sn sc) := HO.out.blk.cell 2
      have HC := Lib.hid (cloneI_any _ sa sn sc c.Sl wr HO.out.all.s (by have := HO.out.sm; simp only at this; omega))
      go_wp2_with fail
      (with_reducible refine HC.out.mono ?_)
      rintro e w2 ⟨a, cap, rfl, hr, hm1, hm2, hB⟩
      have HL := Lib.hid (clipI_any a c.Sl.length cap w2 hm1 hm2)
      have HN := Lib.hid (HO.out.step1 hB hr)
      have cs2 : w2.cell? ⟨w.heap.size, 2, none⟩ = some (.slice sa sn sc) := (hB.cell (p := ⟨w.heap.size, 2, none⟩) HO.out.blk.lt).trans cs
      have fs2 : w2.frozen? ⟨w.heap.size, 2, none⟩ = false := (HO.out.blk.below hB HO.out.blk.lt).frozen 2
      clear hB hr hm1 hm2 cp cs
      generalize c.Sl.length = n at HL HN
      go_wp2_with fail
      (with_reducible refine HL.out.mono ?_)
      rintro e w3 ⟨rfl, rfl⟩
      go_wp2_with fail
      go_roundw
      case rel => exact ⟨2, _, by omega, by simp, HN⟩
      case measure => simp [intOf]
    · have cp : wr.cell? ⟨w.heap.size + 1 + 1, 2, none⟩ = some (.pointer (some ⟨w.heap.size, 4, none⟩)) := HO.out.ptr.cell 2
      have cs : wr.cell? ⟨w.heap.size, 4, none⟩ = some (.slice ba bn bc) := HO.out.blk.cell 4
      have HC := Lib.hid (cloneI_any _ ba bn bc c.B wr HO.out.all.b (by have := HO.out.sm; simp only at this; omega))
      go_wp2_with fail
      (with_reducible refine HC.out.mono ?_)
      rintro e w2 ⟨a, cap, rfl, hr, hm1, hm2, hB⟩
      have HL := Lib.hid (clipI_any a c.B.length cap w2 hm1 hm2)
      have HN := Lib.hid (HO.out.step2 hB hr)
      have cs2 : w2.cell? ⟨w.heap.size, 4, none⟩ = some (.slice ba bn bc) := (hB.cell (p := ⟨w.heap.size, 4, none⟩) HO.out.blk.lt).trans cs
      have fs2 : w2.frozen? ⟨w.heap.size, 4, none⟩ = false := (HO.out.blk.below hB HO.out.blk.lt).frozen 4
      clear hB hr hm1 hm2 cp cs
      generalize c.B.length = n at HL HN
      go_wp2_with fail
      (with_reducible refine HL.out.mono ?_)
      rintro e w3 ⟨rfl, rfl⟩
      go_wp2_with fail
      go_roundw
      case rel => exact ⟨3, _, by omega, by simp, HN⟩
      case measure => simp [intOf]
    · have ct : wr.cell? ⟨w.heap.size, 5, none⟩ = some (.slice ta tn tc) := HO.out.blk.cell 5
      have HC := Lib.hid (cloneT_any _ ta tn tc c.St wr HO.out.all.t (by have := HO.out.sm; simp only at this; omega))
      go_wp2_with fail
      (with_reducible refine HC.out.mono ?_)
      rintro e w1 ⟨x1, c1, rfl, k1, hm1, hm2, hb1⟩
      have hl4 : c.St.length ≤ 1000 := by
        have h1 := HO.out.sm
        have h2 := HO.out.all.t.1
        simp only at h1 h2
        omega
      have b0 := HO.out.blk.below hb1 HO.out.blk.lt
      have b1 := HO.out.res.below hb1 HO.out.res.lt
      have cs2 : w1.cell? ⟨w.heap.size, 5, none⟩ = some (.slice ta tn tc) := (hb1.cell (p := ⟨w.heap.size, 5, none⟩) HO.out.blk.lt).trans ct
      have fs2 : w1.frozen? ⟨w.heap.size, 5, none⟩ = false := b0.frozen 5
      have n0 : Blk (w1.setCell ⟨w.heap.size, 5, none⟩ (.slice x1 c.St.length c.St.length)) w.heap.size 25 (cfV ⟨pa, pn, pc, sa, sn, sc, ba, bn, bc, x1, c.St.length, c.St.length⟩ c).toArray := by
        have := b0.set_ 5 (.slice x1 c.St.length c.St.length)
        simpa [cfV] using this
      have n1 := b1.far (p := ⟨w.heap.size, 5, none⟩) (by simp) (.slice x1 c.St.length c.St.length)
      obtain ⟨cv2, hcv2⟩ : ∃ cv2, cv2 = cfV ⟨pa, pn, pc, sa, sn, sc, ba, bn, bc, x1, c.St.length, c.St.length⟩ c := ⟨_, rfl⟩
      rw [← hcv2] at n0
      have hvl2 : cv2.length = 9 := by rw [hcv2]; rfl
      have hvc : cv2.all cell1 = true := by rw [hcv2]; rfl
      obtain ⟨r1, r2, -⟩ := n0.whole hvl2
      obtain ⟨-, -, r3⟩ := n1.whole (n := 9) rfl
      obtain ⟨p1, p2, -⟩ := (n1.put_all (l := cv2) (by rw [hvl2]; rfl)).whole hvl2
      have hkeep : ∀ b, w.heap.size + 3 ≤ b → (putRow (w1.setCell ⟨w.heap.size, 5, none⟩ (.slice x1 c.St.length c.St.length)) ⟨w.heap.size + 1, 0, none⟩ cv2).heap[b]? = w1.heap[b]? := fun b hb => by
        rw [putRow_other _ _ _ _ (by simp; omega)]
        exact Below.heap_setCell _ _ _ _ (by simp; omega)
      have hsz : wr.heap.size ≤ (putRow (w1.setCell ⟨w.heap.size, 5, none⟩ (.slice x1 c.St.length c.St.length)) ⟨w.heap.size + 1, 0, none⟩ cv2).heap.size := by have := hb1.size; simpa using this
      have hfin : OwnP c w (.returned (.agg cv2.toArray)) (putRow (w1.setCell ⟨w.heap.size, 5, none⟩ (.slice x1 c.St.length c.St.length)) ⟨w.heap.size + 1, 0, none⟩ cv2) := by
        have hs3 := HO.out.size
        refine ⟨⟨pa, pn, pc, sa, sn, sc, ba, bn, bc, x1, c.St.length, c.St.length⟩, by rw [hcv2], ⟨((HO.out.p (by omega)).keep hsz fun b hS hl => (hkeep b hS).trans (hb1.block b hl)).mono fun b _ hS => by omega,
          ((HO.out.s (by omega)).keep hsz fun b hS hl => (hkeep b hS).trans (hb1.block b hl)).mono fun b _ hS => by omega,
          ((HO.out.b (by omega)).keep hsz fun b hS hl => (hkeep b hS).trans (hb1.block b hl)).mono fun b _ hS => by omega,
          (k1.keep (by simp) fun b hS hl => hkeep b (by omega)).mono fun b _ hS => by omega,
          HO.out.all.cp.1, HO.out.all.cp.2.1, HO.out.all.cp.2.2.1, Nat.le_refl _, ?_⟩, ?_⟩
        · show c.St.length ≤ maxLen
          unfold maxLen
          omega
        · exact Below.put ((HO.out.low.trans (hb1.mono (by omega))).setCell (Nat.le_refl _) _) (by simp) _
      have HF := Lib.hid (And.intro p1 (And.intro p2 hfin))
      have HL := Lib.hid (clipT_any x1 c.St.length c1 w1 hm1 hm2)
      clear p1 p2 hfin hkeep hsz n0 n1 b0 b1 k1 hb1 hm1 hm2 ct HC hcv2 hl4
      generalize c.St.length = n at *
      go_wp2_with fail
      (with_reducible refine HL.out.mono ?_)
      rintro e w2 ⟨rfl, rfl⟩
      go_wp2_with fail
      try simp only [Exit.inBlock, Exit.then]
      first | refine bodyPost_ret (ret_rowB (n := 9) rfl (by kernel_rfl) _ _ _ rfl ?_) rfl ?_ | refine bodyPost_end (ret_rowB (n := 9) rfl (by kernel_rfl) _ _ _ rfl ?_) rfl ?_
      · exact HF.out.1
      · rw [HF.out.2.1]
        exact HF.out.2.2
end Go.Proofs.YtopakilglnpinaaGreatDoor
