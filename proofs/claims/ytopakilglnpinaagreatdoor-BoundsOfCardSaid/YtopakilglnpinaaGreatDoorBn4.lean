
/-
  Configs (chapter 4): where a config lies; the halves of its pairs.
-/
import Derived.Test.YtopakilglnpinaaGreatDoorBn3
namespace Go.Proofs.YtopakilglnpinaaGreatDoor
open Go.RowKit
set_option linter.unusedVariables false
set_option linter.unusedSimpArgs false

/-- a config, and where its lists lie -/
structure Cfg where
  N : Int
  P : List Int
  Sl : List Int
  lo : Int
  B : List Int
  St : List (Int × Int × Int)
  mi : Int
  go : Int
  fr : Int
structure CfA where
  pa : Option Addr
  pn : Nat
  pc : Nat
  sa : Option Addr
  sn : Nat
  sc : Nat
  ba : Option Addr
  bn : Nat
  bc : Nat
  ta : Option Addr
  tn : Nat
  tc : Nat
def cfV (A : CfA) (c : Cfg) : List Value := [.int .i64 c.N, .slice A.pa A.pn A.pc, .slice A.sa A.sn A.sc, .int .i64 c.lo, .slice A.ba A.bn A.bc, .slice A.ta A.tn A.tc, .int .i64 c.mi, .int .i64 c.go, .int .i64 c.fr]
def RdSt (S : Nat → Prop) (w : World) (a : Option Addr) (len : Nat) (l : List (Int × Int × Int)) : Prop :=
  l.length = len ∧ ∀ k s, l[k]? = some s → ∃ b off, a = some ⟨b, off, none⟩ ∧ S b ∧ b < w.heap.size ∧ w.cell? ⟨b, off + k * 3, none⟩ = some (.int .i64 s.1) ∧ w.cell? ⟨b, off + k * 3 + 1, none⟩ = some (.int .u32 s.2.1) ∧ w.cell? ⟨b, off + k * 3 + 2, none⟩ = some (.int .i64 s.2.2)
section
variable {S S' : Nat → Prop} {w w' : World} {a : Option Addr} {len : Nat} {l : List (Int × Int × Int)}
theorem RdSt.keep (h : RdSt S w a len l) (hs : w.heap.size ≤ w'.heap.size) (hk : ∀ b, S b → b < w.heap.size → w'.heap[b]? = w.heap[b]?) : RdSt S w' a len l :=
  ⟨h.1, fun k z hz => by
    obtain ⟨b, off, e, hS, hb, h1, h2, h3⟩ := h.2 k z hz
    have hq := hk b hS hb
    exact ⟨b, off, e, hS, by omega, (World.cell?_of_block hq).trans h1, (World.cell?_of_block hq).trans h2, (World.cell?_of_block hq).trans h3⟩⟩
theorem RdSt.below (h : RdSt S w a len l) (hb : Below w.heap.size w w') : RdSt S w' a len l := h.keep hb.size fun b _ hl => hb.block b hl
theorem RdSt.mono (h : RdSt S w a len l) (hs : ∀ b, b < w.heap.size → S b → S' b) : RdSt S' w a len l :=
  ⟨h.1, fun k z hz => by
    obtain ⟨b, off, e, hS, hb, h1⟩ := h.2 k z hz
    exact ⟨b, off, e, hs b hb hS, hb, h1⟩⟩
end
structure CfR (S : Nat → Prop) (w : World) (A : CfA) (c : Cfg) : Prop where
  p : RdZ S w A.pa A.pn c.P
  s : RdZ S w A.sa A.sn c.Sl
  b : RdZ S w A.ba A.bn c.B
  t : RdSt S w A.ta A.tn c.St
  cp : (A.pn ≤ A.pc ∧ A.pc ≤ maxLen) ∧ (A.sn ≤ A.sc ∧ A.sc ≤ maxLen) ∧ (A.bn ≤ A.bc ∧ A.bc ≤ maxLen) ∧ (A.tn ≤ A.tc ∧ A.tc ≤ maxLen)
theorem CfR.below {S : Nat → Prop} {w w' : World} {A : CfA} {c : Cfg} (h : CfR S w A c) (hb : Below w.heap.size w w') : CfR S w' A c := ⟨h.p.below hb, h.s.below hb, h.b.below hb, h.t.below hb, h.cp⟩
theorem CfR.mono {S S' : Nat → Prop} {w : World} {A : CfA} {c : Cfg} (h : CfR S w A c) (hs : ∀ b, b < w.heap.size → S b → S' b) : CfR S' w A c := ⟨h.p.mono hs, h.s.mono hs, h.b.mono hs, h.t.mono hs, h.cp⟩
theorem cfV_cells {w : World} {g : Nat} {A : CfA} {c : Cfg} (h : Blk w g 25 (cfV A c).toArray) :
    w.cell? ⟨g, 0, none⟩ = some (.int .i64 c.N) ∧ w.cell? ⟨g, 1, none⟩ = some (.slice A.pa A.pn A.pc) ∧ w.cell? ⟨g, 2, none⟩ = some (.slice A.sa A.sn A.sc) ∧ w.cell? ⟨g, 3, none⟩ = some (.int .i64 c.lo) ∧ w.cell? ⟨g, 4, none⟩ = some (.slice A.ba A.bn A.bc) ∧ w.cell? ⟨g, 5, none⟩ = some (.slice A.ta A.tn A.tc) ∧ w.cell? ⟨g, 6, none⟩ = some (.int .i64 c.mi) ∧ w.cell? ⟨g, 7, none⟩ = some (.int .i64 c.go) ∧ w.cell? ⟨g, 8, none⟩ = some (.int .i64 c.fr) :=
  ⟨h.cell 0, h.cell 1, h.cell 2, h.cell 3, h.cell 4, h.cell 5, h.cell 6, h.cell 7, h.cell 8⟩
theorem ag_cfg : aggOf Tryz.prog 25 9 = true := by kernel_rfl
@[go_sem ↓] theorem ld_cfg (ρ : Operand → Value) (d : Option Tmp) (x : Operand) (ty : TypeId) (s : String) (af : Array Edge) (g : Option (Nat × Bool)) (w : World) (h : hasRowV w 9 (ρ x) = true) :
    (execOp ρ { dst := d, op := .load 25 x, type := ty, pos := s, after := af, guard := g }).run Tryz.prog w = .ok (.value (.agg (rowV w 9 (ρ x)).toArray)) w := exec_load ag_cfg ρ d x ty s af g w h

/-! ### slices of ints of the call's own -/
theorem app_int : AppOk Tryz.prog 22 3 1 := appOk_of Tryz.underlying22 (by kernel_rfl)
theorem lt_of_heap {w : World} {b : Nat} {o : Obj} (h : w.heap[b]? = some o) : b < w.heap.size := (Array.getElem?_eq_some_iff.1 h).1
def ints (zs : List Int) : List Value := zs.map fun z => .int .i64 z
theorem own_rdz {base n : Nat} {w : World} {v : Value} {zs : List Int} (h : w.ownsRow base 3 1 v n (ints zs)) : zs.length = n ∧ ∃ a cap, v = .slice a n cap ∧ RdZ (base ≤ ·) w a n zs ∧ n ≤ cap ∧ cap ≤ maxLen := by
  have hl : zs.length = n := by have := h.1; simp [ints] at this; exact this
  refine ⟨hl, ?_⟩
  rcases h.2 with ⟨rfl, h0⟩ | ⟨g, cap, cur, rfl, hb, hg, hnc, hcm, hcs, htake⟩
  · subst h0
    have : zs = [] := List.eq_nil_of_length_eq_zero hl
    subst this
    exact ⟨none, 0, rfl, RdZ.nil _ _, Nat.le_refl _, by simp⟩
  · refine ⟨_, cap, rfl, ⟨hl, fun k z hz => ⟨g, 0, rfl, hb, lt_of_heap hg, ?_⟩⟩, hnc, hcm⟩
    have hk : k < zs.length := (List.getElem?_eq_some_iff.1 hz).1
    rw [cell_of_row w g _ cur _ (0, 0) hg, Nat.zero_add]
    have e1 : cur[k]? = (cur.toList.take (n * 1))[k]? := by rw [List.getElem?_take, if_pos (by omega)]; simp
    rw [e1, htake, ints, List.getElem?_map, hz]
    rfl
def halvesL (N : Int) (P : List Int) : List Int := P.flatMap fun a => [a, stepE N a]
theorem halvesL_step {N : Int} {P : List Int} {k : Nat} {z : Int} (hz : P[k]? = some z) : halvesL N (P.take (k + 1)) = halvesL N (P.take k) ++ [z, stepE N z] := by
  rw [List.take_add_one, hz]
  simp [halvesL]
theorem halvesL_len {N : Int} {P : List Int} : (halvesL N P).length = P.length * 2 := by
  induction P with
  | nil => rfl
  | cons x r ih => simp only [halvesL, List.flatMap_cons, List.length_append] at ih ⊢; rw [ih]; simp; omega
def NewZ (l : List Int) (w : World) (e : Ending) (w' : World) : Prop := ∃ a cap, e = .returned (.slice a l.length cap) ∧ RdZ (w.heap.size ≤ ·) w' a l.length l ∧ l.length ≤ cap ∧ cap ≤ maxLen ∧ Below w.heap.size w w'
set_option maxRecDepth 100000 in
set_option maxHeartbeats 2000000 in
theorem halves_any (S : Nat → Prop) (A : CfA) (c : Cfg) (w : World) (h : CfR S w A c) (hsg : SgW w) (hbig : A.pn ≤ 1000) :
    Calls Tryz.prog 39 #[.agg (cfV A c).toArray] w (NewZ (halvesL c.N c.P) w) := by
  obtain ⟨pa, pn, pc, sa, sn, sc, ba, bn, bc, ta, tn, tc⟩ := A
  have HR := Lib.hid h.p
  have hpl := h.p.1
  obtain ⟨⟨hm1, hm2⟩, -⟩ := h.cp
  unfold maxLen at hm2
  simp only at HR hpl hm1 hm2 hbig
  have HSG := Lib.hid hsg
  clear h hsg
  obtain ⟨cv, hcv⟩ : ∃ cv, cv = cfV ⟨pa, pn, pc, sa, sn, sc, ba, bn, bc, ta, tn, tc⟩ c := ⟨_, rfl⟩
  rw [← hcv]
  have HCV := Lib.hid hcv
  clear hcv
  go_enter Tryz.func39, Tryz.ntmps39
  go_upto_region 1 with fail
  have HB0 : Hid (Below w.heap.size w (w.alloc (.cells cv.toArray 25)) ∧ Blk (w.alloc (.cells cv.toArray 25)) w.heap.size 25 cv.toArray) := Lib.hid ⟨(Below.refl _ _).alloc (Nat.le_refl _) _, Blk.new _ _ _⟩
  generalize w.alloc (.cells cv.toArray 25) = w0 at HB0 ⊢
  rw [HCV.out] at HB0
  obtain ⟨c0, c1, -⟩ := cfV_cells HB0.out.2
  have c1 : w0.cell? ⟨w.heap.size, 1, none⟩ = some (.slice pa pn pc) := c1
  have c0 : w0.cell? ⟨w.heap.size, 0, none⟩ = some (.int .i64 c.N) := c0
  have hw0 : w.heap.size < w0.heap.size := HB0.out.2.lt
  go_wp2_with fail
  go_loopw [8, 2] (fun i v wr => ∃ k : Nat, k ≤ pn ∧ i = .int .i64 k ∧ wr.ownsRow w0.heap.size 3 1 v (k * 2) (ints (halvesL c.N (c.P.take k))) ∧ Below w0.heap.size w0 wr) (fun i _ _ => pn - (intOf i).toNat)
  case atStart => exact ⟨0, by omega, rfl, World.ownsRow_nil _ _ _ _, Below.refl _ _⟩
  case round =>
    obtain ⟨k, hk, rfl, ho, hb⟩ := hrel
    obtain ⟨wq, rfl⟩ : ∃ wq, wq = wr := ⟨_, rfl⟩
    obtain ⟨v, rfl⟩ : ∃ v, v = u2 := ⟨_, rfl⟩
    have HO := Lib.hid (And.intro ho hb)
    clear ho hb
    have d0 := (HO.out.2.cell (p := ⟨w.heap.size, 0, none⟩) hw0).trans c0
    by_cases hlt : k < pn
    · obtain ⟨b, off, z, rfl, -, hbl, hz, hc⟩ := HR.out.at_ hlt
      have hlt' : (k : Int) < pn := by omega
      have hk0 : (0 : Int) ≤ k := by omega
      have HZ := Lib.hid hz
      have hcz := ((HB0.out.1.trans (HO.out.2.mono HB0.out.1.size)).cell (p := ⟨b, off + k, none⟩) hbl).trans hc
      have HS := Lib.hid (step_any c.N z wq ((HSG.out.below HB0.out.1).below HO.out.2))
      obtain ⟨q, hq⟩ : ∃ q, q = stepE c.N z := ⟨_, rfl⟩
      have HQ := Lib.hid hq
      rw [← hq] at HS
      clear hz hc hq
      go_wp2_with fail
      (with_reducible refine HS.out.mono ?_)
      rintro e w2 ⟨rfl, hb2⟩
      have HO2 : Hid (w2.ownsRow w0.heap.size 3 1 v (k * 2) (ints (halvesL c.N (c.P.take k)))) := Lib.hid (own_block HO.out.1 fun q hq => hb2.block q (HO.out.1.lt q hq).2)
      have HB2 := Lib.hid (HO.out.2.trans (hb2.mono HO.out.2.size))
      have hsz2 := HB2.out.size
      clear hb2
      go_wp2_with (at_builtin; refine wpList_lies app_int (by rfl) (.tmp 12) (.tmp 18) (by rfl) w0.heap.size _ _ _ (by rfl) (HO2.out.alloc _) ⟨w2.heap.size, 0, none⟩ 2 2 [.int .i64 z, .int .i64 q] (by rfl) (by rfl) (hasRow_new w2 _ _ 0 2 (by simp)) (rowOf_new w2 _ _ 0 2 (by simp)) (by rfl) (by omega) (by omega) (by simp; omega) ?_; intro gg cp w4 hown1 hgrow hlie; have HO4 := Lib.hid (And.intro hown1 ((HB2.out.alloc HB2.out.size _).grown hgrow (by simp; omega) (fun q hq => (HO2.out.lt q hq).1))); clear hown1 hgrow hlie)
      exact ⟨⟨k + 1, by omega, by go_num, by rw [halvesL_step HZ.out, ← HQ.out, show (k + 1) * 2 = k * 2 + 2 from by omega]; simpa [ints] using HO4.out.1, HO4.out.2⟩, by simp [intOf]; omega⟩
    · have hlt' : ¬ (k : Int) < pn := by omega
      obtain rfl : k = pn := by omega
      have HN : Hid (NewZ (halvesL c.N c.P) w (.returned v) wq) := Lib.hid (by
        have ho := HO.out.1
        rw [List.take_of_length_le (by omega)] at ho
        obtain ⟨hl, a, cap, rfl, h1, h2, h3⟩ := own_rdz ho
        exact ⟨a, cap, by rw [hl], by rw [hl]; exact h1.mono fun b _ hb => by omega, by rw [hl]; exact h2, h3, HB0.out.1.trans (HO.out.2.mono HB0.out.1.size)⟩)
      go_wp2_with fail
      go_ret
      exact HN.out
end Go.Proofs.YtopakilglnpinaaGreatDoor
