/-
  sennitlaw13.WordsRows, walked.
-/
import Derived.Test.YtphbmnjkhgfnoaaWrdK
import Derived.Test.YtphbmnjkhgfnoaaWrdL
namespace Go.Proofs.Ytphbmnjkhgfnoaa
open Go.RowKit
set_option linter.unusedVariables false
set_option linter.unusedSimpArgs false

theorem same_refl (S S' : Nat → Prop) (r : Rw) (hr : r.ok) (tv tv' : Value) (w : World) (ht : RowR S w r tv) (ht' : RowR S' w r tv') :
    Calls Try.prog 44 #[.agg (r.vals tv).toArray, .agg (r.vals tv').toArray] w fun e w' => e = .returned (.bool true) ∧ Below w.heap.size w w' :=
  (same_any S S' r r hr hr tv tv' w ht ht').mono fun e w' h => ⟨by rw [h.1]; simp, h.2⟩
theorem rsame_refl (S S' : Nat → Prop) (r : Rw) (hr : r.ok) (tv tv' : Value) (w : World) (ht : RowR S w r tv) (ht' : RowR S' w r tv') :
    Calls Try.prog 49 #[.agg (r.vals tv).toArray, .agg (r.vals tv').toArray] w fun e w' => e = .returned (.bool true) ∧ Below w.heap.size w w' :=
  (rsame_any S S' r r hr hr tv tv' w ht ht').mono fun e w' h => ⟨by rw [h.1]; simp, h.2⟩
theorem same_dd (S S' : Nat → Prop) (r r' : Rw) (dd : Bool) (hd : dd = true ↔ r = r') (hr : r.ok) (hr' : r'.ok) (tv tv' : Value) (w : World) (ht : RowR S w r tv) (ht' : RowR S' w r' tv') :
    Calls Try.prog 44 #[.agg (r.vals tv).toArray, .agg (r'.vals tv').toArray] w fun e w' => e = .returned (.bool dd) ∧ Below w.heap.size w w' :=
  (same_any S S' r r' hr hr' tv tv' w ht ht').mono fun e w' h => ⟨by rw [h.1]; congr 2; rw [Bool.eq_iff_iff, hd]; simp, h.2⟩
theorem rsame_dd (S S' : Nat → Prop) (r r' : Rw) (dd : Bool) (hd : dd = true ↔ r = r') (hr : r.ok) (hr' : r'.ok) (tv tv' : Value) (w : World) (ht : RowR S w r tv) (ht' : RowR S' w r' tv') :
    Calls Try.prog 49 #[.agg (r.vals tv).toArray, .agg (r'.vals tv').toArray] w fun e w' => e = .returned (.bool dd) ∧ Below w.heap.size w w' :=
  (rsame_any S S' r r' hr hr' tv tv' w ht ht').mono fun e w' h => ⟨by rw [h.1]; congr 2; rw [Bool.eq_iff_iff, hd]; simp, h.2⟩

/-- the boxes of the walk, and what they lead to -/
structure WR (w : World) (n : Int) (r r' : Rw) (tv tv' tt tu tc tp : Value) (g7 g8 g9 g10 lo hi : Nat) (W : World) : Prop where
  b4 : Blk W w.heap.size 62 (r.vals tv).toArray
  b5 : Blk W (w.heap.size + 1) 62 (r'.vals tv').toArray
  b7 : Blk W g7 62 (r.vals tt).toArray
  b8 : Blk W g8 62 (r'.vals tu).toArray
  b9 : Blk W g9 62 (r.vals tc).toArray
  b10 : Blk W g10 62 ((r.plain n).vals tp).toArray
  ra : RowR (· < w.heap.size) W r tv
  rb : RowR (· < w.heap.size) W r' tv'
  rt : TwR (fun b => w.heap.size ≤ b ∧ b < lo) W r tt
  ru : TwR (fun b => w.heap.size ≤ b ∧ b < lo) W r' tu
  rc : RowX (fun b => lo ≤ b ∧ b < hi) W r tc
  rp : RowX (fun b => lo ≤ b ∧ b < hi) W (r.plain n) tp
  bel : Below w.heap.size w W
  lo0 : w.heap.size ≤ lo
  g9lo : lo ≤ hi
theorem WR.below {w : World} {n : Int} {r r' : Rw} {tv tv' tt tu tc tp : Value} {g7 g8 g9 g10 lo hi : Nat} {W W' : World} (h : WR w n r r' tv tv' tt tu tc tp g7 g8 g9 g10 lo hi W) (hb : Below W.heap.size W W') : WR w n r r' tv tv' tt tu tc tp g7 g8 g9 g10 lo hi W' :=
  ⟨h.b4.below hb h.b4.lt, h.b5.below hb h.b5.lt, h.b7.below hb h.b7.lt, h.b8.below hb h.b8.lt, h.b9.below hb h.b9.lt, h.b10.below hb h.b10.lt, h.ra.below hb, h.rb.below hb, h.rt.below hb, h.ru.below hb, h.rc.below hb, h.rp.below hb, below_step h.bel hb h.bel.size, h.lo0, h.g9lo⟩
theorem WR.spd {w : World} {n : Int} {r r' : Rw} {tv tv' tt tu tc tp : Value} {g7 g8 g9 g10 lo hi : Nat} {W W' : World} (h : WR w n r r' tv tv' tt tu tc tp g7 g8 g9 g10 lo hi W) (hs : Spd (fun b => lo ≤ b ∧ b < hi) W W') :
    Blk W' w.heap.size 62 (r.vals tv).toArray ∧ Blk W' (w.heap.size + 1) 62 (r'.vals tv').toArray ∧ Blk W' g7 62 (r.vals tt).toArray ∧ Blk W' g8 62 (r'.vals tu).toArray ∧
    Blk W' g10 62 ((r.plain n).vals tp).toArray ∧ RowR (· < w.heap.size) W' r tv ∧ RowR (· < w.heap.size) W' r' tv' ∧ TwR (fun b => w.heap.size ≤ b ∧ b < lo) W' r tt ∧ TwR (fun b => w.heap.size ≤ b ∧ b < lo) W' r' tu ∧ RoomV (fun b => lo ≤ b ∧ b < hi) W' tp ∧ Below w.heap.size w W' := by
  have hc := hs.chg
  have hl := h.lo0
  have hbk : ∀ {g : Nat} {cs : Array Value}, Blk W g 62 cs → Blk W' g 62 cs := fun {g cs} hb => (hs.row hb (by decide)).trans hb
  have hB := h.bel.size
  exact ⟨hbk h.b4, hbk h.b5, hbk h.b7, hbk h.b8, hbk h.b10, h.ra.keep hs.size (fun b hb hlt => hc.block b hlt (by omega)), h.rb.keep hs.size (fun b hb hlt => hc.block b hlt (by omega)),
    h.rt.keep hs.size (fun b hb hlt => hc.block b hlt (by omega)), h.ru.keep hs.size (fun b hb hlt => hc.block b hlt (by omega)), h.rp.2.spd hs, h.bel.trans (hc.below hB (fun k hk => by omega))⟩

theorem RowR.slice {S : Nat → Prop} {w : World} {r : Rw} {tv : Value} (h : RowR S w r tv) : ∃ x m cap, tv = .slice x m cap ∧ m ≤ cap ∧ cap ≤ maxLen := by
  obtain ⟨x, m, cap, e, -, h1, h2⟩ := h
  exact ⟨x, m, cap, e, h1, h2⟩
set_option maxRecDepth 100000 in
set_option maxHeartbeats 4000000 in
theorem wrows_end (w : World) (W : World) (hB : Below w.heap.size w W) : Calls Try.prog 39 #[] W fun e w' => e = .returned (.bool true) ∧ Below w.heap.size w w' :=
  (lives13_any W).mono fun e w' h => ⟨h.1, below_step hB h.2 hB.size⟩
theorem plain_tlen {n : Int} {r : Rw} : (r.plain n).t.length ≤ 100000 := Nat.le_trans fillH_tlen (by omega)

set_option maxRecDepth 100000 in
set_option maxHeartbeats 8000000 in
theorem wrows_any (n : Int) (r r' : Rw) (hr : r.ok) (hr' : r'.ok) (tv tv' : Value) (w : World) (ht : RowR (· < w.heap.size) w r tv) (ht' : RowR (· < w.heap.size) w r' tv') :
    Calls Try.prog 13 #[.int .i64 n, .agg (r.vals tv).toArray, .agg (r'.vals tv').toArray] w fun e w' => e = .returned (.bool true) ∧ Below w.heap.size w w' := by
  have hst := R2.start w 62 62 r r' tv tv'
  obtain ⟨x, m, cap, rfl, t1, t2, t3⟩ := id ht
  obtain ⟨x', m', cap', rfl, t1', t2', t3'⟩ := id ht'
  have hm : r.t.length = m := t1.1
  have hm' : r'.t.length = m' := t1'.1
  unfold maxLen at t3 t3'
  clear t1 t1'
  have HA := Lib.hid (And.intro ht ht')
  have HM := Lib.hid (And.intro hm hm')
  clear ht ht' hm hm'
  go_enter Try.func13, Try.ntmps13
  go_upto_region 1 with fail
  generalize ((w.alloc (.cells (r.vals (.slice x m cap)).toArray 62)).alloc (.cells (r'.vals (.slice x' m' cap')).toArray 62)) = w0 at hst ⊢
  obtain ⟨-, -, -, f56, -, -, -⟩ := blk_row hst.b0 hr
  obtain ⟨-, -, -, g56, -, -, -⟩ := blk_row hst.b1 hr'
  have HS := Lib.hid hst
  clear hst
  by_cases h1 : 400 < m
  · have h1' : (400 : Int) < (m : Int) := by omega
    go_wp2_with fail
    refine (wrows_end w w0 HS.out.bel).mono ?_
    rintro e w2 ⟨rfl, hb2⟩
    have HF := Lib.hid hb2
    clear hb2
    go_wp2_with fail
    go_ret
    exact ⟨rfl, HF.out⟩
  · have h1' : ¬ (400 : Int) < (m : Int) := by omega
    by_cases h2 : 400 < m'
    · have h2' : (400 : Int) < (m' : Int) := by omega
      go_wp2_with fail
      refine (wrows_end w w0 HS.out.bel).mono ?_
      rintro e w2 ⟨rfl, hb2⟩
      have HF := Lib.hid hb2
      clear hb2
      go_wp2_with fail
      go_ret
      exact ⟨rfl, HF.out⟩
    · have h2' : ¬ (400 : Int) < (m' : Int) := by omega
      have hlr : r.t.length ≤ 100000 := by rw [HM.out.1]; omega
      have hlr' : r'.t.length ≤ 100000 := by rw [HM.out.2]; omega
      have HL := Lib.hid (And.intro hlr hlr')
      obtain ⟨-, -, -, -, d1, d2, -⟩ := blk_row HS.out.b0 hr
      have hra : RowR (· < w.heap.size) w0 r (.slice x m cap) := HA.out.1.keep HS.out.bel.size (fun b hb _ => HS.out.bel.block b hb)
      have hrb : RowR (· < w.heap.size) w0 r' (.slice x' m' cap') := HA.out.2.keep HS.out.bel.size (fun b hb _ => HS.out.bel.block b hb)
      have HRA := Lib.hid (And.intro hra hrb)
      have HC := Lib.hid (twin_any _ r hr (.slice x m cap) w0 hra hlr)
      clear hlr hlr' hra hrb
      go_wp2_with fail
      refine HC.out.mono ?_
      rintro e w1 ⟨tt, rfl, htt, hb1⟩
      clear HC d1 d2 f56 g56
      have hl1 := Rw.len hr tt
      have hc1 := htt.row.cell1 hr
      go_upto_region 4 with fail
      have hB1 : Below w0.heap.size w0 (w1.alloc (.cells (r.vals tt).toArray 62)) := hb1.alloc hb1.size _
      have k7 : Blk (w1.alloc (.cells (r.vals tt).toArray 62)) w1.heap.size 62 (r.vals tt).toArray := Blk.new _ _ _
      have htt2 := htt.below ((Below.refl w1.heap.size w1).alloc (Nat.le_refl _) (.cells (r.vals tt).toArray 62))
      generalize w1.alloc (.cells (r.vals tt).toArray 62) = w2 at hB1 k7 htt2 ⊢
      have H2 := Lib.hid (And.intro hB1 (And.intro k7 htt2))
      obtain ⟨-, -, -, -, d1, d2, -⟩ := blk_row (HS.out.b1.below hB1 HS.out.b1.lt) hr'
      have HC := Lib.hid (twin_any _ r' hr' (.slice x' m' cap') w2 (HRA.out.2.below hB1) HL.out.2)
      clear hb1 htt hB1 k7 htt2 hl1 hc1
      go_wp2_with fail
      refine HC.out.mono ?_
      rintro e w3 ⟨tu, rfl, htu, hb3⟩
      clear HC d1 d2
      have hl1 := Rw.len hr' tu
      have hc1 := htu.row.cell1 hr'
      go_upto_region 5 with fail
      have hB3 : Below w2.heap.size w2 (w3.alloc (.cells (r'.vals tu).toArray 62)) := hb3.alloc hb3.size _
      have k8 : Blk (w3.alloc (.cells (r'.vals tu).toArray 62)) w3.heap.size 62 (r'.vals tu).toArray := Blk.new _ _ _
      have htu2 := htu.below ((Below.refl w3.heap.size w3).alloc (Nat.le_refl _) (.cells (r'.vals tu).toArray 62))
      generalize w3.alloc (.cells (r'.vals tu).toArray 62) = w4 at hB3 k8 htu2 ⊢
      have H4 := Lib.hid (And.intro hB3 (And.intro k8 (And.intro htu2 hb3.size)))
      obtain ⟨-, -, -, -, d1, d2, -⟩ := blk_row (H2.out.2.1.below hB3 H2.out.2.1.lt) hr
      have HC := Lib.hid (copy_any _ r hr tt w4 (H2.out.2.2.row.below hB3) HL.out.1)
      clear hb3 htu hB3 k8 htu2 hl1 hc1
      go_wp2_with fail
      refine HC.out.mono ?_
      rintro e w5 ⟨xc, rfl, htc, hb5⟩
      clear HC d1 d2
      have hl1 := Rw.len hr (.slice xc r.t.length r.t.length)
      have hc1 := htc.1.cell1 hr
      generalize htcv : Value.slice xc r.t.length r.t.length = tc at hl1 hc1 htc ⊢
      have HTC := Lib.hid htcv
      clear htcv
      go_upto_region 6 with fail
      have hB5 : Below w4.heap.size w4 (w5.alloc (.cells (r.vals tc).toArray 62)) := hb5.alloc hb5.size _
      have k9 : Blk (w5.alloc (.cells (r.vals tc).toArray 62)) w5.heap.size 62 (r.vals tc).toArray := Blk.new _ _ _
      have htc2 := htc.below ((Below.refl w5.heap.size w5).alloc (Nat.le_refl _) (.cells (r.vals tc).toArray 62))
      generalize w5.alloc (.cells (r.vals tc).toArray 62) = w6 at hB5 k9 htc2 ⊢
      have H6 := Lib.hid (And.intro hB5 (And.intro k9 (And.intro htc2 hb5.size)))
      have k7 := (H2.out.2.1.below H4.out.1 H2.out.2.1.lt).below hB5 (H2.out.2.1.below H4.out.1 H2.out.2.1.lt).lt
      obtain ⟨-, -, -, -, d1, d2, -⟩ := blk_row k7 hr
      have HC := Lib.hid (plain_any _ n r hr tt w6 ((H2.out.2.2.row.below H4.out.1).below hB5))
      clear hb5 htc hB5 k9 htc2 hl1 hc1 k7
      go_wp2_with fail
      refine HC.out.mono ?_
      rintro e w7 ⟨tp, rfl, htp, hb7⟩
      clear HC d1 d2
      have hok := Rw.plain_ok (n := n) hr
      have hl1 := Rw.len hok tp
      have hc1 := htp.1.cell1 hok
      go_upto_region 7 with fail
      have hB7 : Below w6.heap.size w6 (w7.alloc (.cells ((r.plain n).vals tp).toArray 62)) := hb7.alloc hb7.size _
      have k10 : Blk (w7.alloc (.cells ((r.plain n).vals tp).toArray 62)) w7.heap.size 62 ((r.plain n).vals tp).toArray := Blk.new _ _ _
      have htp2 := htp.below ((Below.refl w7.heap.size w7).alloc (Nat.le_refl _) (.cells ((r.plain n).vals tp).toArray 62))
      generalize w7.alloc (.cells ((r.plain n).vals tp).toArray 62) = w8 at hB7 k10 htp2 ⊢
      have hWR : WR w n r r' (.slice x m cap) (.slice x' m' cap') tt tu tc tp w1.heap.size w3.heap.size w5.heap.size w7.heap.size w4.heap.size w8.heap.size w8 := by
        have e6 := H6.out.1
        have e4 := H4.out.1
        have e2 := H2.out.1
        have s0 := HS.out.bel.size
        have s2 := e2.size
        have s4 := e4.size
        have s6 := e6.size
        have s8 := hB7.size
        have B48 : Below w4.heap.size w4 w8 := below_step e6 hB7 s6
        have B28 : Below w2.heap.size w2 w8 := below_step e4 B48 s4
        have B08 : Below w0.heap.size w0 w8 := below_step e2 B28 s2
        refine ⟨HS.out.b0.below B08 HS.out.b0.lt, HS.out.b1.below B08 HS.out.b1.lt, H2.out.2.1.below B28 H2.out.2.1.lt, H4.out.2.1.below B48 H4.out.2.1.lt, H6.out.2.1.below hB7 H6.out.2.1.lt, k10, HRA.out.1.below B08, HRA.out.2.below B08,
          (H2.out.2.2.mono (fun b h1 h2 => ⟨by omega, by omega⟩)).below B28, (H4.out.2.2.1.mono (fun b h1 h2 => ⟨by omega, by omega⟩)).below B48, (H6.out.2.2.1.mono (fun b h1 h2 => ⟨by omega, by omega⟩)).below hB7, htp2.mono (fun b h1 h2 => ⟨by omega, by omega⟩), below_step HS.out.bel B08 s0, by omega, by omega⟩
      have HW := Lib.hid hWR
      clear hb7 htp hB7 k10 htp2 hl1 hc1 hWR HRA HA HS H2 H4 H6
      obtain ⟨dd, hdd⟩ : ∃ dd : Bool, dd = true ↔ r = r' := by classical exact ⟨decide (r = r'), by simp⟩
      have HD := Lib.hid hdd
      clear hdd
      have hnk := nrm_ok hr.1
      have HF : Hid (∀ w' : World, Below w8.heap.size w8 w' → hasRow w' ⟨w5.heap.size, 0, none⟩ 57 = true ∧ rowOf w' ⟨w5.heap.size, 0, none⟩ 57 = r.vals tc ∧ hasRow w' ⟨w.heap.size, 0, none⟩ 57 = true ∧ rowOf w' ⟨w.heap.size, 0, none⟩ 57 = r.vals (.slice x m cap) ∧ hasRow w' ⟨w.heap.size + 1, 0, none⟩ 57 = true ∧ rowOf w' ⟨w.heap.size + 1, 0, none⟩ 57 = r'.vals (.slice x' m' cap') ∧ hasRow w' ⟨w1.heap.size, 0, none⟩ 57 = true ∧ rowOf w' ⟨w1.heap.size, 0, none⟩ 57 = r.vals tt ∧ hasRow w' ⟨w3.heap.size, 0, none⟩ 57 = true ∧ rowOf w' ⟨w3.heap.size, 0, none⟩ 57 = r'.vals tu ∧ hasRow w' ⟨w7.heap.size, 0, none⟩ 57 = true ∧ rowOf w' ⟨w7.heap.size, 0, none⟩ 57 = (r.plain n).vals tp ∧ hasRow w' ⟨w.heap.size, 1, none⟩ 55 = true ∧ rowOf w' ⟨w.heap.size, 1, none⟩ 55 = r.c) := Lib.hid fun w' h => by
        have hw := HW.out.below h
        obtain ⟨-, -, -, -, p1, p2, -⟩ := blk_row hw.b9 hr
        obtain ⟨-, q3, q4, -, q1, q2, -⟩ := blk_row hw.b4 hr
        obtain ⟨-, -, -, -, r1, r2, -⟩ := blk_row hw.b5 hr'
        obtain ⟨-, -, -, -, s1, s2, -⟩ := blk_row hw.b7 hr
        obtain ⟨-, -, -, -, t1, t2, -⟩ := blk_row hw.b8 hr'
        obtain ⟨-, -, -, -, u1, u2, -⟩ := blk_row hw.b10 hok
        exact ⟨p1, p2, q1, q2, r1, r2, s1, s2, t1, t2, u1, u2, q3, q4⟩
      go_region_held3 (fun w' => hasRow w' ⟨w5.heap.size, 0, none⟩ 57 = true ∧ rowOf w' ⟨w5.heap.size, 0, none⟩ 57 = r.vals tc ∧ hasRow w' ⟨w.heap.size, 0, none⟩ 57 = true ∧ rowOf w' ⟨w.heap.size, 0, none⟩ 57 = r.vals (.slice x m cap) ∧ hasRow w' ⟨w.heap.size + 1, 0, none⟩ 57 = true ∧ rowOf w' ⟨w.heap.size + 1, 0, none⟩ 57 = r'.vals (.slice x' m' cap') ∧ hasRow w' ⟨w1.heap.size, 0, none⟩ 57 = true ∧ rowOf w' ⟨w1.heap.size, 0, none⟩ 57 = r.vals tt ∧ hasRow w' ⟨w3.heap.size, 0, none⟩ 57 = true ∧ rowOf w' ⟨w3.heap.size, 0, none⟩ 57 = r'.vals tu ∧ hasRow w' ⟨w7.heap.size, 0, none⟩ 57 = true ∧ rowOf w' ⟨w7.heap.size, 0, none⟩ 57 = (r.plain n).vals tp ∧ hasRow w' ⟨w.heap.size, 1, none⟩ 55 = true ∧ rowOf w' ⟨w.heap.size, 1, none⟩ 55 = r.c)
        (first | exact HF.out _ HB14.out | exact HF.out _ HB13.out | exact HF.out _ HB12.out | exact HF.out _ HB11.out | exact HF.out _ HB10.out | exact HF.out _ HB9.out | exact HF.out _ HB8.out | exact HF.out _ HB7.out | exact HF.out _ HB6.out | exact HF.out _ HB5.out | exact HF.out _ HB4.out | exact HF.out _ HB3.out | exact HF.out _ HB2.out | exact HF.out _ HB1.out | exact HF.out _ (Below.refl _ _).drew)
        ((first
          | (go_at_call 53; refine (rcellL_any r.c hr.1 _).mono ?_; rintro e u14 ⟨rfl, hb14⟩; have HB14 := Lib.hid (below_step HB13.out hb14 HB13.out.size); clear hb14)
          | (go_at_call 52; refine (cellL_any r.c hr.1 _).mono ?_; rintro e u13 ⟨rfl, hb13⟩; have HB13 := Lib.hid (below_step HB12.out hb13 HB12.out.size); clear hb13)
          | (go_at_call 44; refine (same_refl _ _ r hr tt tc _ (HW.out.below HB11.out).rt.row (HW.out.below HB11.out).rc.1).mono ?_; rintro e u12 ⟨rfl, hb12⟩; have HB12 := Lib.hid (below_step HB11.out hb12 HB11.out.size); clear hb12)
          | (go_at_call 49; refine (rsame_dd _ _ r r' dd HD.out hr hr' o9 o10 _ R10.out.1 R10.out.2).mono ?_; rintro e u11 ⟨rfl, hb11⟩; have HB11 := Lib.hid (below_step HB10.out hb11 HB10.out.size); clear hb11)
          | (go_at_call 50; refine (other_any _ r' hr' (.slice x' m' cap') _ (HW.out.below HB9.out).rb HL.out.2).mono ?_; rintro e u10 ⟨o10, rfl, hrow10, hb10⟩; have HB10 := Lib.hid (below_step HB9.out hb10 HB9.out.size); have R10 := Lib.hid (And.intro (R9.out.below hb10) hrow10); clear hrow10 hb10)
          | (go_at_call 50; refine (other_any _ r hr (.slice x m cap) _ (HW.out.below HB8.out).ra HL.out.1).mono ?_; rintro e u9 ⟨o9, rfl, hrow9, hb9⟩; have HB9 := Lib.hid (below_step HB8.out hb9 HB8.out.size); have R9 := Lib.hid hrow9; clear hrow9 hb9)
          | (go_at_call 44; refine (same_dd _ _ r r' dd HD.out hr hr' tt tu _ (HW.out.below HB7.out).rt.row (HW.out.below HB7.out).ru.row).mono ?_; rintro e u8 ⟨rfl, hb8⟩; have HB8 := Lib.hid (below_step HB7.out hb8 HB7.out.size); clear hb8)
          | (go_at_call 49; refine (rsame_refl _ _ (r.plain n) hok o4 o6 _ R6.out.1 R6.out.2).mono ?_; rintro e u7 ⟨rfl, hb7⟩; have HB7 := Lib.hid (below_step HB6.out hb7 HB6.out.size); clear hb7)
          | (go_at_call 51; refine (rplain_any _ n r hr o5 _ R5.out.2).mono ?_; rintro e u6 ⟨o6, rfl, hrow6, hb6⟩; have HB6 := Lib.hid (below_step HB5.out hb6 HB5.out.size); have R6 := Lib.hid (And.intro (R5.out.1.below hb6) hrow6); clear hrow6 hb6)
          | (go_at_call 50; refine (other_any _ r hr (.slice x m cap) _ (HW.out.below HB4.out).ra HL.out.1).mono ?_; rintro e u5 ⟨o5, rfl, hrow5, hb5⟩; have HB5 := Lib.hid (below_step HB4.out hb5 HB4.out.size); have R5 := Lib.hid (And.intro (R4.out.below hb5) hrow5); clear hrow5 hb5)
          | (go_at_call 50; refine (other_any _ (r.plain n) hok tp _ (HW.out.below HB3.out).rp.1 plain_tlen).mono ?_; rintro e u4 ⟨o4, rfl, hrow4, hb4⟩; have HB4 := Lib.hid (below_step HB3.out hb4 HB3.out.size); have R4 := Lib.hid hrow4; clear hrow4 hb4)
          | (go_at_call 49; refine (rsame_refl _ _ r hr o1 o2 _ R2.out.1 R2.out.2).mono ?_; rintro e u3 ⟨rfl, hb3⟩; have HB3 := Lib.hid (below_step HB2.out hb3 HB2.out.size); clear hb3)
          | (go_at_call 50; refine (other_any _ r hr (.slice x m cap) _ (HW.out.below HB1.out).ra HL.out.1).mono ?_; rintro e u2 ⟨o2, rfl, hrow2, hb2⟩; have HB2 := Lib.hid (below_step HB1.out hb2 HB1.out.size); have R2 := Lib.hid (And.intro (R1.out.below hb2) hrow2); clear hrow2 hb2)
          | (go_at_call 50; refine (other_any _ r hr tc _ (HW.out.below (Below.refl w8.heap.size w8).drew).rc.1 HL.out.1).mono ?_; rintro e u1 ⟨o1, rfl, hrow1, hb1⟩; have HB1 := Lib.hid (below_step (Below.refl w8.heap.size w8).drew hb1 (Below.refl w8.heap.size w8).drew.size); have R1 := Lib.hid hrow1; clear hrow1 hb1)))
      have HW14 := Lib.hid (HW.out.below HB14.out)
      obtain ⟨p1, p2, -⟩ := HF.out u14 HB14.out
      have HC := Lib.hid (spoil_any _ r hr tc u14 HW14.out.rc.1.slice HW14.out.rc.2)
      clear hnk HF
      go_wp2_with fail
      refine HC.out.mono ?_
      rintro e v1 ⟨⟨v, rfl⟩, hs1⟩
      have H1 := Lib.hid hs1
      obtain ⟨-, -, -, -, k10, -, -, -, -, hrm, -⟩ := HW14.out.spd hs1
      obtain ⟨-, -, -, -, p3, p4, -⟩ := blk_row k10 hok
      clear HC p1 p2
      have HC := Lib.hid (spoil_any _ (r.plain n) hok tp v1 HW14.out.rp.1.slice hrm)
      clear hs1 k10 hrm
      go_wp2_with fail
      refine HC.out.mono ?_
      rintro e v2 ⟨⟨v', rfl⟩, hs2⟩
      obtain ⟨k4, k5, k7, k8, -, i1, i2, i3, i4, -, i5⟩ := HW14.out.spd (H1.out.trans hs2)
      obtain ⟨-, -, -, -, q1, q2, -⟩ := blk_row k7 hr
      obtain ⟨-, -, -, -, q3, q4, -⟩ := blk_row k4 hr
      clear HC p3 p4 hs2
      have HC := Lib.hid (left_any _ _ r hr tt (.slice x m cap) v2 i3 i1 HL.out.1)
      have HJ := Lib.hid (And.intro k5 (And.intro k8 (And.intro i2 (And.intro i4 i5))))
      clear k4 k5 k7 k8 i1 i2 i3 i4 i5
      go_wp2_with fail
      refine HC.out.mono ?_
      rintro e v3 ⟨rfl, hb3⟩
      have HB := Lib.hid hb3
      obtain ⟨-, -, -, -, q5, q6, -⟩ := blk_row (HJ.out.1.below hb3 HJ.out.1.lt) hr'
      obtain ⟨-, -, -, -, q7, q8, -⟩ := blk_row (HJ.out.2.1.below hb3 HJ.out.2.1.lt) hr'
      clear HC q1 q2 q3 q4
      have HC := Lib.hid (left_any _ _ r' hr' tu (.slice x' m' cap') v3 (HJ.out.2.2.2.1.below hb3) (HJ.out.2.2.1.below hb3) HL.out.2)
      clear hb3
      go_wp2_with fail
      refine HC.out.mono ?_
      rintro e v4 ⟨rfl, hb4⟩
      have hsz := HJ.out.2.2.2.2.size
      have HB4 := Lib.hid (below_step (below_step HJ.out.2.2.2.2 HB.out hsz) hb4 (Nat.le_trans hsz HB.out.size))
      clear HC q5 q6 q7 q8 hb4 hsz
      go_wp2_with fail
      refine (wrows_end w v4 HB4.out).mono ?_
      rintro e v5 ⟨rfl, hb5⟩
      have HF := Lib.hid hb5
      clear hb5
      go_wp2_with fail
      go_ret
      exact ⟨rfl, HF.out⟩
end Go.Proofs.Ytphbmnjkhgfnoaa
