/-
  sennitlaw13.WordsChange, walked.
-/
import Derived.Test.YtphbmnjkhgfnoaaWrdN
import Derived.Deep.CutBlock
namespace Go.Proofs.Ytphbmnjkhgfnoaa
open Go.RowKit
set_option linter.unusedVariables false
set_option linter.unusedSimpArgs false

theorem same_ne (S S' : Nat → Prop) (r r' : Rw) (hne : r ≠ r') (hr : r.ok) (hr' : r'.ok) (tv tv' : Value) (w : World) (ht : RowR S w r tv) (ht' : RowR S' w r' tv') :
    Calls Try.prog 44 #[.agg (r.vals tv).toArray, .agg (r'.vals tv').toArray] w fun e w' => e = .returned (.bool false) ∧ Below w.heap.size w w' :=
  (same_any S S' r r' hr hr' tv tv' w ht ht').mono fun e w' h => ⟨by rw [h.1]; simp [hne], h.2⟩

set_option maxRecDepth 100000 in
set_option maxHeartbeats 8000000 in
theorem wchange_any (r : Rw) (hr : r.ok) (tv : Value) (p q : Int) (hp : 0 ≤ p ∧ p ≤ 255) (hq : 0 ≤ q ∧ q ≤ 255) (w : World) (ht : RowR (· < w.heap.size) w r tv) :
    Calls Try.prog 14 #[.agg (r.vals tv).toArray, .int .u8 p, .int .u8 q] w fun e w' => e = .returned (.bool true) ∧ Below w.heap.size w w' := by
  obtain ⟨x, m, cap, rfl, t1, t2, t3⟩ := id ht
  have hm : r.t.length = m := t1.1
  unfold maxLen at t3
  clear t1
  have hb0 : Blk (w.alloc (.cells (r.vals (.slice x m cap)).toArray 62)) w.heap.size 62 (r.vals (.slice x m cap)).toArray := Blk.new _ _ _
  have hB0 : Below w.heap.size w (w.alloc (.cells (r.vals (.slice x m cap)).toArray 62)) := (Below.refl _ _).alloc (Nat.le_refl _) _
  have HM := Lib.hid hm
  clear hm
  go_enter Try.func14, Try.ntmps14
  go_upto_region 1 with fail
  generalize w.alloc (.cells (r.vals (.slice x m cap)).toArray 62) = w0 at hb0 hB0 ⊢
  have F0 : Hid (∀ w' : World, Below w0.heap.size w0 w' → Blk w' w.heap.size 62 (r.vals (.slice x m cap)).toArray ∧ RowR (· < w.heap.size) w' r (.slice x m cap) ∧ Below w.heap.size w w') := Lib.hid fun w' h =>
    have hB := below_step hB0 h hB0.size
    ⟨hb0.below h hb0.lt, ht.keep hB.size (fun b hb _ => hB.block b hb), hB⟩
  obtain ⟨-, -, -, f56, d1, d2, -⟩ := blk_row hb0 hr
  have S0 : Hid (w.heap.size < w0.heap.size) := Lib.hid hb0.lt
  clear hb0 hB0 ht
  by_cases h1 : 40 < m
  · have h1' : (40 : Int) < (m : Int) := by omega
    go_wp2_with fail
    refine (wrows_end w w0 (F0.out w0 (Below.refl _ _)).2.2).mono ?_
    rintro e w2 ⟨rfl, hb2⟩
    have HF := Lib.hid hb2
    clear hb2
    go_wp2_with fail
    go_ret
    exact ⟨rfl, HF.out⟩
  · have h1' : ¬ (40 : Int) < (m : Int) := by omega
    have HC := Lib.hid (copy_any _ r hr (.slice x m cap) w0 (F0.out w0 (Below.refl _ _)).2.1 (by rw [HM.out]; omega))
    go_wp2_with fail
    refine HC.out.mono ?_
    rintro e w1 ⟨xc, rfl, htc, hb1⟩
    rw [HM.out] at htc ⊢
    clear HC d1 d2 f56
    have hl1 := Rw.len hr (.slice xc m m)
    have hc1 := htc.1.cell1 hr
    go_upto_region 4 with fail
    have hB1 : Below w0.heap.size w0 (w1.alloc (.cells (r.vals (.slice xc m m)).toArray 62)) := hb1.alloc hb1.size _
    have k7 : Blk (w1.alloc (.cells (r.vals (.slice xc m m)).toArray 62)) w1.heap.size 62 (r.vals (.slice xc m m)).toArray := Blk.new _ _ _
    have htc3 := (htc.mono (S' := fun b => w0.heap.size ≤ b ∧ b < w1.heap.size) (fun b h1 h2 => ⟨h2, h1⟩)).below ((Below.refl w1.heap.size w1).alloc (Nat.le_refl _) (.cells (r.vals (.slice xc m m)).toArray 62))
    generalize w1.alloc (.cells (r.vals (.slice xc m m)).toArray 62) = w2 at hB1 k7 htc3 ⊢
    have S2 : Hid (w0.heap.size ≤ w1.heap.size ∧ w1.heap.size < w2.heap.size) := Lib.hid ⟨hb1.size, k7.lt⟩
    have F2 : Hid (∀ w' : World, Below w2.heap.size w2 w' → Below w0.heap.size w0 w' ∧ Blk w' w1.heap.size 62 (r.vals (.slice xc m m)).toArray ∧ RowX (fun b => w0.heap.size ≤ b ∧ b < w1.heap.size) w' r (.slice xc m m)) := Lib.hid fun w' h =>
      ⟨below_step hB1 h hB1.size, k7.below h k7.lt, htc3.below h⟩
    obtain ⟨i1, i2, i3⟩ := F2.out w2 (Below.refl _ _)
    obtain ⟨j1, j2, j3⟩ := F0.out w2 i1
    obtain ⟨-, -, -, -, d1, d2, -⟩ := blk_row i2 hr
    obtain ⟨-, -, -, -, d3, d4, -⟩ := blk_row j1 hr
    have HC := Lib.hid (same_refl _ _ r hr (.slice x m cap) (.slice xc m m) w2 j2 i3.1)
    clear hb1 htc hB1 k7 htc3 i1 i2 i3 j1 j2 j3 hl1 hc1
    go_wp2_with fail
    refine HC.out.mono ?_
    rintro e w3 ⟨rfl, hb3⟩
    have HB3 := Lib.hid hb3
    obtain ⟨i1, i2, i3⟩ := F2.out w3 hb3
    obtain ⟨j1, j2, j3⟩ := F0.out w3 i1
    clear HC d1 d2 d3 d4 hb3
    obtain ⟨-, -, -, -, d1, d2, -⟩ := blk_row i2 hr
    obtain ⟨-, -, -, -, d3, d4, -⟩ := blk_row j1 hr
    have HC := Lib.hid (same_refl _ _ r hr (.slice xc m m) (.slice x m cap) w3 i3.1 j2)
    clear i1 i2 i3 j1 j2 j3
    go_wp2_with fail
    refine HC.out.mono ?_
    rintro e w4 ⟨rfl, hb4⟩
    have HB4 := Lib.hid (below_step HB3.out hb4 HB3.out.size)
    obtain ⟨i1, i2, i3⟩ := F2.out w4 HB4.out
    obtain ⟨j1, j2, j3⟩ := F0.out w4 i1
    have HW : Hid (W0 w r (.slice x m cap) w0.heap.size w1.heap.size (.slice xc m m) w4) := Lib.hid ⟨j1, j2, j3, i2, i3, S0.out, S2.out.1⟩
    clear HC d1 d2 d3 d4 hb4 i1 i2 i3 j1 j2 j3
    go_upto_block 0 with fail
    go_cut [8] from 26 to 115 (fun i wx => WC w r (.slice x m cap) w1.heap.size wx)
    case first =>
      have hcl : r.c.length = 55 := (okL_len hr.1).trans len_cellK
      obtain ⟨g0, -, -, g56, -, -, gz⟩ := blk_row HW.out.b7 hr
      have hcell : ∀ i, i < 55 → w4.cell? ⟨w1.heap.size, 1 + i, none⟩ = r.c[i]? := fun i hi => by
        rw [HW.out.b7.cell]
        simp [Rw.vals, show 1 + i = i + 1 from by omega, List.getElem?_append, hcl, hi]
      obtain ⟨Q, hQ, hQ8⟩ : ∃ Q : Nat, q % 8 = (Q : Int) ∧ Q < 8 := ⟨(q % 8).toNat, by omega, by omega⟩
      have hk : p % 7 = 0 ∨ p % 7 = 1 ∨ p % 7 = 2 ∨ p % 7 = 3 ∨ p % 7 = 4 ∨ p % 7 = 5 ∨ p % 7 = 6 := by omega
      rcases hk with hk | hk | hk | hk | hk | hk | hk
      · obtain ⟨v, c1, cw⟩ := okL_at hr.1 (show cellK[0]? = some (.i .i64) from rfl)
        have e1 : w4.cell? ⟨w1.heap.size, 1 + 0, none⟩ = some (.int .i64 v) := (hcell 0 (by omega)).trans c1
        have z1 := gz (1 + 0)
        simp only [Nat.reduceAdd] at e1 z1
        have HH := Lib.hid (And.intro c1 cw)
        clear hcell c1 g0 g56 gz cw
        go_wp2_with fail
        go_meet
        exact HW.out.cell hr HH.out.1 (w64_ok _) (w64_ne v)
      · obtain ⟨v, c1, cw⟩ := okL_at hr.1 (show cellK[6]? = some (.i .u32) from rfl)
        have e1 : w4.cell? ⟨w1.heap.size, 1 + 6, none⟩ = some (.int .u32 v) := (hcell 6 (by omega)).trans c1
        have z1 := gz (1 + 6)
        simp only [Nat.reduceAdd] at e1 z1
        have HH := Lib.hid (And.intro c1 cw)
        clear hcell c1 g0 g56 gz cw
        go_wp2_with fail
        go_meet
        exact HW.out.cell hr HH.out.1 (wu32_ok _) (by omega)
      · obtain ⟨v, c1, cw⟩ := okL_at hr.1 (show cellK[11]? = some (.i .u32) from rfl)
        have e1 : w4.cell? ⟨w1.heap.size, 1 + 11, none⟩ = some (.int .u32 v) := (hcell 11 (by omega)).trans c1
        have z1 := gz (1 + 11)
        simp only [Nat.reduceAdd] at e1 z1
        have HH := Lib.hid (And.intro c1 cw)
        clear hcell c1 g0 g56 gz cw
        go_wp2_with fail
        go_meet
        exact HW.out.cell hr HH.out.1 (wu32_ok _) (by omega)
      · obtain ⟨v, c1, cw⟩ := okL_at hr.1 (missK Q hQ8)
        have e1 : w4.cell? ⟨w1.heap.size, 1 + (21 + Q), none⟩ = some (.int .u8 v) := (hcell (21 + Q) (by omega)).trans c1
        have z1 := gz (1 + (21 + Q))
        rw [← Nat.add_assoc] at e1 z1
        simp only [Nat.reduceAdd] at e1 z1
        have HH := Lib.hid (And.intro c1 cw)
        clear hcell c1 g0 g56 gz cw
        go_wp2_with fail
        go_meet
        have := HW.out.cell hr HH.out.1 (wu8_ok (v + 1)) (by omega)
        rw [show 1 + (21 + Q) = 22 + Q from by omega] at this
        exact this
      · have z1 := gz 0
        clear hcell g56 gz
        go_wp2_with fail
        go_meet
        exact HW.out.is_ hr
      · have z1 := gz 56
        clear hcell g0 gz
        have hz1 : heldZ.all cell1 = true := by kernel_rfl
        obtain ⟨x', m', c', he, hrd, -⟩ := HW.out.rc.1
        cases he
        have HRD := Lib.hid (hrd.below ((Below.refl w4.heap.size w4).alloc (Nat.le_refl _) (.cells heldZ.toArray 60)) (fun _ _ h => h))
        have hlt7 : w1.heap.size < w4.heap.size := HW.out.b7.lt
        clear hrd
        have hm1 : m ≤ 100000 := by omega
        go_wp2_with (at_builtin; refine wpList_growH app_held (by rfl) (.tmp 111) (.tmp 113) (by rfl) xc m r.t (by rfl) HRD.out ⟨w4.heap.size, 0, none⟩ heldZ (by rfl) len_heldZ (hasRow_new w4 heldZ _ 0 56 (by rw [len_heldZ]; omega)) ((rowOf_new w4 heldZ _ 0 56 (by rw [len_heldZ]; omega)).trans (List.take_of_length_le (by rw [List.drop_zero, len_heldZ]; omega))) hz1 hm1 ?_; intro v1 w5 hown hg; obtain ⟨gv, cv, rfl, -, -⟩ := hown.form (by omega); have b5 : Blk w5 w1.heap.size 62 (r.vals (.slice xc m m)).toArray := (hg.block _ (by simp; omega) (by simp)).trans (HW.out.b7.alloc _); have hw5 := HW.out.app hr ((Below.refl w4.heap.size w4).alloc (Nat.le_refl _) (.cells heldZ.toArray 60)) hg (by rw [HM.out]) hown (by simp; omega); obtain ⟨-, -, -, c5, -, -, zz5⟩ := blk_row b5 hr; have z5 := zz5 56; have H5 := Lib.hid hw5; clear hown hg b5 hw5 zz5)
        go_meet
        exact H5.out
      · by_cases hm0 : m = 0
        · subst hm0
          clear hcell g0 gz
          go_wp2_with fail
          refine (wrows_end w w4 HW.out.bel).mono ?_
          rintro e w5 ⟨rfl, hb5⟩
          have HF := Lib.hid hb5
          clear hb5
          go_wp2_with fail
          go_ret
          exact ⟨rfl, HF.out⟩
        · obtain ⟨x', m', c', he, hrd, -⟩ := HW.out.rc.1
          cases he
          obtain ⟨b, off, rfl, hSb, hbw, -, -⟩ := hrd.whole (by omega)
          obtain ⟨I, hI, hIm⟩ : ∃ I : Nat, q % (m : Int) = (I : Int) ∧ I < m := ⟨(q % (m : Int)).toNat, by have := Int.emod_nonneg q (show (m : Int) ≠ 0 by omega); omega, by have := Int.emod_lt_of_pos q (show (0 : Int) < m by omega); have := Int.emod_nonneg q (show (m : Int) ≠ 0 by omega); omega⟩
          obtain ⟨y, hy⟩ : ∃ y, r.t[I]? = some y := ⟨_, List.getElem?_eq_getElem (by rw [HM.out]; exact hIm)⟩
          obtain ⟨v, c1, cw⟩ := okL_at (hr.2 y (List.mem_of_getElem? hy)) (scoreK Q hQ8)
          obtain ⟨b', off', he, -, -, k1, k2⟩ := hrd.2.2 I y hy
          cases he
          have e1 : w4.cell? ⟨b, off + I * 56 + 38 + Q, none⟩ = some (.int .u16 v) := by
            have := row_cell k1 k2 (1 + (37 + Q)) (by omega)
            rw [show off + I * 56 + 38 + Q = off + I * 56 + (1 + (37 + Q)) from by omega, this, show 1 + (37 + Q) = (37 + Q) + 1 from by omega]
            exact c1
          have z1 : w4.frozen? ⟨b, off + I * 56 + 38 + Q, none⟩ = false := by
            obtain ⟨b', off', cur, he, -, hcur, -⟩ := HW.out.rc.2 _ _ _ rfl I hIm
            cases he
            simp [World.frozen?, hcur]
          have hfin := HW.out.tab hr hy c1 (wu16_ok (v + 1)) (by omega)
          rw [show off + I * 56 + (1 + (37 + Q)) = off + I * 56 + 38 + Q from by omega] at hfin
          have HF := Lib.hid hfin
          have hm0' : ¬ (m : Int) = 0 := by omega
          clear hcell g0 gz k1 k2 c1 cw hfin hy hrd
          go_upto_region 10 with fail
          go_region
          all_goals go_wp2_with fail
          all_goals go_meet
          all_goals exact (WC.drew HF.out).cast (by omega) (u16w (v + 1)).symm
    case rest =>
      obtain ⟨b3, ra, bel, r2, tv2, hr2, hne, b7, rr2⟩ := hcut
      obtain ⟨-, -, -, -, d1, d2, -⟩ := blk_row b3 hr
      obtain ⟨-, -, -, -, d3, d4, -⟩ := blk_row b7 hr2
      have HJ := Lib.hid (And.intro b3 (And.intro ra (And.intro bel (And.intro b7 rr2))))
      have HC := Lib.hid (same_ne _ _ r r2 hne hr hr2 (.slice x m cap) tv2 wc ra rr2)
      clear b3 ra bel b7 rr2
      go_wp2_with fail
      refine HC.out.mono ?_
      rintro e w5 ⟨rfl, hb5⟩
      have HB := Lib.hid hb5
      clear HC d1 d2 d3 d4
      obtain ⟨-, -, -, -, d1, d2, -⟩ := blk_row (HJ.out.1.below hb5 HJ.out.1.lt) hr
      obtain ⟨-, -, -, -, d3, d4, -⟩ := blk_row (HJ.out.2.2.2.1.below hb5 HJ.out.2.2.2.1.lt) hr2
      have HC := Lib.hid (same_ne _ _ r2 r (fun e => hne e.symm) hr2 hr tv2 (.slice x m cap) w5 (HJ.out.2.2.2.2.below hb5) (HJ.out.2.1.below hb5))
      clear hb5
      go_wp2_with fail
      refine HC.out.mono ?_
      rintro e w6 ⟨rfl, hb6⟩
      have hsz := HJ.out.2.2.1.size
      have HB6 := Lib.hid (below_step (below_step HJ.out.2.2.1 HB.out hsz) hb6 (Nat.le_trans hsz HB.out.size))
      clear HC d1 d2 d3 d4 hb6 hsz
      go_wp2_with fail
      refine (wrows_end w w6 HB6.out).mono ?_
      rintro e w7 ⟨rfl, hb7⟩
      have HF := Lib.hid hb7
      clear hb7
      go_wp2_with fail
      go_ret
      exact ⟨rfl, HF.out⟩
end Go.Proofs.Ytphbmnjkhgfnoaa
