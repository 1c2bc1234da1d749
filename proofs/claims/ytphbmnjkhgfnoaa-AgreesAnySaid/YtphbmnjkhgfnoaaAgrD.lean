/-
  sennitlaw15.AgreesAny, walked.
-/
import Derived.Test.YtphbmnjkhgfnoaaAgrC
namespace Go.Proofs.Ytphbmnjkhgfnoaa
open Go.RowKit
set_option linter.unusedVariables false
set_option linter.unusedSimpArgs false

set_option maxRecDepth 100000 in
set_option maxHeartbeats 4000000 in
theorem agreesAny_any (n : Int) (a : Option Addr) (len cap : Nat) (l : List Rw) (w : World) (hrd : RdRs (· < w.heap.size) w a len l) (hm1 : len ≤ cap) (hm2 : cap ≤ maxLen) (hsz : szW l) :
    Calls Try.prog 3 #[.int .i64 n, .slice a len cap] w fun e w' => e = .returned (.bool true) ∧ Below w.heap.size w w' := by
  have hll : l.length = len := hrd.1
  have F0 : Hid (∀ w' : World, Below w.heap.size w w' → RdRs (· < w.heap.size) w' a len l) := Lib.hid fun w' h => hrd.below h (fun _ _ h => h)
  have HR := Lib.hid hrd
  have hrc := hrd
  clear hrd
  go_enter Try.func3, Try.ntmps3
  have HC := Lib.hid (great_any _ a len cap l w hrc hm1 hm2 hsz)
  clear hrc
  go_wp2_with fail
  refine HC.out.mono ?_
  rintro e w1 ⟨⟨bb, rfl, hsm⟩, hb1⟩
  have HB1 := Lib.hid hb1
  clear HC hb1
  cases bb with
  | true =>
    go_wp2_with fail
    refine (lives15_any w1).mono ?_
    rintro e w2 ⟨rfl, hb2⟩
    have HF := Lib.hid (below_step HB1.out hb2 HB1.out.size)
    clear hb2
    go_wp2_with fail
    go_ret
    exact ⟨rfl, HF.out⟩
  | false =>
    obtain ⟨hbig, hbt⟩ := smallW_le (hsm rfl)
    have HT := Lib.hid hbt
    clear hsm hbt
    rw [hll] at hbig
    have HC := Lib.hid (twinWord_any _ a len cap l w1 (F0.out w1 HB1.out) hm1 hm2 hbig HT.out)
    go_wp2_with fail
    (with_reducible refine HC.out.mono ?_)
    rintro e w2 ⟨ta, tcap, rfl, htr, ht1, ht2, hb2⟩
    rw [hll] at htr ht1 ⊢
    have S2 : Hid (w.heap.size ≤ w1.heap.size ∧ w1.heap.size ≤ w2.heap.size) := Lib.hid ⟨HB1.out.size, hb2.size⟩
    have F2 : Hid (∀ w' : World, Below w2.heap.size w2 w' → Below w.heap.size w w' ∧ RdTs (fun b => w1.heap.size ≤ b ∧ b < w2.heap.size) w' ta len l) := Lib.hid fun w' h => by
      have hs := S2.out
      exact ⟨below_step (below_step HB1.out hb2 hs.1) h (by omega), (htr.mono (fun b h1 h2 => ⟨h2, h1⟩)).below h⟩
    clear htr hb2 HC HB1
    obtain ⟨T, hT⟩ : ∃ T, T = tabL l := ⟨_, rfl⟩
    obtain ⟨A, hA⟩ : ∃ A, A = agreeL n l := ⟨_, rfl⟩
    have hTo : ∀ x ∈ T, x.ok := by rw [hT]; exact tabL_ok HR.out.2.1
    have hAo : ∀ x ∈ A, x.ok := by rw [hA]; exact agreeL_ok
    have hTl : T.length ≤ 100000 := by rw [hT]; simp [tabL, hll]; exact hbig
    have hAl : A.length ≤ 100000 := by
      rw [hA]; unfold agreeL
      split
      · simp; omega
      · simp
    have HV := Lib.hid (And.intro hT (And.intro hA (And.intro hTo hAo)))
    have hTm : T.length ≤ maxLen := by unfold maxLen; omega
    have hAm : A.length ≤ maxLen := by unfold maxLen; omega
    clear hT hA hTo hAo
    have HC := Lib.hid (table_any _ ta len tcap l w2 (F2.out w2 (Below.refl _ _)).2.rd ht1 ht2 hbig)
    rw [← HV.out.1] at HC
    go_wp2_with fail
    (with_reducible refine HC.out.mono ?_)
    rintro e w3 ⟨⟨va, rfl, hva⟩, hb3⟩
    have S3 : Hid (w2.heap.size ≤ w3.heap.size) := Lib.hid hb3.size
    have F3 : Hid (∀ w' : World, Below w3.heap.size w3 w' → Below w2.heap.size w2 w' ∧ VecS (fun b => w2.heap.size ≤ b ∧ b < w3.heap.size) T va w') := Lib.hid fun w' h => ⟨below_step hb3 h hb3.size, hva.toS.below h⟩
    clear hva hb3 HC
    have HC := Lib.hid (agree_any _ n ta len tcap l w3 (F2.out w3 (F3.out w3 (Below.refl _ _)).1).2.rd ht1 ht2)
    rw [← HV.out.2.1] at HC
    go_wp2_with fail
    (with_reducible refine HC.out.mono ?_)
    rintro e w4 ⟨⟨vb, rfl, hvb⟩, hb4⟩
    have S4 : Hid (w3.heap.size ≤ w4.heap.size) := Lib.hid hb4.size
    have F4 : Hid (∀ w' : World, Below w4.heap.size w4 w' → Below w3.heap.size w3 w' ∧ VecS (fun b => w3.heap.size ≤ b ∧ b < w4.heap.size) A vb w') := Lib.hid fun w' h => ⟨below_step hb4 h hb4.size, hvb.toS.below h⟩
    clear hvb hb4 HC
    have B0 : Hid (∀ w' : World, Below w4.heap.size w4 w' → Below w.heap.size w w') := Lib.hid fun w' h => (F2.out w' (F3.out w' (F4.out w' h).1).1).1
    have HC := Lib.hid (othersR_any _ a len cap l w4 (F0.out w4 (B0.out w4 (Below.refl _ _))) hm1 hm2 hbig HT.out)
    go_wp2_with fail
    (with_reducible refine HC.out.mono ?_)
    rintro e u1 ⟨oa, ocap, rfl, hoa, ho1, ho2, hbo⟩
    rw [hll] at hoa ho1 ⊢
    clear HC
    have HC := Lib.hid (rtable_any _ oa len ocap l u1 hoa ho1 ho2 hbig)
    rw [← HV.out.1] at HC
    clear hoa
    go_wp2_with fail
    (with_reducible refine HC.out.mono ?_)
    rintro e w5 ⟨⟨xa, xcap, rfl, hx⟩, hb5⟩
    have S5 : Hid (w4.heap.size ≤ u1.heap.size ∧ u1.heap.size ≤ w5.heap.size) := Lib.hid ⟨hbo.size, hb5.size⟩
    have F5 : Hid (∀ w' : World, Below w5.heap.size w5 w' → Below w4.heap.size w4 w' ∧ RdHs (fun b => u1.heap.size ≤ b ∧ b < w5.heap.size) w' xa T.length T) := Lib.hid fun w' h => by
      have hs := S5.out
      exact ⟨below_step (below_step hbo hb5 hs.1) h (by omega), (hx.mono (fun b h1 h2 => ⟨h2, h1⟩)).below h (fun _ h _ => h.2)⟩
    clear hbo hb5 hx HC ho1 ho2
    have HC := Lib.hid (othersR_any _ a len cap l w5 (F0.out w5 (B0.out w5 (F5.out w5 (Below.refl _ _)).1)) hm1 hm2 hbig HT.out)
    go_wp2_with fail
    (with_reducible refine HC.out.mono ?_)
    rintro e u2 ⟨ob, obcap, rfl, hoa, ho1, ho2, hbo⟩
    rw [hll] at hoa ho1 ⊢
    clear HC
    have HC := Lib.hid (ragree_any _ n ob len obcap l u2 hoa ho1 ho2)
    rw [← HV.out.2.1] at HC
    clear hoa
    go_wp2_with fail
    (with_reducible refine HC.out.mono ?_)
    rintro e w6 ⟨⟨ya, ycap, rfl, hy⟩, hb6⟩
    have S6 : Hid (w5.heap.size ≤ u2.heap.size ∧ u2.heap.size ≤ w6.heap.size) := Lib.hid ⟨hbo.size, hb6.size⟩
    have F6 : Hid (∀ w' : World, Below w6.heap.size w6 w' → Below w5.heap.size w5 w' ∧ RdHs (fun b => u2.heap.size ≤ b ∧ b < w6.heap.size) w' ya A.length A) := Lib.hid fun w' h => by
      have hs := S6.out
      exact ⟨below_step (below_step hbo hb6 hs.1) h (by omega), (hy.mono (fun b h1 h2 => ⟨h2, h1⟩)).below h (fun _ h _ => h.2)⟩
    clear hbo hb6 hy HC ho1 ho2
    have F : Hid (∀ w' : World, Below w6.heap.size w6 w' → Below w.heap.size w w' ∧ RdRs (· < w.heap.size) w' a len l ∧ RdTs (fun b => w1.heap.size ≤ b ∧ b < w2.heap.size) w' ta len l ∧ VecS (fun b => w2.heap.size ≤ b ∧ b < w3.heap.size) T va w' ∧ VecS (fun b => w3.heap.size ≤ b ∧ b < w4.heap.size) A vb w' ∧ RdHs (fun b => u1.heap.size ≤ b ∧ b < w5.heap.size) w' xa T.length T ∧ RdHs (fun b => u2.heap.size ≤ b ∧ b < w6.heap.size) w' ya A.length A) := Lib.hid fun w' h => by
      obtain ⟨h5, hy⟩ := F6.out w' h
      obtain ⟨h4, hx⟩ := F5.out w' h5
      obtain ⟨h3, hvb⟩ := F4.out w' h4
      obtain ⟨h2, hva⟩ := F3.out w' h3
      obtain ⟨h0, ht⟩ := F2.out w' h2
      exact ⟨h0, F0.out w' h0, ht, hva, hvb, hx, hy⟩
    clear F2 F3 F4 F5 F6 B0
    obtain ⟨-, -, -, hva, -, hx, -⟩ := F.out w6 (Below.refl _ _)
    obtain ⟨aa, hvae, hra⟩ := hva.rd HV.out.2.2.1
    have HC := Lib.hid (vsame_eq _ _ aa xa T.length xcap T w6 hra hx hTm)
    rw [← hvae] at HC
    clear hvae
    clear hva hra hx
    go_wp2_with fail
    (with_reducible refine HC.out.mono ?_)
    rintro e w7 ⟨rfl, hb7⟩
    have H7 := Lib.hid hb7
    clear HC hb7
    obtain ⟨-, -, -, -, hvb, -, hy⟩ := F.out w7 H7.out
    obtain ⟨ab, hvbe, hrb⟩ := hvb.rd HV.out.2.2.2
    have HC := Lib.hid (vsame_eq _ _ ab ya A.length ycap A w7 hrb hy hAm)
    rw [← hvbe] at HC
    clear hvbe
    clear hvb hrb hy
    go_wp2_with fail
    (with_reducible refine HC.out.mono ?_)
    rintro e w8 ⟨rfl, hb8⟩
    have H8 := Lib.hid (below_step H7.out hb8 H7.out.size)
    clear HC hb8
    obtain ⟨-, hl8, ht8, -⟩ := F.out w8 H8.out
    have HC := Lib.hid (leftWord_any _ _ ta a len tcap cap l w8 ht8 ht1 ht2 hl8 hm1 hm2 HT.out)
    clear hl8 ht8
    go_wp2_with fail
    (with_reducible refine HC.out.mono ?_)
    rintro e w9 ⟨rfl, hb9⟩
    have H9 := Lib.hid (below_step H8.out hb9 H8.out.size)
    clear HC hb9
    obtain ⟨-, -, -, hva, -⟩ := F.out w9 H9.out
    have HC := Lib.hid (vspoil_any HV.out.2.2.1 hTm hva)
    clear hva
    go_wp2_with fail
    (with_reducible refine HC.out.mono ?_)
    rintro e v1 ⟨⟨q1, rfl⟩, hc1⟩
    have hvb1 := (F.out w9 H9.out).2.2.2.2.1.keep (w' := v1) (fun b hb hlt => hc1.block b hlt (by omega))
    have HC1 := Lib.hid hc1
    clear HC hc1
    have HC := Lib.hid (vspoil_any HV.out.2.2.2 hAm hvb1)
    clear hvb1
    go_wp2_with fail
    (with_reducible refine HC.out.mono ?_)
    rintro e v2 ⟨⟨q2, rfl⟩, hc2⟩
    have G : Hid (∀ w' : World, Below v2.heap.size v2 w' → Below w.heap.size w w' ∧ RdRs (· < w.heap.size) w' a len l ∧ RdTs (fun b => w1.heap.size ≤ b ∧ b < w2.heap.size) w' ta len l ∧ RdHs (fun b => u1.heap.size ≤ b ∧ b < w5.heap.size) w' xa T.length T ∧ RdHs (fun b => u2.heap.size ≤ b ∧ b < w6.heap.size) w' ya A.length A) := Lib.hid fun w' h => by
      obtain ⟨h0, hl, ht, -, -, hx, hy⟩ := F.out w9 H9.out
      have s2 := S2.out; have s3 := S3.out; have s4 := S4.out; have s5 := S5.out; have s6 := S6.out
      have c1 := HC1.out
      have sz := h0.size; have sv := c1.size
      have hB : Below w.heap.size w v2 := ⟨(hc2.os.trans c1.os).trans h0.os, (hc2.tape.trans c1.tape).trans h0.tape, (hc2.output.trans c1.output).trans h0.output, Nat.le_trans h0.size (Nat.le_trans c1.size hc2.size), fun b hb => ((hc2.block b (by omega) (by omega)).trans (c1.block b (by omega) (by omega))).trans (h0.block b hb)⟩
      have kp : ∀ b, b < w9.heap.size → (¬ (w2.heap.size ≤ b ∧ b < w4.heap.size)) → v2.heap[b]? = w9.heap[b]? := fun b hb hn => (hc2.block b (by omega) (by omega)).trans (c1.block b hb (by omega))
      have sv2 : w9.heap.size ≤ v2.heap.size := Nat.le_trans c1.size hc2.size
      exact ⟨below_step hB h hB.size, F0.out w' (below_step hB h hB.size), (ht.keep sv2 (fun b hb hlt => kp b hlt (by omega))).below h, (hx.keep sv2 (fun b hb hlt => kp b hlt (by omega))).below h (fun _ _ h => h), (hy.keep sv2 (fun b hb hlt => kp b hlt (by omega))).below h (fun _ _ h => h)⟩
    clear HC hc2 HC1 F
    have HC := Lib.hid (table_any _ ta len tcap l v2 (G.out v2 (Below.refl _ _)).2.2.1.rd ht1 ht2 hbig)
    rw [← HV.out.1] at HC
    go_wp2_with fail
    (with_reducible refine HC.out.mono ?_)
    rintro e x1 ⟨⟨vc, rfl, hvc⟩, hb1⟩
    have HB1 := Lib.hid hb1
    clear HC hb1
    obtain ⟨-, -, -, hx, -⟩ := G.out x1 HB1.out
    obtain ⟨ac, hvce, hrc⟩ := hvc.toS.rd HV.out.2.2.1
    have HC := Lib.hid (vsame_eq _ _ ac xa T.length xcap T x1 hrc hx hTm)
    rw [← hvce] at HC
    clear hvce
    clear hvc hrc hx
    go_wp2_with fail
    (with_reducible refine HC.out.mono ?_)
    rintro e x2 ⟨rfl, hb2⟩
    have HB2 := Lib.hid (below_step HB1.out hb2 HB1.out.size)
    clear HC hb2
    have HC := Lib.hid (agree_any _ n ta len tcap l x2 (G.out x2 HB2.out).2.2.1.rd ht1 ht2)
    rw [← HV.out.2.1] at HC
    go_wp2_with fail
    (with_reducible refine HC.out.mono ?_)
    rintro e x3 ⟨⟨vd, rfl, hvd⟩, hb3⟩
    have HB3 := Lib.hid (below_step HB2.out hb3 HB2.out.size)
    clear HC hb3
    obtain ⟨-, -, -, -, hy⟩ := G.out x3 HB3.out
    obtain ⟨ad, hvde, hrd⟩ := hvd.toS.rd HV.out.2.2.2
    have HC := Lib.hid (vsame_eq _ _ ad ya A.length ycap A x3 hrd hy hAm)
    rw [← hvde] at HC
    clear hvde
    clear hvd hrd hy
    go_wp2_with fail
    (with_reducible refine HC.out.mono ?_)
    rintro e x4 ⟨rfl, hb4⟩
    have HB4 := Lib.hid (below_step HB3.out hb4 HB3.out.size)
    clear HC hb4
    obtain ⟨-, hl8, ht8, -⟩ := G.out x4 HB4.out
    have HC := Lib.hid (leftWord_any _ _ ta a len tcap cap l x4 ht8 ht1 ht2 hl8 hm1 hm2 HT.out)
    clear hl8 ht8
    go_wp2_with fail
    (with_reducible refine HC.out.mono ?_)
    rintro e x5 ⟨rfl, hb5⟩
    have HB5 := Lib.hid (below_step HB4.out hb5 HB4.out.size)
    clear HC hb5
    go_wp2_with fail
    refine (lives15_any x5).mono ?_
    rintro e x6 ⟨rfl, hb6⟩
    have HF := Lib.hid (G.out x6 (below_step HB5.out hb6 HB5.out.size)).1
    clear hb6
    go_wp2_with fail
    go_ret
    exact ⟨rfl, HF.out⟩
end Go.Proofs.Ytphbmnjkhgfnoaa
