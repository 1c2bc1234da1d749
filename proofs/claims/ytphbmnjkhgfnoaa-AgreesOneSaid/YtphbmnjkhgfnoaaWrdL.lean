/-
  sennitlaw13.WordsNorm, walked.
-/
import Derived.Test.YtphbmnjkhgfnoaaWrdK
import Derived.Test.YtphbmnjkhgfnoaaWrdG
import Derived.Test.YtphbmnjkhgfnoaaWrdH
namespace Go.Proofs.Ytphbmnjkhgfnoaa
open Go.RowKit
set_option linter.unusedVariables false
set_option linter.unusedSimpArgs false

theorem below_step {B : Nat} {a b c : World} (h : Below B a b) (k : Below b.heap.size b c) (hB : B ≤ b.heap.size) : Below B a c := h.trans (k.mono hB)
theorem Spd.row {S : Nat → Prop} {w w' : World} (h : Spd S w w') {b : Nat} {cur : Array Value} {t : TypeId} {fr : Nat × Nat} (hb : w.heap[b]? = some (.cells cur t fr)) (hn : t ≠ 60) : w'.heap[b]? = w.heap[b]? := by
  obtain ⟨c1, h1, h2, h3⟩ := h.kind b cur t fr hb
  rw [h1, h3 hn, hb]
theorem smallW_le {l : List Rw} (h : smallW l) : l.length ≤ 100000 ∧ ∀ r ∈ l, r.t.length ≤ 100000 := by
  unfold smallW at h
  exact ⟨by omega, fun r hr => by have := tot_le hr; omega⟩
theorem normW_len (n : Int) (l : List Rw) : (normW n l).length ≤ 16 := by
  unfold normW
  split
  · rename_i h
    rw [fillR_len]
    simp [mayN] at h
    omega
  · simp
theorem fillH_tlen {n : Int} {r : Rw} : (r.plain n).t.length ≤ 16 := by
  unfold Rw.plain
  split
  · rename_i h
    simp [mayN] at h
    rw [fillH_len]
    omega
  · simp [rw0]
theorem normW_tlen {n : Int} {l : List Rw} : ∀ r ∈ normW n l, r.t.length ≤ 100000 := fun r hr => by
  unfold normW at hr
  split at hr
  · rcases List.mem_append.1 hr with hr | hr
    · obtain ⟨y, -, rfl⟩ := List.mem_map.1 hr
      exact Nat.le_trans fillH_tlen (by omega)
    · rw [List.eq_of_mem_replicate hr]; simp [rw0]
  · cases hr

theorem NormRoom.keep {S : Nat → Prop} {w w' : World} {a : Option Addr} {len : Nat} (h : NormRoom S w a len) (hk : ∀ b, S b → b < w.heap.size → w'.heap[b]? = w.heap[b]?) : NormRoom S w' a len := fun k hlt => by
  obtain ⟨b, off, cur, tv, h1, h2, h3, h4, h5⟩ := h k hlt
  exact ⟨b, off, cur, tv, h1, h2, (hk b h2 (lt_of_some h3)).trans h3, (World.cell?_of_block (hk b h2 (lt_of_some h3))).trans h4, h5.keep hk⟩
theorem NormRoom.mono {S S' : Nat → Prop} {w : World} {a : Option Addr} {len : Nat} (h : NormRoom S w a len) (hs : ∀ b, b < w.heap.size → S b → S' b) : NormRoom S' w a len := fun k hlt => by
  obtain ⟨b, off, cur, tv, h1, h2, h3, h4, h5⟩ := h k hlt
  exact ⟨b, off, cur, tv, h1, hs b (lt_of_some h3) h2, h3, h4, h5.mono hs⟩

theorem sameAll_refl (S S' : Nat → Prop) (a a' : Option Addr) (len cap cap' : Nat) (l : List Rw) (w : World) (hrd : RdRs S w a len l) (hm1 : len ≤ cap) (hm2 : cap ≤ maxLen) (hrd' : RdRs S' w a' len l) (hm1' : len ≤ cap') (hm2' : cap' ≤ maxLen) (hbt : ∀ r ∈ l, r.t.length ≤ 100000) :
    Calls Try.prog 42 #[.slice a len cap, .slice a' len cap'] w fun e w' => e = .returned (.bool true) ∧ Below w.heap.size w w' :=
  (sameAll_any S S' a a' len cap len cap' l l w hrd hm1 hm2 hrd' hm1' hm2' hbt).mono fun e w' h => ⟨by rw [h.1]; simp, h.2⟩

set_option maxRecDepth 100000 in
set_option maxHeartbeats 4000000 in
theorem wnorm_any (n : Int) (a : Option Addr) (len cap : Nat) (l : List Rw) (w : World) (hrd : RdRs (· < w.heap.size) w a len l) (hm1 : len ≤ cap) (hm2 : cap ≤ maxLen) (hsz : szW l) :
    Calls Try.prog 11 #[.int .i64 n, .agg #[.slice a len cap]] w fun e w' => e = .returned (.bool true) ∧ Below w.heap.size w w' := by
  have hll : l.length = len := hrd.1
  go_enter Try.func11, Try.ntmps11
  go_upto_region 1 with fail
  have hb0 : Blk (w.alloc (.cells #[.slice a len cap] 25)) w.heap.size 25 #[.slice a len cap] := Blk.new _ _ _
  have hB0 : Below w.heap.size w (w.alloc (.cells #[.slice a len cap] 25)) := (Below.refl _ _).alloc (Nat.le_refl _) _
  generalize w.alloc (.cells #[.slice a len cap] 25) = w0 at hb0 hB0 ⊢
  have F0 : Hid (∀ w' : World, Below w0.heap.size w0 w' → Blk w' w.heap.size 25 #[.slice a len cap] ∧ RdRs (· < w.heap.size) w' a len l ∧ Below w.heap.size w w') := Lib.hid fun w' h =>
    have hB := below_step hB0 h hB0.size
    ⟨hb0.below h hb0.lt, hrd.below hB (fun _ h' _ => h'), hB⟩
  have c0 := hb0.cell 0
  simp at c0
  have S0 : Hid (w.heap.size < w0.heap.size) := Lib.hid hb0.lt
  have HR := Lib.hid hrd
  clear hb0 hB0 hrd
  go_wp2_with fail
  refine (great_any _ a len cap l w0 (F0.out w0 (Below.refl _ _)).2.1 hm1 hm2 hsz).mono ?_
  rintro e w1 ⟨⟨bb, rfl, hsm⟩, hb1⟩
  have HB1 := Lib.hid hb1
  obtain ⟨k1, k2, k3⟩ := F0.out w1 hb1
  have c1 := k1.cell 0
  simp at c1
  clear k1 k3 hb1 c0
  cases bb with
  | true =>
    go_wp2_with fail
    refine (lives13_any w1).mono ?_
    rintro e w2 ⟨rfl, hb2⟩
    have HF := Lib.hid (F0.out w2 (below_step HB1.out hb2 HB1.out.size)).2.2
    clear k2 hb2
    go_wp2_with fail
    go_ret
    exact ⟨rfl, HF.out⟩
  | false =>
    obtain ⟨hbig, hbt⟩ := smallW_le (hsm rfl)
    have HT := Lib.hid hbt
    clear hsm hbt
    rw [hll] at hbig
    have HC := Lib.hid (twinWord_any _ a len cap l w1 k2 hm1 hm2 hbig HT.out)
    clear k2
    go_wp2_with fail
    refine HC.out.mono ?_
    rintro e w2 ⟨ta, tcap, rfl, htr, ht1, ht2, hb2⟩
    rw [hll] at htr ht1 ⊢
    go_upto_region 4 with fail
    have hb3 : Blk (w2.alloc (.cells #[.slice ta len tcap] 25)) w2.heap.size 25 #[.slice ta len tcap] := Blk.new _ _ _
    have hB3 : Below w2.heap.size w2 (w2.alloc (.cells #[.slice ta len tcap] 25)) := (Below.refl _ _).alloc (Nat.le_refl _) _
    generalize w2.alloc (.cells #[.slice ta len tcap] 25) = w3 at hb3 hB3 ⊢
    have S3 : Hid (w.heap.size < w1.heap.size ∧ w1.heap.size ≤ w2.heap.size ∧ w2.heap.size < w3.heap.size) := Lib.hid ⟨Nat.lt_of_lt_of_le S0.out HB1.out.size, hb2.size, hb3.lt⟩
    have F1 : Hid (∀ w' : World, Below w3.heap.size w3 w' → Blk w' w.heap.size 25 #[.slice a len cap] ∧ RdRs (· < w.heap.size) w' a len l ∧ Below w.heap.size w w' ∧ Blk w' w2.heap.size 25 #[.slice ta len tcap] ∧ RdTs (fun b => w1.heap.size ≤ b ∧ b < w2.heap.size) w' ta len l) := Lib.hid fun w' h => by
      have hs := S3.out
      have e2 := below_step hB3 h (by omega)
      obtain ⟨f1, f2, f3⟩ := F0.out w' (below_step (below_step HB1.out hb2 HB1.out.size) e2 (by have := HB1.out.size; omega))
      exact ⟨f1, f2, f3, hb3.below h hb3.lt, (htr.mono (fun b h1 h2 => ⟨h2, h1⟩)).below e2⟩
    have c3 := hb3.cell 0
    simp at c3
    clear hb2 hb3 hB3 htr c1 HC HB1
    generalize hLL : normW n l = L
    have hL16 : L.length ≤ 16 := by rw [← hLL]; exact normW_len n l
    have hLt : ∀ r ∈ L, r.t.length ≤ 100000 := by rw [← hLL]; exact normW_tlen
    have HL := Lib.hid (And.intro hLL hLt)
    clear hLL hLt
    obtain ⟨N, hN⟩ : ∃ N, N = L.length := ⟨_, rfl⟩
    have HC := Lib.hid (norm_any _ n ta len tcap l w3 (F1.out w3 (Below.refl _ _)).2.2.2.2.rd ht1 ht2)
    rw [HL.out.1] at HC
    have HN := Lib.hid hN
    clear hN
    go_wp2_with fail
    refine HC.out.mono ?_
    rintro e wa ⟨na, ncap, rfl, hna, hn1, hn2, hba, hnr⟩
    rw [← HN.out] at hna hn1 hnr hL16 ⊢
    go_upto_region 5 with fail
    have hb4 : Blk (wa.alloc (.cells #[.slice na N ncap] 25)) wa.heap.size 25 #[.slice na N ncap] := Blk.new _ _ _
    have hB4 : Below wa.heap.size wa (wa.alloc (.cells #[.slice na N ncap] 25)) := (Below.refl _ _).alloc (Nat.le_refl _) _
    generalize wa.alloc (.cells #[.slice na N ncap] 25) = w4 at hb4 hB4 ⊢
    have S4 : Hid (w3.heap.size ≤ wa.heap.size ∧ wa.heap.size < w4.heap.size) := Lib.hid ⟨hba.size, hb4.lt⟩
    have F2 : Hid (∀ w' : World, Below w4.heap.size w4 w' → Below w3.heap.size w3 w' ∧ Blk w' wa.heap.size 25 #[.slice na N ncap] ∧ RdRs (fun b => w3.heap.size ≤ b ∧ b < wa.heap.size) w' na N L ∧ NormRoom (fun b => w3.heap.size ≤ b ∧ b < wa.heap.size) w' na N) := Lib.hid fun w' h => by
      have hs := S4.out
      have e2 := below_step hB4 h (by omega)
      exact ⟨below_step hba e2 (by omega), hb4.below h hb4.lt, (hna.mono (fun b h1 h2 => ⟨h2, h1⟩)).below e2 (fun _ _ h => h), (hnr.mono (fun b h1 h2 => ⟨h2, h1⟩)).keep (fun b _ hlt => e2.block b hlt)⟩
    have c4 := (F1.out w4 (F2.out w4 (Below.refl _ _)).1).1.cell 0
    simp at c4
    clear hba hb4 hB4 hna hnr c3 HC
    have HC := Lib.hid (othersR_any _ a len cap l w4 (F1.out w4 (F2.out w4 (Below.refl _ _)).1).2.1 hm1 hm2 hbig HT.out)
    go_wp2_with fail
    refine HC.out.mono ?_
    rintro e wo ⟨oa, ocap, rfl, hoa, ho1, ho2, hbo⟩
    rw [hll] at hoa ho1 ⊢
    clear HC
    have HC := Lib.hid (rnorm_any _ n oa len ocap l wo hoa ho1 ho2)
    rw [HL.out.1] at HC
    clear hoa
    go_wp2_with fail
    refine HC.out.mono ?_
    rintro e wb ⟨ra, rcap, rfl, hra, hr1, hr2, hbb⟩
    rw [← HN.out] at hra hr1 ⊢
    go_upto_region 6 with fail
    have hb5 : Blk (wb.alloc (.cells #[.slice ra N rcap] 107)) wb.heap.size 107 #[.slice ra N rcap] := Blk.new _ _ _
    have hB5 : Below wb.heap.size wb (wb.alloc (.cells #[.slice ra N rcap] 107)) := (Below.refl _ _).alloc (Nat.le_refl _) _
    generalize wb.alloc (.cells #[.slice ra N rcap] 107) = w5 at hb5 hB5 ⊢
    have S5 : Hid (w4.heap.size ≤ wo.heap.size ∧ wo.heap.size ≤ wb.heap.size ∧ wb.heap.size < w5.heap.size) := Lib.hid ⟨hbo.size, hbb.size, hb5.lt⟩
    have F3 : Hid (∀ w' : World, Below w5.heap.size w5 w' → Below w4.heap.size w4 w' ∧ Blk w' wb.heap.size 107 #[.slice ra N rcap] ∧ RdRs (fun b => wo.heap.size ≤ b ∧ b < wb.heap.size) w' ra N L) := Lib.hid fun w' h => by
      have hs := S5.out
      have e2 := below_step hB5 h (by omega)
      exact ⟨below_step hbo (below_step hbb e2 (by omega)) (by omega), hb5.below h hb5.lt, (hra.mono (fun b h1 h2 => ⟨h2, h1⟩)).below e2 (fun _ _ h => h)⟩
    clear hbo hbb hb5 hB5 hra HC c4
    obtain ⟨i1, i2, i3⟩ := F3.out w5 (Below.refl _ _)
    obtain ⟨i4, i5, i6, -⟩ := F2.out w5 i1
    have c6 := i5.cell 0
    have c7 := i2.cell 0
    simp at c6 c7
    have HC := Lib.hid (sameAll_refl _ _ na ra N ncap rcap L w5 i6 hn1 hn2 i3 hr1 hr2 HL.out.2)
    clear i1 i2 i3 i4 i5 i6
    go_wp2_with fail
    refine HC.out.mono ?_
    rintro e w6 ⟨rfl, hb6⟩
    have HB6 := Lib.hid hb6
    obtain ⟨j1, j2, j3, j4, j5⟩ := F1.out w6 (F2.out w6 (F3.out w6 hb6).1).1
    have d0 := j1.cell 0
    have d5 := j4.cell 0
    simp at d0 d5
    clear HC c6 c7
    have HC := Lib.hid (leftWord_any _ _ ta a len tcap cap l w6 j5 ht1 ht2 j2 hm1 hm2 HT.out)
    clear j1 j2 j3 j4 j5 hb6
    go_wp2_with fail
    refine HC.out.mono ?_
    rintro e w7 ⟨rfl, hb7⟩
    have HB7 := Lib.hid (below_step HB6.out hb7 HB6.out.size)
    obtain ⟨j1, j2, j3, j4, j5⟩ := F1.out w7 (F2.out w7 (F3.out w7 HB7.out).1).1
    have d7 := j4.cell 0
    simp at d7
    clear HC d0 d5
    have HC := Lib.hid (norm_any _ n ta len tcap l w7 j5.rd ht1 ht2)
    rw [HL.out.1] at HC
    clear j1 j2 j3 j4 j5 hb7
    go_wp2_with fail
    refine HC.out.mono ?_
    rintro e wc ⟨ma, mcap, rfl, hma, hq1, hq2, hbc, -⟩
    rw [← HN.out] at hma hq1 ⊢
    go_upto_region 9 with fail
    have hb8 : Blk (wc.alloc (.cells #[.slice ma N mcap] 25)) wc.heap.size 25 #[.slice ma N mcap] := Blk.new _ _ _
    have hB8 : Below wc.heap.size wc (wc.alloc (.cells #[.slice ma N mcap] 25)) := (Below.refl _ _).alloc (Nat.le_refl _) _
    generalize wc.alloc (.cells #[.slice ma N mcap] 25) = w8 at hb8 hB8 ⊢
    have S8 : Hid (w5.heap.size ≤ w7.heap.size ∧ w7.heap.size ≤ wc.heap.size ∧ wc.heap.size < w8.heap.size) := Lib.hid ⟨HB7.out.size, hbc.size, hb8.lt⟩
    have G : Hid (∀ wr : World, Spd (fun b => w3.heap.size ≤ b ∧ b < wa.heap.size) w8 wr → Blk wr w.heap.size 25 #[.slice a len cap] ∧ RdRs (· < w.heap.size) wr a len l ∧ Below w.heap.size w wr ∧ Blk wr w2.heap.size 25 #[.slice ta len tcap] ∧ RdTs (fun b => w1.heap.size ≤ b ∧ b < w2.heap.size) wr ta len l ∧
        Blk wr wa.heap.size 25 #[.slice na N ncap] ∧ Blk wr wb.heap.size 107 #[.slice ra N rcap] ∧ RdRs (fun b => wo.heap.size ≤ b ∧ b < wb.heap.size) wr ra N L ∧ Blk wr wc.heap.size 25 #[.slice ma N mcap] ∧ RdRs (fun b => w7.heap.size ≤ b ∧ b < wc.heap.size) wr ma N L) := Lib.hid fun wr hs => by
      have h3 := S3.out; have h4 := S4.out; have h5 := S5.out; have h8 := S8.out
      have e2 : Below w7.heap.size w7 w8 := below_step hbc hB8 (by omega)
      have e5 := below_step HB7.out e2 (by omega)
      obtain ⟨i1, i2, i3⟩ := F3.out w8 e5
      obtain ⟨i4, i5, i6, i7⟩ := F2.out w8 i1
      obtain ⟨j1, j2, j3, j4, j5⟩ := F1.out w8 i4
      have hc := hs.chg
      refine ⟨j1.chg hc (by omega), j2.chg hc (fun b _ h h' => by omega), j3.trans (hc.below (by omega) (fun k hk => by omega)), j4.chg hc (by omega), j5.keep hs.size (fun b h hlt => hc.block b hlt (by omega)), i5.chg hc (by omega), i2.chg hc (by omega), i3.chg hc (fun b _ h h' => by omega), hb8.chg hc (by omega), ?_⟩
      exact ((hma.mono (fun b h1 h2 => ⟨h2, h1⟩)).below hB8 (fun _ _ h => h)).chg hc (fun b _ h h' => by omega)
    have R : Hid (RdRs (fun b => w3.heap.size ≤ b ∧ b < wa.heap.size) w8 na N L ∧ NormRoom (fun b => w3.heap.size ≤ b ∧ b < wa.heap.size) w8 na N) := Lib.hid (by
      have h8 := S8.out
      have e5 := below_step HB7.out (below_step hbc hB8 (by omega)) (by omega)
      obtain ⟨-, -, i6, i7⟩ := F2.out w8 (F3.out w8 e5).1
      exact ⟨i6, i7⟩)
    clear hbc hb8 hB8 hma HC d7
    go_wp2_with fail
    go_loopw [9] (fun i wr => ∃ k : Nat, k ≤ N ∧ i = .int .i64 k ∧ Spd (fun b => w3.heap.size ≤ b ∧ b < wa.heap.size) w8 wr) (fun i _ => N - (intOf i).toNat)
    case atStart => exact ⟨0, by omega, rfl, Spd.refl _ _⟩
    case round =>
      obtain ⟨k, hk, rfl, hs⟩ := hrel
      obtain ⟨j1, j2, j3, j4, j5, j6, j7, j8, j9, j10⟩ := G.out wr hs
      have c6 := j6.cell 0
      simp at c6
      by_cases hlt : k < N
      · obtain ⟨b, off, x, m, cp, r, rfl, hS, hbw, hv, hok, hrl, hrc1, hr1', hr2', hr3, hr4, hr5, hr6, hr7⟩ := R.out.1.at_ k hlt
        obtain ⟨b', off', cur, tv, he, q1, q2, q3, q4⟩ := R.out.2 k hlt
        cases he
        have htv : tv = .slice x m cp := by rw [hr4] at q3; cases q3; rfl
        subst htv
        have hrow := row_block (n := 57) (p := ⟨b, off + k * 57, none⟩) (hs.row q2 (by decide))
        have d1 := hrow.1.trans hr1'
        have d2 : rowOf wr ⟨b, off + k * 57, none⟩ 57 = r.vals (.slice x m cp) := hrow.2.trans hr2'
        have HC := Lib.hid (spoil_any _ r hok (.slice x m cp) wr ⟨x, m, cp, rfl, hr6, hr7⟩ (q4.spd hs))
        have HS := Lib.hid hs
        clear j1 j2 j3 j4 j5 j6 j7 j8 j9 j10 hrow hr1' hr2' hr3 hr4 hr5 q2 q3 q4 hs hv hok hrc1
        go_wp2_with fail
        refine HC.out.mono ?_
        rintro e w9 ⟨⟨v, rfl⟩, hs9⟩
        have HS9 := Lib.hid (HS.out.trans hs9)
        clear hs9
        go_wp2
        exact ⟨⟨k + 1, by omega, by go_num, HS9.out⟩, by simp [intOf]; omega⟩
      · have hkN : k = N := by omega
        subst hkN
        have d8 := j9.cell 0
        have d7 := j7.cell 0
        simp at d8 d7
        have HJ := Lib.hid (And.intro j1 (And.intro j2 (And.intro j3 (And.intro j4 (And.intro j5 (And.intro j8 j10))))))
        have HC := Lib.hid (sameAll_refl _ _ ma ra k mcap rcap L wr j10 hq1 hq2 j8 hr1 hr2 HL.out.2)
        clear j1 j2 j3 j4 j5 j6 j7 j8 j9 j10 hs
        go_wp2_with fail
        refine HC.out.mono ?_
        rintro e w9 ⟨rfl, hb9⟩
        have HB9 := Lib.hid hb9
        have p0 := (HJ.out.1.below hb9 HJ.out.1.lt).cell 0
        have p5 := (HJ.out.2.2.2.1.below hb9 HJ.out.2.2.2.1.lt).cell 0
        simp at p0 p5
        clear HC d8 d7 c6 hb9
        have HC := Lib.hid (leftWord_any _ _ ta a len tcap cap l w9 (HJ.out.2.2.2.2.1.below HB9.out) ht1 ht2 (HJ.out.2.1.below HB9.out (fun _ _ h => h)) hm1 hm2 HT.out)
        go_wp2_with fail
        refine HC.out.mono ?_
        rintro e w10 ⟨rfl, hb10⟩
        have hsz := HJ.out.2.2.1.size
        have HB10 := Lib.hid (below_step (below_step HJ.out.2.2.1 HB9.out hsz) hb10 (Nat.le_trans hsz HB9.out.size))
        clear HC hb10 p0 p5
        go_wp2_with fail
        refine (lives13_any w10).mono ?_
        rintro e w11 ⟨rfl, hb11⟩
        have HF := Lib.hid (below_step HB10.out hb11 HB10.out.size)
        clear hb11
        go_wp2_with fail
        go_ret
        exact ⟨rfl, HF.out⟩
end Go.Proofs.Ytphbmnjkhgfnoaa
