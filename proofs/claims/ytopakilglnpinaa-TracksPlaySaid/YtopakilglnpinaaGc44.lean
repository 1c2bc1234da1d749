/-
  sennitlaw14.great, walked.
-/
import Derived.Test.YtopakilglnpinaaGc43
namespace Go.Proofs.Ytopakilglnpinaa
open Go.RowKit
set_option linter.unusedVariables false
set_option linter.unusedSimpArgs false

def GreatT (l : List Tk) (w : World) (e : Ending) (w' : World) : Prop := (∃ b, e = .returned (.bool b) ∧ (b = false → smallT l)) ∧ Below w.heap.size w w'
theorem greatT_true {l : List Tk} {w w' : World} (h : Below w.heap.size w w') : GreatT l w (.returned (.bool true)) w' := ⟨⟨true, rfl, by simp⟩, h⟩
/-- five words in a block of the call's own -/
structure Words5 (w0 : World) (wb : Nat) (t : Tk) (wa : Nat → Option Addr) (wn wc : Nat → Nat) (w : World) : Prop where
  c : ∀ m, m < 5 → w.cell? ⟨wb, m, none⟩ = some (insV wa wn wc m)
  rd : ∀ m, m < 5 → RdRs (· < w.heap.size) w (wa m) (wn m) (t.word m)
  le : ∀ m, m < 5 → wn m ≤ wc m ∧ wc m ≤ maxLen
  sz : ∀ m, m < 5 → szW (t.word m)
  bel : Below w0.heap.size w0 w
  lt : wb < w.heap.size
theorem Words5.below {w0 : World} {wb : Nat} {t : Tk} {wa : Nat → Option Addr} {wn wc : Nat → Nat} {w w' : World} (h : Words5 w0 wb t wa wn wc w) (hb : Below w.heap.size w w') : Words5 w0 wb t wa wn wc w' :=
  ⟨fun m hm => (hb.cell (p := ⟨wb, m, none⟩) h.lt).trans (h.c m hm), fun m hm => ((h.rd m hm).below hb (fun _ _ h => h)).mono (fun b hl _ => hl), h.le, h.sz, h.bel.trans (hb.mono h.bel.size), Nat.lt_of_lt_of_le h.lt hb.size⟩
theorem words5_of {S : Nat → Prop} {w0 : World} {b off : Nat} {a : Nat → Option Addr} {ln cp : Nat → Nat} {tv : Value} {t : Tk} (h : TkAt S w0 b off a ln cp tv t) :
    Words5 w0 (w0.heap.size + 1) t (fun m => if m < 4 then a m else some ⟨w0.heap.size, 0, none⟩) (fun m => if m < 4 then ln m else 1) (fun m => if m < 4 then cp m else 1)
      ((w0.alloc (.cells (t.own.vals tv).toArray 54)).alloc (.cells [insV a ln cp 0, insV a ln cp 1, insV a ln cp 2, insV a ln cp 3, .slice (some ⟨w0.heap.size, 0, none⟩) 1 1].toArray 34)) := by
  have s1 : (w0.alloc (.cells (t.own.vals tv).toArray 54)).heap.size = w0.heap.size + 1 := by simp
  have k0 := (Blk.new w0 54 (t.own.vals tv).toArray).alloc (.cells [insV a ln cp 0, insV a ln cp 1, insV a ln cp 2, insV a ln cp 3, .slice (some ⟨w0.heap.size, 0, none⟩) 1 1].toArray 34)
  have k1 := Blk.new (w0.alloc (.cells (t.own.vals tv).toArray 54)) 34 [insV a ln cp 0, insV a ln cp 1, insV a ln cp 2, insV a ln cp 3, .slice (some ⟨w0.heap.size, 0, none⟩) 1 1].toArray
  rw [s1] at k1
  have hB : Below w0.heap.size w0 ((w0.alloc (.cells (t.own.vals tv).toArray 54)).alloc (.cells [insV a ln cp 0, insV a ln cp 1, insV a ln cp 2, insV a ln cp 3, .slice (some ⟨w0.heap.size, 0, none⟩) 1 1].toArray 34)) := ((Below.refl _ _).alloc (Nat.le_refl _) _).alloc (by simp) _
  obtain ⟨q1, -⟩ := k1.rules
  have hm : ∀ m, m < 5 → m = 0 ∨ m = 1 ∨ m = 2 ∨ m = 3 ∨ m = 4 := fun m h => by omega
  refine ⟨fun m h5 => ?_, fun m h5 => ?_, fun m h5 => ?_, fun m h5 => ?_, hB, k1.lt⟩
  · rcases hm m h5 with rfl | rfl | rfl | rfl | rfl <;> (rw [q1]; rfl)
  · by_cases h4 : m < 4
    · simp only [Tk.word, h4, if_true]
      exact ((h.rd m h4).below hB (fun b hb hl => hl)).mono (fun b hl _ => hl)
    · simp only [Tk.word, h4, if_false]
      obtain ⟨z1, z2, -⟩ := k0.whole (n := 57) (Rw.len h.ro tv)
      obtain ⟨x, n, c, rfl, r1, r2, r3⟩ := h.rt
      refine ⟨rfl, fun r hr => by simp at hr; rw [hr]; exact h.ro, fun k r hk => ?_⟩
      cases k with
      | zero =>
        simp at hk
        subst hk
        exact ⟨w0.heap.size, 0, x, n, c, rfl, k0.lt, k0.lt, by simpa using z1, by simpa using z2, (r1.below hB (fun b _ hl => hl)).mono (fun b hl _ => hl), r2, r3⟩
      | succ k => simp at hk
  · by_cases h4 : m < 4
    · simp only [h4, if_true]; exact h.le m h4
    · simp only [h4, if_false]; simp [maxLen]
  · by_cases h4 : m < 4
    · simp only [Tk.word, h4, if_true]; exact h.sz m h4
    · simp only [Tk.word, h4, if_false]
      refine ⟨by simp, fun r hr => ?_⟩
      simp at hr
      rw [hr]; exact h.rz

set_option maxRecDepth 100000 in
set_option maxHeartbeats 4000000 in
theorem great14_any (x : Option Addr) (len cap : Nat) (l : List Tk) (w : World) (hrd : RdTk (· < w.heap.size) w x len l) (hm1 : len ≤ cap) (hm2 : cap ≤ maxLen) :
    Calls Try.prog 4 #[.slice x len cap] w (GreatT l w) := by
  have hll : l.length = len := hrd.1
  have HLL := Lib.hid hll
  have HR := Lib.hid hrd
  unfold maxLen at hm2
  have HB0 := Lib.hid (Below.refl w.heap.size w)
  clear hrd hll
  by_cases hbig : 40 < len
  · go_enter Try.func4, Try.ntmps4
    go_wp2
    go_ret
    exact greatT_true HB0.out
  · go_enter Try.func4, Try.ntmps4
    go_wp2_with fail
    go_loopw [3, 4] (fun n i wr => ∃ k N : Nat, k ≤ len ∧ i = .int .i64 k ∧ n = .int .i64 N ∧ N ≤ 6800 ∧ (∀ q t, q < k → l[q]? = some t → t.small) ∧ Below w.heap.size w wr) (fun _ i _ => len - (intOf i).toNat)
    case atStart => exact ⟨0, 0, by omega, rfl, rfl, by omega, fun q t hq => by omega, HB0.out⟩
    case round =>
      obtain ⟨k, N, hk, rfl, rfl, hN, hsm, hB⟩ := hrel
      have HS := Lib.hid (And.intro hsm hB)
      clear hsm hB
      by_cases hlt : k < len
      · obtain ⟨t, ht⟩ : ∃ t, l[k]? = some t := ⟨_, List.getElem?_eq_getElem (by rw [HLL.out]; exact hlt)⟩
        obtain ⟨b, off, a, ln, cp, tv, rfl, -, hbw, hT⟩ := (HR.out.below HS.out.2).2 k t ht
        obtain ⟨wo, rfl⟩ : ∃ wo : World, wo = wr := ⟨_, rfl⟩
        have HT := Lib.hid hT
        have HTK := Lib.hid ht
        have d0 := hT.c 0 (by omega)
        have d1 := hT.c 1 (by omega)
        have d2 := hT.c 2 (by omega)
        have d3 := hT.c 3 (by omega)
        have r1 := hT.r1
        obtain ⟨ov, hov⟩ : ∃ ov, ov = t.own.vals tv := ⟨_, rfl⟩
        have r2 : rowOf wo ⟨b, off + k * 62 + 4, none⟩ 57 = ov := by rw [hov]; exact hT.r2
        have hvl : ov.length = 57 := by rw [hov]; exact Rw.len hT.ro _
        obtain ⟨i0, hi0⟩ : ∃ i, i = insV a ln cp 0 := ⟨_, rfl⟩
        obtain ⟨i1, hi1⟩ : ∃ i, i = insV a ln cp 1 := ⟨_, rfl⟩
        obtain ⟨i2, hi2⟩ : ∃ i, i = insV a ln cp 2 := ⟨_, rfl⟩
        obtain ⟨i3, hi3⟩ : ∃ i, i = insV a ln cp 3 := ⟨_, rfl⟩
        rw [← hi0] at d0
        rw [← hi1] at d1
        rw [← hi2] at d2
        rw [← hi3] at d3
        rw [Nat.add_zero] at d0
        have e0 : lenC i0 1 = true := by rw [hi0]; rfl
        have e1 : lenC i1 1 = true := by rw [hi1]; rfl
        have e2 : lenC i2 1 = true := by rw [hi2]; rfl
        have e3 : lenC i3 1 = true := by rw [hi3]; rfl
        have f0 : cellsL i0 = [i0] := by rw [hi0]; rfl
        have f1 : cellsL i1 = [i1] := by rw [hi1]; rfl
        have f2 : cellsL i2 = [i2] := by rw [hi2]; rfl
        have f3 : cellsL i3 = [i3] := by rw [hi3]; rfl
        have HI := Lib.hid (And.intro hi0 (And.intro hi1 (And.intro hi2 (And.intro hi3 hov))))
        clear hT ht hi0 hi1 hi2 hi3 hov
        have F : Hid (∀ w' : World, Below wo.heap.size wo w' → (w'.cell? ⟨b, off + k * 62, none⟩ = some i0 ∧ w'.cell? ⟨b, off + k * 62 + 1, none⟩ = some i1 ∧ w'.cell? ⟨b, off + k * 62 + 2, none⟩ = some i2 ∧ w'.cell? ⟨b, off + k * 62 + 3, none⟩ = some i3 ∧ hasRow w' ⟨b, off + k * 62 + 4, none⟩ 57 = true ∧ rowOf w' ⟨b, off + k * 62 + 4, none⟩ 57 = ov)) := Lib.hid fun w' hb => by
          have hr := row_below hb (p := ⟨b, off + k * 62 + 4, none⟩) hbw 57
          exact ⟨(hb.cell (p := ⟨b, off + k * 62, none⟩) hbw).trans d0, (hb.cell (p := ⟨b, off + k * 62 + 1, none⟩) hbw).trans d1, (hb.cell (p := ⟨b, off + k * 62 + 2, none⟩) hbw).trans d2, (hb.cell (p := ⟨b, off + k * 62 + 3, none⟩) hbw).trans d3, hr.1.trans r1, hr.2.trans r2⟩
        obtain ⟨wa, wn, wc, HW5⟩ : ∃ wa wn wc, Hid (Words5 wo (wo.heap.size + 1) t wa wn wc ((wo.alloc (.cells ov.toArray 54)).alloc (.cells [i0, i1, i2, i3, .slice (some ⟨wo.heap.size, 0, none⟩) 1 1].toArray 34))) := ⟨_, _, _, Lib.hid (by
          obtain ⟨y0, y1, y2, y3, y4⟩ := HI.out
          rw [y0, y1, y2, y3, y4]; exact words5_of HT.out)⟩
        go_upto_region 7 with fail
        go_region_held3 (fun w' => (w'.cell? ⟨b, off + k * 62, none⟩ = some i0 ∧ w'.cell? ⟨b, off + k * 62 + 1, none⟩ = some i1 ∧ w'.cell? ⟨b, off + k * 62 + 2, none⟩ = some i2 ∧ w'.cell? ⟨b, off + k * 62 + 3, none⟩ = some i3 ∧ hasRow w' ⟨b, off + k * 62 + 4, none⟩ 57 = true ∧ rowOf w' ⟨b, off + k * 62 + 4, none⟩ 57 = ov))
          (with_reducible (first | exact F.out _ (Below.refl _ _).drew | exact F.out _ ((Below.refl _ _).alloc (Nat.le_refl _) _).drew | exact F.out _ (((Below.refl _ _).alloc (Nat.le_refl _) _).alloc (by simp) _).drew | exact F.out _ ((Below.refl _ _).drew.alloc (Nat.le_refl _) _) | exact F.out _ (((Below.refl _ _).drew.alloc (Nat.le_refl _) _).alloc (by simp) _)))
          (fail)
        clear d0 d1 d2 d3 r1 r2 e0 e1 e2 e3 f0 f1 f2 f3 hvl
        go_wp2_with fail
        have HWS : Hid (Below w.heap.size w wo ∧ w.heap.size ≤ wo.heap.size) := Lib.hid ⟨HS.out.2, HS.out.2.size⟩
        clear HI HT F
        go_loopw [3, 6] (fun n i wr => ∃ m N : Nat, m ≤ 5 ∧ i = .int .i64 m ∧ n = .int .i64 N ∧ N ≤ 6800 ∧ (∀ q, q < m → smallW (t.word q)) ∧ Words5 wo (wo.heap.size + 1) t wa wn wc wr) (fun _ i _ => 5 - (intOf i).toNat)
        case atStart => exact ⟨0, N, by omega, rfl, rfl, hN, fun q hq => by omega, HW5.out.below (Below.refl _ _).drew⟩
        case round =>
          obtain ⟨m, N, hm, rfl, rfl, hN, hsw, hW⟩ := hrel
          have HSW := Lib.hid hsw
          have HW := Lib.hid hW
          clear hsw hW
          by_cases hm5 : m < 5
          · have hm5' : (m : Int) < 5 := by omega
            obtain ⟨am, ham⟩ : ∃ am, am = wa m := ⟨_, rfl⟩
            obtain ⟨nm, hnm⟩ : ∃ nm, nm = wn m := ⟨_, rfl⟩
            obtain ⟨cm, hcm⟩ : ∃ cm, cm = wc m := ⟨_, rfl⟩
            obtain ⟨L, hL⟩ : ∃ L, L = t.word m := ⟨_, rfl⟩
            have hc0 : wr.cell? ⟨wo.heap.size + 1, m, none⟩ = some (.slice am nm cm) := by rw [ham, hnm, hcm]; exact HW.out.c m hm5
            have hrd : RdRs (· < wr.heap.size) wr am nm L := by rw [ham, hnm, hL]; exact HW.out.rd m hm5
            have hle : nm ≤ cm ∧ cm ≤ maxLen := by rw [hnm, hcm]; exact HW.out.le m hm5
            have hsz : szW L := by rw [hL]; exact HW.out.sz m hm5
            have HLL2 := Lib.hid hrd.1
            have HC := Lib.hid (great_any (· < wr.heap.size) am nm cm L wr hrd hle.1 hle.2 hsz)
            have HRD := Lib.hid hrd
            have HLM := Lib.hid hL
            obtain ⟨hle1, hle2⟩ := hle
            unfold maxLen at hle2
            clear ham hnm hcm hL hrd hsz
            go_wp2_with fail
            (with_reducible refine HC.out.mono ?_)
            rintro e w8 ⟨⟨bb, rfl, hsm⟩, hb8⟩
            have HB8 := Lib.hid (HW.out.below hb8)
            have hc8 : w8.cell? ⟨wo.heap.size + 1, m, none⟩ = some (.slice am nm cm) := (hb8.cell (p := ⟨wo.heap.size + 1, m, none⟩) HW.out.lt).trans hc0
            have HR8 : Hid (RdRs (· < wr.heap.size) w8 am nm L) := Lib.hid (HRD.out.below hb8 (fun _ _ h => h))
            have HTRUE : Hid (GreatT l w (.returned (.bool true)) w8) := Lib.hid (greatT_true (HWS.out.1.trans (HB8.out.bel.mono HWS.out.2)))
            have HSMM := Lib.hid hsm
            clear hsm hb8 hc0 HC
            cases bb with
            | true =>
              go_wp2_with fail
              go_ret
              exact HTRUE.out
            | false =>
              have hs := HSMM.out rfl
              have hs2 : L.length + tot L ≤ 800 := hs
              have HSL := Lib.hid hs
              rw [HLL2.out] at hs2
              clear hs
              by_cases h6 : 6000 < N
              · have h6' : (6000 : Int) < (N : Int) := by omega
                clear hs2
                go_wp2_with fail
                go_ret
                exact HTRUE.out
              · have h6' : ¬ (6000 : Int) < (N : Int) := by omega
                have hNn : N + nm ≤ 6800 := by omega
                have HS2 := Lib.hid hs2
                clear hs2
                go_wp2_with fail
                go_loopw [3, 7] (fun n i wr => ∃ j T : Nat, j ≤ nm ∧ i = .int .i64 j ∧ n = .int .i64 T ∧ T = N + nm + tot (L.take j) ∧ w8 = wr) (fun _ i _ => nm - (intOf i).toNat)
                case atStart => exact ⟨0, N + nm, by omega, rfl, by go_num, by simp [tot], rfl⟩
                case round =>
                  obtain ⟨j, T, hj, rfl, rfl, hT, rfl⟩ := hrel
                  have HTT := Lib.hid hT
                  have htk := tot_take L j
                  have hT2 : T ≤ 6800 := by have := HS2.out; omega
                  have HTK2 := Lib.hid htk
                  clear hT htk
                  by_cases hjn : j < nm
                  · obtain ⟨b2, off2, x2, m2, c2, r2, rfl, hS2, hbw2, hv2, hok2, -, -, -, -, -, g4, g5, g6, g7⟩ := HR8.out.at_ j hjn
                    have hm2 : r2.t.length = m2 := g5.1
                    have hts := tot_snoc hv2
                    have htk1 := tot_take L (j + 1)
                    have hsum : T + m2 = N + nm + tot (L.take (j + 1)) := by rw [hts, hm2]; have := HTT.out; omega
                    have hb7 : T + m2 ≤ 6800 := by have := HS2.out; omega
                    have HSUM := Lib.hid hsum
                    unfold maxLen at g7
                    clear hv2 hok2 g5 hm2 hts htk1 hsum
                    go_wp2_with fail
                    exact ⟨⟨j + 1, T + m2, by omega, by go_num, by go_num, HSUM.out, trivial⟩, by simp [intOf]; omega⟩
                  · obtain rfl : j = nm := by omega
                    have HFIN : Hid (∀ q, q < m + 1 → smallW (t.word q)) := Lib.hid fun q hq => by
                      by_cases e : q = m
                      · subst e; rw [← HLM.out]; exact HSL.out
                      · exact HSW.out q (by omega)
                    go_wp2_with fail
                    exact ⟨⟨m + 1, T, by omega, by go_num, by go_num, hT2, HFIN.out, HB8.out⟩, by simp [intOf]; omega⟩
          · obtain rfl : m = 5 := by omega
            have HFIN : Hid (∀ q t', q < k + 1 → l[q]? = some t' → t'.small) := Lib.hid fun q t' hq ht' => by
              by_cases e : q = k
              · subst e
                rw [HTK.out] at ht'
                cases ht'
                exact Tk.small_of HSW.out
              · exact HS.out.1 q t' (by omega) ht'
            have HBF : Hid (Below w.heap.size w wr) := Lib.hid (HWS.out.1.trans (HW.out.bel.mono HWS.out.2))
            go_wp2_with fail
            exact ⟨⟨k + 1, N, by omega, by go_num, by go_num, hN, HFIN.out, HBF.out⟩, by simp [intOf]; omega⟩
      · obtain rfl : k = len := by omega
        have HBB := Lib.hid HS.out.2
        have HSM : Hid (smallT l) := Lib.hid ⟨by rw [HLL.out]; omega, fun t ht => by
          obtain ⟨q, hq, rfl⟩ := List.getElem_of_mem ht
          exact HS.out.1 q _ (by rw [← HLL.out]; exact hq) (List.getElem?_eq_getElem hq)⟩
        go_wp2_with fail
        go_ret
        exact ⟨⟨_, rfl, fun _ => HSM.out⟩, HBB.out⟩
end Go.Proofs.Ytopakilglnpinaa
