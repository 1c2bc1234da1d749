/-
  agrees.most, walked.
-/
import Derived.Test.YtnckfjmaochnkaaGreatDoorGd20
namespace Go.Proofs.YtnckfjmaochnkaaGreatDoor
open Go.RowKit
set_option linter.unusedVariables false
set_option linter.unusedSimpArgs false

structure MR (w : World) (s : Nat) (l : List Rw) (k : Nat) (wr : World) : Prop where
  map : ∃ es clock, MapB wr (w.heap.size + 1) cellK es clock ∧ ∀ c, valE es c = (cntL s l k c : Int)
  b0 : Blk wr w.heap.size 152 heldZ.toArray
  bel : Below w.heap.size w wr
  sz : w.heap.size + 1 + 1 ≤ wr.heap.size

theorem MR.skip {w : World} {s : Nat} {l : List Rw} {k : Nat} {wr w2 : World} (h : MR w s l k wr) (hB : Below wr.heap.size wr w2) (hno : ¬ (k ≠ s ∧ (hasC l k s).isSome = true)) : MR w s l (k + 1) w2 ∧ ∀ c, cntL s l (k + 1) c = cntL s l k c := by
  have e : ∀ c, cntL s l (k + 1) c = cntL s l k c := fun c => by
    show cntL s l k c + _ = _
    rw [if_neg (fun h => hno ⟨h.1, by rw [h.2]; rfl⟩)]; rfl
  obtain ⟨⟨es, clock, hm, hv⟩, h0, hb, hs⟩ := h
  have hsz := hB.size
  refine ⟨⟨⟨es, clock, hm.of_block (hB.block _ (by omega)), fun c => by rw [hv c, e c]⟩, h0.below hB (by omega), hb.trans (hB.mono (by omega)), by omega⟩, e⟩

@[go_sem ↓] theorem min_two (ats : Array TypeId) (ty : TypeId) (x y : Nat) : Builtin.min_ ats ty #[.int .i64 (x : Int), .int .i64 (y : Int)] = pure (.int .i64 ((min x y : Nat) : Int)) := by
  simp only [Builtin.min_, List.foldlM, Builtin.min2]
  by_cases h : y < x
  · have h1 : (y : Int) < (x : Int) := by omega
    rw [Nat.min_eq_right (by omega)]
    simp [h1]
  · have h1 : ¬ (y : Int) < (x : Int) := by omega
    rw [Nat.min_eq_left (by omega)]
    simp [h1]

set_option maxRecDepth 100000 in
set_option maxHeartbeats 8000000 in
theorem most_any (S : Nat → Prop) (n s : Nat) (hn : 4 ≤ n ∧ n ≤ 16) (hs : s < n) (a : Option Addr) (len cap : Nat) (l : List Rw) (w : World) (hrd : RdRs S w a len l) (hm1 : len ≤ cap) (hm2 : cap ≤ maxLen) :
    Calls Tryz.prog 43 #[.int .i64 n, .int .i64 s, .slice a len cap] w fun e w' => ∃ h, e = .returned (.agg h.vals.toArray) ∧ MostP n s l (min n len) h ∧ Below w.heap.size w w' := by
  unfold maxLen at hm2
  have hll : l.length = len := hrd.1
  obtain ⟨M, hM⟩ : ∃ M, M = min n len := ⟨_, rfl⟩
  rw [← hM]
  have hst : MR w s l 0 ((w.alloc (.cells heldZ.toArray 152)).alloc (.map #[] 0)) := by
    have h := new_map (w.alloc (.cells heldZ.toArray 152))
    have e : (w.alloc (.cells heldZ.toArray 152)).heap.size = w.heap.size + 1 := by simp
    rw [e] at h
    exact ⟨⟨_, _, h, fun c => rfl⟩, (Blk.new _ _ _).alloc _, ((Below.refl _ _).alloc (Nat.le_refl _) _).alloc (by simp) _, by simp⟩
  have HR := Lib.hid hrd
  clear hrd
  go_enter Tryz.func43, Tryz.ntmps43
  go_upto_region 2 with fail
  generalize ((w.alloc (.cells heldZ.toArray 152)).alloc (.map #[] 0)) = w1 at hst ⊢
  have H1 := Lib.hid hst
  clear hst
  have hMn : M ≤ n := by omega
  have hMl : M ≤ len := by omega
  have hMx := hM.symm
  clear hM
  go_upto_region 3 with fail
  have HM := Lib.hid hMx
  clear hMx
  go_loopw [19] (fun i wr => ∃ k : Nat, k ≤ M ∧ i = .int .i64 k ∧ (∀ c, 2 * cntL s l k c ≤ n - 1) ∧ MR w s l k wr) (fun i _ => M - (intOf i).toNat)
  case atStart => exact ⟨0, by omega, rfl, fun c => by simp [cntL], H1.out⟩
  case round =>
    obtain ⟨k, hk, rfl, hc, hr⟩ := hrel
    by_cases hlt : k < M
    · obtain ⟨b, off, x, m, cp, r, rfl, hS, hbw, hv, hok, hrl, hrc1, hr1, hr2, -, -, hr5, hr6, hr7⟩ := HR.out.at_ k (by omega)
      have d := row_below hr.bel (p := ⟨b, off + k * 57, none⟩) hbw 57
      have d1 := d.1.trans hr1
      have d2 : rowOf wr ⟨b, off + k * 57, none⟩ 57 = r.vals (.slice x m cp) := d.2.trans hr2
      have hvl := Rw.len hok (.slice x m cp)
      have hvc : (r.vals (.slice x m cp)).all cell1 = true := RowR.cell1 (S := S) (w := w) ⟨x, m, cp, rfl, hr5, hr6, hr7⟩ hok
      have hrd5 := hr5.below hr.bel (fun _ _ h => h)
      have hml : r.t.length = m := hr5.1
      have hkl : k < len := by omega
      have HH := Lib.hid (And.intro hc (And.intro hr (And.intro hv (And.intro hrd5 hml))))
      clear d hr1 hr2 hr5 hc hr hv hrd5 hml hrl hrc1
      go_upto_region 5 with fail
      have hB2 : Below wr.heap.size wr (wr.alloc (.cells (r.vals (.slice x m cp)).toArray 118)) := (Below.refl _ _).alloc (Nat.le_refl _) _
      have hbk : Blk (wr.alloc (.cells (r.vals (.slice x m cp)).toArray 118)) wr.heap.size 118 (r.vals (.slice x m cp)).toArray := Blk.new _ _ _
      have hs2 : (wr.alloc (.cells (r.vals (.slice x m cp)).toArray 118)).heap.size = wr.heap.size + 1 := by simp
      generalize wr.alloc (.cells (r.vals (.slice x m cp)).toArray 118) = w2 at hB2 hbk hs2 ⊢
      obtain ⟨f0, -, -, f3, -⟩ := blk_row hbk hok
      have hfin : (¬ (k ≠ s ∧ (hasC l k s).isSome = true)) → ∃ k' : Nat, k' ≤ M ∧ Value.int .i64 ((k : Int) + 1) = .int .i64 k' ∧ (∀ c, 2 * cntL s l k' c ≤ n - 1) ∧ MR w s l k' w2 := fun hno => by
        obtain ⟨hc, hr, -⟩ := HH.out
        obtain ⟨p1, p2⟩ := hr.skip hB2 hno
        exact ⟨k + 1, by omega, by simp, fun c => by rw [p2 c]; exact hc c, p1⟩
      have HF := Lib.hid (And.intro hfin (And.intro hB2 (And.intro hbk hs2)))
      clear hfin hB2 hbk hs2
      by_cases hks : k = s
      · subst hks
        have hksb : (k : Int) = (k : Int) := rfl
        go_wp2_with fail
        exact ⟨HF.out.1 (fun h => h.1 rfl), by simp [intOf]; omega⟩
      · have hksb : ((k : Int) == (s : Int)) = false := by simp; omega
        by_cases his : r.is = true
        · by_cases hsm : s < m
          · have hsm1 : ¬ (m : Int) ≤ (s : Int) := by omega
            obtain ⟨b', off', ih, n', rr, rfl, hS', hbw', hv', hok', hrl', hrc', hr1, hr2, hr3, hr4, hr5, -⟩ := HH.out.2.2.2.1.at_ s hsm
            have d := row_below HF.out.2.1 (p := ⟨b', off' + s * 56 + 1, none⟩) hbw' 55
            have d3 := d.1.trans hr3
            have d4 := d.2.trans hr4
            have d5 : w2.cell? ⟨b', off' + s * 56, none⟩ = some (.bool ih) := (HF.out.2.1.cell (p := ⟨b', off' + s * 56, none⟩) hbw').trans hr5
            have hh : hasC l k s = if ih then some (.int .i64 n' :: rr) else none := by
              unfold hasC
              rw [HH.out.2.2.1]
              simp only [his, if_true, hv']
            obtain ⟨cc, hcc⟩ : ∃ cc, cc = Value.int .i64 n' :: rr := ⟨_, rfl⟩
            rw [← hcc] at hh d4 hok'
            have hl55 : cc.length = 55 := (okL_len hok').trans len_cellK
            have hc55 := okL_cell1 hok'
            have HX := Lib.hid (And.intro hh hok')
            clear d hr1 hr2 hr3 hr4 hr5 hv' hh hok' hrc' hcc
            cases ih with
            | false =>
              go_wp2_with fail
              exact ⟨HF.out.1 (fun h => by have := h.2; rw [HX.out.1] at this; cases this), by simp [intOf]; omega⟩
            | true =>
              go_upto_region 7 with fail
              have hB3 : Below wr.heap.size wr (w2.alloc (.cells cc.toArray 116)) := HF.out.2.1.alloc (by rw [HF.out.2.2.2]; omega) _
              have hbk3 : Blk (w2.alloc (.cells cc.toArray 116)) w2.heap.size 116 cc.toArray := Blk.new _ _ _
              generalize w2.alloc (.cells cc.toArray 116) = w3 at hB3 hbk3 ⊢
              obtain ⟨⟨es, clock, hmp, hmv⟩, hb0, hbel, hsz⟩ := HH.out.2.1
              have hsz3 := hB3.size
              have hcn := HH.out.1 cc
              obtain ⟨eb, wA, wB, es2, c2, e1, e2, e3, hm2', hv1, hv2, hc1, hc2⟩ := count_cell HX.out.2 (w := w3.drew) ((hmp.of_block (hB3.block _ (by omega))).of_block (w' := w3.drew) rfl)
              have hq16 : cntL s l k cc ≤ k := cntL_le s l cc k
              have hkn : cntL s l (k + 1) cc = cntL s l k cc + 1 := by
                show cntL s l k cc + _ = _
                rw [if_pos ⟨hks, by rw [HX.out.1]; rfl⟩]
              have hko : ∀ c, c ≠ cc → cntL s l (k + 1) c = cntL s l k c := fun c hc => by
                show cntL s l k c + _ = _
                rw [if_neg (fun h => hc (by have := h.2; rw [HX.out.1] at this; simpa using this.symm))]; rfl
              have hvB : ∀ c, valE es2 c = (cntL s l (k + 1) c : Int) := fun c => by
                by_cases h : c = cc
                · subst h; rw [hv1, hmv, hkn]; simp
                · rw [hv2 c h, hmv, hko c h]
              have e4 := look_cell HX.out.2 ((hmp.of_block (hB3.block _ (by omega))).of_block (w' := w3.drew) rfl)
              rw [hmv cc] at e1 e2 e3 e4
              have hB4 : Below w.heap.size w wB := by
                have h1 := hbel.trans ((hB3.mono (by omega)))
                exact ⟨hc2.os.trans h1.os, hc2.tape.trans h1.tape, hc2.output.trans h1.output, Nat.le_trans h1.size hc2.size, fun b hb => (hc2.block b (by have := h1.size; exact Nat.lt_of_lt_of_le hb this) (by omega)).trans (h1.block b hb)⟩
              have look := look_cell HX.out.2 hm2'
              rw [hvB cc, hkn] at look
              generalize hq : cntL s l k cc = q at hq16 hkn e1 e2 e3 e4 look hcn
              have hlt2 : w2.heap.size < w3.heap.size := hbk3.lt
              have hB0 : Blk wB w.heap.size 152 heldZ.toArray := by
                have h1 : Blk w3 w.heap.size 152 heldZ.toArray := hb0.below hB3 (by omega)
                exact (hc2.block _ h1.lt (by omega)).trans h1
              have hwr2 : w2.heap.size = wr.heap.size + 1 := HF.out.2.2.2
              have hbkA : Blk wA w2.heap.size 116 cc.toArray := (hc1.block _ hlt2 (by omega)).trans hbk3
              have hbkB : Blk wB w2.heap.size 116 cc.toArray := (hc2.block _ hlt2 (by omega)).trans hbk3
              obtain ⟨r1, r2, -⟩ := Blk.whole (w := w3.drew) (n := 55) hbk3 hl55
              obtain ⟨r3, r4, -⟩ := hbkB.whole (n := 55) hl55
              have hszB : w.heap.size + 1 + 1 ≤ wB.heap.size := by have := hc2.size; have : w3.drew.heap.size = w3.heap.size := rfl; omega
              have hmr : MR w s l (k + 1) wB := ⟨⟨es2, c2, hm2', hvB⟩, hB0, hB4, hszB⟩
              have k6 := hB0.put_all (l := Value.bool true :: cc) (by simp [hl55]; rfl)
              have hv56 : (Value.bool true :: cc).length = 56 := by simp [hl55]
              obtain ⟨p1, p2, -⟩ := k6.whole (n := 56) hv56
              obtain ⟨p3, p4, p5⟩ := hB0.whole (n := 56) len_heldZ
              have hBf := Below.put hB4 (p := ⟨w.heap.size, 0, none⟩) (Nat.le_refl _) (Value.bool true :: cc)
              have HZ := Lib.hid (And.intro hmr (And.intro p1 (And.intro p2 (And.intro hBf (And.intro hkn (And.intro hko hcn))))))
              have hc56 : (Value.bool true :: cc).all cell1 = true := by simp [hc55, cell1]
              clear hmr p1 p2 hBf k6 hB3 hbk3 hmp hmv hb0 hbel hsz hm2' hv1 hv2 hc1 hc2 hvB hB4 hB0 hbkA hbkB hkn hko hcn hq hwr2
              go_region
              rw [show ((q + 1 : Nat) : Int) = (q : Int) + 1 from by omega] at look
              by_cases hbig : (n : Int) - 1 < 2 * ((q : Int) + 1)
              · have hbigb : decide ((n : Int) - 1 < 2 * ((q : Int) + 1)) = true := by simpa using hbig
                go_wp2_with fail
                try simp only [Exit.inBlock, Exit.then]
                first | refine bodyPost_ret (ret_row (n := 56) rfl (by kernel_rfl) _ _ _ rfl ?_) rfl ?_ | refine bodyPost_end (ret_row (n := 56) rfl (by kernel_rfl) _ _ _ rfl ?_) rfl ?_
                · exact HZ.out.2.1
                · rw [HZ.out.2.2.1]
                  refine ⟨⟨true, cc⟩, rfl, .inl ⟨cc, rfl, HX.out.2, ?_⟩, HZ.out.2.2.2.1⟩
                  have h1 := cntL_mono s l cc (k := k + 1) (j := M) (by omega)
                  have h2 := HZ.out.2.2.2.2.1
                  omega
              · have hbigb : decide ((n : Int) - 1 < 2 * ((q : Int) + 1)) = false := by simpa using hbig
                have hno : ∀ c, 2 * cntL s l (k + 1) c ≤ n - 1 := fun c => by
                  by_cases h : c = cc
                  · subst h; rw [HZ.out.2.2.2.2.1]; omega
                  · rw [HZ.out.2.2.2.2.2.1 c h]; exact HH.out.1 c
                have HN := Lib.hid hno
                clear hno
                go_wp2_with fail
                exact ⟨⟨k + 1, by omega, by go_num, HN.out, HZ.out.1⟩, by simp [intOf]; omega⟩
          · have hsm1 : (m : Int) ≤ (s : Int) := by omega
            have hno : r.t[s]? = none := List.getElem?_eq_none (by rw [HH.out.2.2.2.2]; omega)
            have hh : hasC l k s = none := by
              unfold hasC
              rw [HH.out.2.2.1]
              simp only [his, if_true, hno]
            have HX := Lib.hid hh
            clear hh hno
            go_wp2_with fail
            exact ⟨HF.out.1 (fun h => by have := h.2; rw [HX.out] at this; cases this), by simp [intOf]; omega⟩
        · have hh : hasC l k s = none := by
            unfold hasC
            rw [HH.out.2.2.1]
            simp only [his, if_false]; rfl
          have HX := Lib.hid hh
          clear hh
          go_wp2_with fail
          exact ⟨HF.out.1 (fun h => by have := h.2; rw [HX.out] at this; cases this), by simp [intOf]; omega⟩
    · have hkM : k = M := by omega
      subst hkM
      have HC := Lib.hid hc
      obtain ⟨q1, q2, q3⟩ := hr.b0.whole (n := 56) len_heldZ
      have k6 := hr.b0.put_all (l := heldZ) rfl
      obtain ⟨p1, p2, -⟩ := k6.whole (n := 56) len_heldZ
      have hB := Below.put hr.bel (p := ⟨w.heap.size, 0, none⟩) (Nat.le_refl _) heldZ
      have HF := Lib.hid (And.intro p1 (And.intro p2 hB))
      have hz1 : heldZ.all cell1 = true := by kernel_rfl
      clear hc hr q1 q2 k6 p1 p2 hB
      go_wp2_with fail
      try simp only [Exit.inBlock, Exit.then]
      first | refine bodyPost_ret (ret_row (n := 56) rfl (by kernel_rfl) _ _ _ rfl ?_) rfl ?_ | refine bodyPost_end (ret_row (n := 56) rfl (by kernel_rfl) _ _ _ rfl ?_) rfl ?_
      · exact HF.out.1
      · rw [HF.out.2.1]
        exact ⟨hd0, by rw [hd0_vals], .inr ⟨rfl, HC.out⟩, HF.out.2.2⟩
end Go.Proofs.YtnckfjmaochnkaaGreatDoor
