/-
  sennitref16.Clock.Step, walked.
-/
import Derived.Test.YtlfpchkoeipcdaaAgs4
import Derived.Test.YtlfpchkoeipcdaaAgs5
namespace Go.Proofs.Ytlfpchkoeipcdaa
open Go.RowKit
set_option linter.unusedVariables false
set_option linter.unusedSimpArgs false

def RkR (B c n : Nat) (v : Value) (A : List Int) (w : World) : Prop := Blk w c 86 #[.int .i64 n, v] ∧ RoomV B w 2 v (A.map (Value.int .i64))
def RkPost (B c n : Nat) (v : Value) (A : List Int) (age : Int) (w : World) (e : Ending) (w' : World) : Prop :=
  e = .returned (.tuple #[.int .i64 age, .int .i64 (showF (lastN (2 * n) (A ++ [age])))]) ∧ (∃ v', RkR B c n v' (A ++ [age]) w' ∧ (v'.ownBlock = v.ownBlock ∨ ∀ k, v'.ownBlock = some k → w.heap.size ≤ k)) ∧ Chg (fun b => b = c ∨ some b = v.ownBlock) w w'
theorem lastN_at {m : Nat} {l : List Int} {i : Nat} : (lastN m l)[i]? = l[l.length - m + i]? := by unfold lastN; rw [List.getElem?_drop]
theorem lastN_len (m : Nat) (l : List Int) : (lastN m l).length = min m l.length := by unfold lastN; rw [List.length_drop]; omega

set_option maxRecDepth 100000 in
set_option maxHeartbeats 4000000 in
theorem rkstep_any (B c n : Nat) (h4 : 4 ≤ n) (h16 : n ≤ 16) (v : Value) (A : List Int) (hA : ∀ a ∈ A, -1 ≤ a ∧ a ≤ 1099511627776) (hlen : A.length ≤ 100000) (common cold : Int) (w : World) (hr : RkR B c n v A w) (hB : B ≤ w.heap.size) :
    Calls Try.prog 18 #[.pointer (some ⟨c, 0, none⟩), .int .i64 common, .int .i64 cold] w (RkPost B c n v A (ownF n common cold) w) := by
  obtain ⟨hb, hro⟩ := hr
  have hrange := ownF_range n common cold
  have hown : ownF n common cold = if okI common then (if common + 2 * (n : Int) ≤ 1099511627776 then common + 2 * n else -1) else (if okI cold then cold else -1) := by
    unfold ownF
    by_cases h : okI common = true
    · have hc : 0 ≤ common ∧ common ≤ 1099511627776 := by simpa [okI] using h
      simp only [h, if_true]
      by_cases h2 : common + 2 * (n : Int) ≤ 1099511627776
      · rw [if_pos h2, if_pos (by simp [okI]; omega)]
      · rw [if_neg h2, if_neg (by simp [okI]; omega)]
    · simp only [h]; rfl
  have hc0 : w.cell? ⟨c, 0, none⟩ = some (.int .i64 n) := hb.cell 0
  have hc1 : w.cell? ⟨c, 1, none⟩ = some v := hb.cell 1
  have hf1 : w.frozen? ⟨c, 1, none⟩ = false := hb.frozen 1
  have hclt := hb.lt
  have hvc : v.ownBlock ≠ some c := hro.not_ hb (by decide)
  have HH := Lib.hid (And.intro hb (And.intro hro hvc))
  have HL := Lib.hid hA
  generalize ownF n common cold = age at hrange hown ⊢
  have HO := Lib.hid hown
  obtain ⟨ys, hys⟩ : ∃ ys, ys = A ++ [age] := ⟨_, rfl⟩
  obtain ⟨m, hm⟩ : ∃ m, m = A.length + 1 := ⟨_, rfl⟩
  have hym : (A.map (Value.int .i64) ++ [Value.int .i64 age]) = ys.map (Value.int .i64) := by rw [hys]; simp
  have hyl : ys.length = m := by rw [hys, hm]; simp
  have hm2n : m ≤ 100001 := by omega
  have hm1 : 1 ≤ m := by omega
  have HY := Lib.hid (And.intro hys (And.intro hm (And.intro hym hyl)))
  clear hb hro hA hys hm hym hyl hvc hown
  go_enter Try.func18, Try.ntmps18
  go_upto_region 2 with fail
  go_cut [17] from 12 to 17 (fun s17 wx => s17 = .bool (okI cold) ∧ w = wx)
  case first =>
    have HK : Hid (okI cold = (decide (0 ≤ cold) && decide (cold ≤ 1099511627776))) := Lib.hid rfl
    by_cases h1 : 0 ≤ cold
    · go_wp2_with fail
      go_meet
      exact ⟨by rw [HK.out, decide_eq_true h1, Bool.true_and], rfl⟩
    · go_wp2_with fail
      go_meet
      exact ⟨by rw [HK.out, decide_eq_false (by omega)]; rfl, rfl⟩
  case rest =>
  obtain ⟨rfl, rfl⟩ := hcut
  obtain ⟨qc, hqc⟩ : ∃ qc, qc = okI cold := ⟨_, rfl⟩
  rw [← hqc]
  have HQC := Lib.hid hqc
  clear hqc
  go_upto_if 17 with fail
  go_cut [8] from 18 to 18 (fun s8 wx => s8 = .int .i64 (if qc then cold else -1) ∧ w = wx)
  case first =>
    cases qc with
    | true =>
      go_wp2_with fail
      go_meet
      exact ⟨by simp, rfl⟩
    | false =>
      go_wp2_with fail
      go_meet
      exact ⟨by simp, rfl⟩
  case rest =>
  obtain ⟨rfl, rfl⟩ := hcut
  obtain ⟨a0, ha0⟩ : ∃ a0, a0 = if qc then cold else -1 := ⟨_, rfl⟩
  rw [← ha0]
  have HA0 := Lib.hid ha0
  clear ha0
  go_upto_region 4 with fail
  go_cut [24] from 19 to 24 (fun s24 wx => s24 = .bool (okI common) ∧ w = wx)
  case first =>
    have HK : Hid (okI common = (decide (0 ≤ common) && decide (common ≤ 1099511627776))) := Lib.hid rfl
    by_cases h1 : 0 ≤ common
    · go_wp2_with fail
      go_meet
      exact ⟨by rw [HK.out, decide_eq_true h1, Bool.true_and], rfl⟩
    · go_wp2_with fail
      go_meet
      exact ⟨by rw [HK.out, decide_eq_false (by omega)]; rfl, rfl⟩
  case rest =>
  obtain ⟨rfl, rfl⟩ := hcut
  obtain ⟨qm, hqm⟩ : ∃ qm, qm = okI common := ⟨_, rfl⟩
  rw [← hqm]
  have HQM := Lib.hid hqm
  clear hqm
  go_upto_if 24 with fail
  go_cut [8] from 25 to 33 (fun s8 wx => s8 = .int .i64 age ∧ w = wx)
  case first =>
    cases qm with
    | true =>
      have hage := HO.out
      rw [← HQM.out, if_pos rfl] at hage
      have h12 : 0 ≤ common ∧ common ≤ 1099511627776 := by simpa [okI] using HQM.out.symm
      obtain ⟨h1, h2⟩ := h12
      by_cases h3 : common + 2 * (n : Int) ≤ 1099511627776
      · rw [if_pos h3] at hage
        have HK := Lib.hid hage
        clear hage
        go_wp2_with fail
        go_meet
        exact ⟨by rw [HK.out], rfl⟩
      · rw [if_neg h3] at hage
        have HK := Lib.hid hage
        have h3' : 1099511627776 < common + 2 * (n : Int) := by omega
        clear hage
        go_wp2_with fail
        go_meet
        exact ⟨by rw [HK.out], rfl⟩
    | false =>
      have hage := HO.out
      rw [← HQM.out, ← HQC.out] at hage
      have HK := Lib.hid hage
      clear hage
      go_wp2_with fail
      go_meet
      exact ⟨by rw [HK.out, HA0.out]; rfl, rfl⟩
  case rest =>
  obtain ⟨rfl, rfl⟩ := hcut
  clear HA0 HO
  go_upto_block 0 with (at_builtin; refine wpList_appR app_i64' (by rfl) (.tmp 38) (.tmp 40) (by rfl) (B := B) (by simp; omega) v (A.map (Value.int .i64)) (by rfl) (HH.out.2.1.block (fun k hk => Below.heap_alloc _ _ _ (HH.out.2.1.lt k hk).2)) ⟨w.heap.size, 0, none⟩ 1 (.int .i64 age) (by rfl) (by first | rfl | simp | go_simp) rfl (by simp; omega) ?_; intro v1 w2 hro2 hg2 hl2; rw [HY.out.2.2.1] at hro2; obtain ⟨g, off, cp, rfl, k1, k2, k3, k4⟩ := hro2.at1 (by rw [List.length_map, HY.out.2.2.2]; exact hm1); rw [List.length_map, HY.out.2.2.2] at k1 hro2 hl2 ⊢; have hb2 : Blk w2 c 86 #[.int .i64 n, v] := (hg2.block c (by simp; omega) (fun h => HH.out.2.2 h.symm)).trans (HH.out.1.alloc _); have d0 : w2.cell? ⟨c, 0, none⟩ = some (.int .i64 n) := hb2.cell 0; have d1 : w2.cell? ⟨c, 1, none⟩ = some v := hb2.cell 1; have f1 : w2.frozen? ⟨c, 1, none⟩ = false := hb2.frozen 1; have H2 := Lib.hid (And.intro hro2 (And.intro hg2 (And.intro hl2 (And.intro hb2 k4)))); clear hro2 hg2 hl2 hb2 k4)
  have hX : RkR B c n (.slice (some ⟨g, off, none⟩) m cp) ys (w2.setCell ⟨c, 1, none⟩ (.slice (some ⟨g, off, none⟩) m cp)) ∧ Chg (fun b => b = c ∨ some b = v.ownBlock) w (w2.setCell ⟨c, 1, none⟩ (.slice (some ⟨g, off, none⟩) m cp)) ∧ (some g = v.ownBlock ∨ w.heap.size ≤ g) ∧ ∀ (k : Nat) (a : Int), ys[k]? = some a → (w2.setCell ⟨c, 1, none⟩ (.slice (some ⟨g, off, none⟩) m cp)).cell? ⟨g, off + k, none⟩ = some (.int .i64 a) := by
    obtain ⟨a1, a2, a3, a4, a5⟩ := H2.out
    have hgc := a1.not_ a4 (by decide)
    have hgc : g ≠ c := fun e => hgc (by rw [e]; rfl)
    refine ⟨⟨by simpa using a4.set_ 1 (.slice (some ⟨g, off, none⟩) m cp), a1.block (fun k hk => Below.heap_setCell _ _ _ _ (by simp only [Value.ownBlock, Option.some.injEq] at hk; subst hk; exact hgc))⟩, ?_, ?_, ?_⟩
    · have hsz := a2.size
      simp at hsz
      have : Chg (fun b => b = c ∨ some b = v.ownBlock) w w2 := ⟨a2.os, a2.tape, a2.output, by omega, fun k hk hs => (a2.block k (by simp; omega) (fun h => hs (Or.inr h))).trans (Below.heap_alloc _ _ _ hk)⟩
      exact this.setCell (p := ⟨c, 1, none⟩) (Or.inl (Or.inl rfl)) _
    · rcases a3 with h | h | h
      · exact .inl h
      · simp only [Value.ownBlock, Option.some.injEq] at h
        have : w.heap.size ≤ g := by rw [h]; simp
        exact .inr this
      · have := h g rfl
        simp at this
        exact .inr (by omega)
    · intro k a hk
      exact (World.cell?_of_block (Below.heap_setCell _ _ _ _ hgc)).trans (a5 k _ (by rw [List.getElem?_map, hk]; rfl))
  generalize w2.setCell ⟨c, 1, none⟩ (.slice (some ⟨g, off, none⟩) m cp) = w3 at hX ⊢
  have H3 := Lib.hid hX
  clear hX H2 d0 d1 f1 hc0 hc1 hf1 k3
  obtain ⟨Wn, hWn⟩ : ∃ Wn, Wn = lastN (2 * n) ys := ⟨_, rfl⟩
  obtain ⟨q, hq⟩ : ∃ q, q = Wn.length := ⟨_, rfl⟩
  have hql : q = min (2 * n) m := by rw [hq, hWn, lastN_len, HY.out.2.2.2]
  have hq1 : q ≤ 2 * n := by omega
  have hq2 : q ≤ m := by omega
  have hq3 : q = 2 * n ∨ q = m := by omega
  have hWc : ∀ (k : Nat) (a : Int), Wn[k]? = some a → w3.cell? ⟨g, off + (m - q + k), none⟩ = some (.int .i64 a) := fun k a h => by
    have hmq : m - 2 * n = m - q := by omega
    rw [hWn, lastN_at, HY.out.2.2.2, hmq] at h
    exact H3.out.2.2.2 _ a h
  have hWr : ∀ a ∈ Wn, -1 ≤ a ∧ a ≤ 1099511627776 := fun a ha => by
    rw [hWn] at ha
    have ha := List.mem_of_mem_drop ha
    rw [HY.out.1] at ha
    rcases List.mem_append.1 ha with ha | ha
    · exact HL.out a ha
    · simp at ha; subst ha; exact hrange
  have HV := Lib.hid (And.intro hWn (And.intro hq (And.intro hWc hWr)))
  clear hWn hq hql hWc hWr
  go_cut [9, 10, 11] from 44 to 87 (fun s9 s10 s11 wx => s9 = .int .i64 (bestW Wn) ∧ wx.heap = w3.heap ∧ Chg (fun _ => False) w3 wx)
  case first =>
    go_wp2_with fail
    go_loopw [9, 10, 11] (fun sv i _ wr => ∃ (k : Nat) (s : Int), k ≤ q ∧ i = .int .i64 k ∧ sv = .int .i64 s ∧ MaxP Wn (fun j => q - k ≤ j ∧ j < q) s ∧ s ≤ 1099511628776 ∧ -1 ≤ s ∧ wr.heap = w3.heap ∧ Chg (fun _ => False) w3 wr) (fun _ i _ _ => q - (intOf i).toNat)
    case atStart => exact ⟨0, -1, by omega, rfl, rfl, MaxP.start _ (fun i h => by omega), by omega, by omega, rfl, Chg.refl _ _⟩
    case round =>
      obtain ⟨k, s, hk, rfl, rfl, hmx, hs1, hs0, hhp, hch⟩ := hrel
      have d0 : wr.cell? ⟨c, 0, none⟩ = some (.int .i64 n) := (World.cell?_of_block (by rw [hhp])).trans (H3.out.1.1.cell 0)
      have d1 : wr.cell? ⟨c, 1, none⟩ = some (.slice (some ⟨g, off, none⟩) m cp) := (World.cell?_of_block (by rw [hhp])).trans (H3.out.1.1.cell 1)
      by_cases hlt : k < q
      · obtain ⟨a, ha⟩ : ∃ a, Wn[q - 1 - k]? = some a := ⟨_, List.getElem?_eq_getElem (by rw [← HV.out.2.1]; omega)⟩
        have hca := HV.out.2.2.1 _ a ha
        have hix : off + (m - q + (q - 1 - k)) = off + (m - 1 - k) := by omega
        rw [hix] at hca
        have ca : wr.cell? ⟨g, off + (m - 1 - k), none⟩ = some (.int .i64 a) := (World.cell?_of_block (by rw [hhp])).trans hca
        obtain ⟨hr0, hr1⟩ := HV.out.2.2.2 a (List.mem_of_getElem? ha)
        have hst := hmx.step (I' := fun j => q - (k + 1) ≤ j ∧ j < q) ha (fun i => by omega)
        rw [← HV.out.2.1] at hst
        have HS := Lib.hid (And.intro hst (And.intro hhp hch))
        have hkm : k < m := by omega
        have hk2 : k < 2 * n := by omega
        have hcast : ((m : Int) - 1 - (k : Int)) = ((m - 1 - k : Nat) : Int) := by omega
        have hnat : m - 1 - k < m := by omega
        have hval : ((q - 1 - k : Nat) : Int) = (q : Int) - 1 - k := by omega
        clear ha hmx hst hca hix hhp hch
        by_cases hnn : 0 ≤ a
        · by_cases hgt : s < a + (k : Int)
          · go_wp2_with fail
            go_quiet (fail)
            go_wp2_with fail
            have h1 := HS.out.1
            rw [if_pos hnn, show max s (a + (q : Int) - 1 - ((q - 1 - k : Nat) : Int)) = a + (k : Int) from by omega] at h1
            exact ⟨⟨k + 1, a + (k : Int), by omega, by go_num, rfl, h1, by omega, by omega, HS.out.2.1, HS.out.2.2.drewN _⟩, by simp [intOf]; omega⟩
          · go_wp2_with fail
            go_quiet (fail)
            go_wp2_with fail
            have h1 := HS.out.1
            rw [if_pos hnn, show max s (a + (q : Int) - 1 - ((q - 1 - k : Nat) : Int)) = s from by omega] at h1
            exact ⟨⟨k + 1, s, by omega, by go_num, rfl, h1, by omega, by omega, HS.out.2.1, HS.out.2.2.drewN _⟩, by simp [intOf]; omega⟩
        · go_wp2_with fail
          go_quiet (fail)
          go_wp2_with fail
          have h1 := HS.out.1
          rw [if_neg (by omega)] at h1
          exact ⟨⟨k + 1, s, by omega, by go_num, rfl, h1, by omega, by omega, HS.out.2.1, HS.out.2.2.drewN _⟩, by simp [intOf]; omega⟩
      · have hkq : k = q := by omega
        subst hkq
        have hbest := hmx.best (fun i hi => ⟨by omega, by rw [HV.out.2.1]; exact hi⟩)
        have HBT := Lib.hid (And.intro hbest (And.intro hhp hch))
        clear hmx hbest hhp hch
        by_cases hk2 : k < 2 * n
        · have hkm : k = m := by omega
          have hkm' : ¬ k < m := by omega
          clear hkm
          go_wp2_with fail
          go_meet
          exact ⟨by rw [HBT.out.1], HBT.out.2.1, HBT.out.2.2⟩
        · go_wp2_with fail
          go_meet
          exact ⟨by rw [HBT.out.1], HBT.out.2.1, HBT.out.2.2⟩
  case rest =>
    obtain ⟨rfl, hhp, hch⟩ := hcut
    obtain ⟨s, hs⟩ : ∃ s, s = bestW Wn := ⟨_, rfl⟩
    rw [← hs]
    have hsh : showF (lastN (2 * n) (A ++ [age])) = if s ≤ 1099511627776 then s else -1 := by
      rw [← HY.out.1, ← HV.out.1]
      unfold showF
      rw [← hs]
    have hfin : ∀ sh, sh = (if s ≤ 1099511627776 then s else -1) → RkPost B c n v A age w (.returned (.tuple #[.int .i64 age, .int .i64 sh])) wc := fun sh he => by
      refine ⟨by rw [he, hsh], ⟨.slice (some ⟨g, off, none⟩) m cp, ?_, ?_⟩, H3.out.2.1.trans (hch.mono (fun _ _ h => h.elim))⟩
      · rw [← HY.out.1]
        exact ⟨(show wc.heap[c]? = _ from by rw [hhp]; exact H3.out.1.1), H3.out.1.2.block (fun k _ => by rw [hhp])⟩
      · rcases H3.out.2.2.1 with h | h
        · exact .inl h
        · exact .inr fun k hk => by simp only [Value.ownBlock, Option.some.injEq] at hk; omega
    have HF := Lib.hid hfin
    clear hs hsh hfin hhp hch
    by_cases hbig : 1099511627776 < s
    · go_wp2_with fail
      go_ret2
      exact HF.out (-1) (by rw [if_neg (by omega)])
    · go_wp2_with fail
      go_ret2
      exact HF.out s (by rw [if_pos (by omega)])
end Go.Proofs.Ytlfpchkoeipcdaa
