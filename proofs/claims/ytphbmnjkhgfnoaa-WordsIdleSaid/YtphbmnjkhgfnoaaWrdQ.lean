/-
  sennitlaw13.WordsIdle, walked.
-/
import Derived.Test.YtphbmnjkhgfnoaaWrdM
import Derived.Test.YtphbmnjkhgfnoaaWrdP
import Derived.Deep.RegionHeld3
namespace Go.Proofs.Ytphbmnjkhgfnoaa
open Go.RowKit
set_option linter.unusedVariables false
set_option linter.unusedSimpArgs false

def fineL (c : List Value) : Bool := (clOf c).fine
theorem fineL_any (c : List Value) (h : okL cellK c = true) (w : World) : Calls Try.prog 45 #[.agg c.toArray] w fun e w' => e = .returned (.bool (fineL c)) ∧ Below w.heap.size w w' := by
  obtain ⟨C, rfl, hC⟩ := cell_of h
  have : fineL C.vals = C.fine := by rw [fineL, clOf_vals C hC]
  rw [this]
  exact fine_any C hC h w
theorem nrm_fine {c : List Value} (h : okL cellK c = true) : fineL (nrm c) = true := by
  obtain ⟨C, rfl, hC⟩ := cell_of h
  rw [nrm_vals C hC, fineL, clOf_vals C.norm hC]
  exact Cl.norm_fine C
theorem fine_nrm {c : List Value} (h : okL cellK c = true) (hf : fineL c = true) : nrm c = c := by
  obtain ⟨C, rfl, hC⟩ := cell_of h
  rw [fineL, clOf_vals C hC] at hf
  rw [nrm_vals C hC, Cl.fine_norm hf]
theorem nrm_nrm {c : List Value} (h : okL cellK c = true) : nrm (nrm c) = nrm c := fine_nrm (nrm_ok h) (nrm_fine h)
theorem Hd.nrm_nrm {y : Hd} (h : y.ok) : y.nrm.nrm = y.nrm := by
  unfold Hd.nrm
  split
  · simp [Ytphbmnjkhgfnoaa.nrm_nrm h]
  · rfl
theorem fillH_idem {n : Nat} {l : List Hd} (h : ∀ x ∈ l, x.ok) : fillH n (fillH n l) = fillH n l := by
  apply List.ext_getElem?
  intro k
  by_cases hk : k < n
  · rw [fillH_at n _ k hk, fillH_at n l k hk]
    congr 1
    cases hy : l[k]? with
    | none => rfl
    | some y => exact Hd.nrm_nrm (h y (List.mem_of_getElem? hy))
  · rw [List.getElem?_eq_none (by rw [fillH_len]; omega), List.getElem?_eq_none (by rw [fillH_len]; omega)]
theorem Rw.plain_plain {n : Int} {r : Rw} (h : r.ok) : (r.plain n).plain n = r.plain n := by
  unfold Rw.plain
  by_cases hm : (r.is && mayN n) = true
  · rw [if_pos hm]
    have : mayN n = true := by simp only [Bool.and_eq_true] at hm; exact hm.2
    simp [this, nrm_nrm h.1, fillH_idem h.2]
  · rw [if_neg hm]; rfl
theorem fillR_idem {n : Nat} {l : List Rw} (h : ∀ x ∈ l, x.ok) : fillR n (fillR n l) = fillR n l := by
  apply List.ext_getElem?
  intro k
  by_cases hk : k < n
  · rw [fillR_at n _ k hk, fillR_at n l k hk]
    congr 1
    cases hy : l[k]? with
    | none => rfl
    | some y => exact Rw.plain_plain (h y (List.mem_of_getElem? hy))
  · rw [List.getElem?_eq_none (by rw [fillR_len]; omega), List.getElem?_eq_none (by rw [fillR_len]; omega)]
theorem plain_not {n : Int} {r : Rw} (h : (r.plain n).is = false) : r.plain n = rw0 := by
  unfold Rw.plain at h ⊢
  split at h
  · cases h
  · rename_i hh; rw [if_neg hh]

theorem plain_is {n : Int} {r : Rw} (h : mayN n = true) : (r.plain n).is = r.is := by
  unfold Rw.plain
  cases hr : r.is <;> simp [h, rw0]
theorem plain_yes {n : Nat} {r : Rw} (h : mayN n = true) (hr : r.is = true) : r.plain n = ⟨true, nrm r.c, fillH n r.t⟩ := by
  unfold Rw.plain
  rw [if_pos (by simp [h, hr])]; rfl
theorem blk_held {w : World} {g : Nat} {t : TypeId} {y : Hd} (h : Blk w g t y.vals.toArray) (hy : y.ok) :
    w.cell? ⟨g, 0, none⟩ = some (.bool y.is) ∧ hasRow w ⟨g, 1, none⟩ 55 = true ∧ rowOf w ⟨g, 1, none⟩ 55 = y.c ∧ hasRow w ⟨g, 0, none⟩ 56 = true ∧ rowOf w ⟨g, 0, none⟩ 56 = y.vals := by
  have hl := Hd.vals_len hy
  have hcl : y.c.length = 55 := Hd.ok_len hy
  obtain ⟨h1, h2, h3, h4, h5⟩ := h.rules
  obtain ⟨q1, q2, -⟩ := h.whole hl
  refine ⟨by rw [h1]; rfl, by rw [h3, hl]; rfl, ?_, q1, q2⟩
  rw [h4 _ _ (by omega)]; simp [Hd.vals, ← hcl]

set_option maxRecDepth 100000 in
set_option maxHeartbeats 8000000 in
theorem widle_any (nodes : Int) (hn0 : 0 ≤ nodes ∧ nodes ≤ 255) (a : Option Addr) (len cap : Nat) (l : List Rw) (w : World) (hrd : RdRs (· < w.heap.size) w a len l) (hm1 : len ≤ cap) (hm2 : cap ≤ maxLen) (hsz : szW l) :
    Calls Try.prog 12 #[.int .u8 nodes, .agg #[.slice a len cap]] w fun e w' => e = .returned (.bool true) ∧ Below w.heap.size w w' := by
  have hll : l.length = len := hrd.1
  obtain ⟨N, hN, hN16⟩ : ∃ N : Nat, nodes % 17 = (N : Int) ∧ N ≤ 16 := ⟨(nodes % 17).toNat, by omega, by omega⟩
  obtain ⟨L, hL⟩ : ∃ L, L = normW N l := ⟨_, rfl⟩
  have hmay : mayN (N : Int) = true := by simp [mayN]; omega
  have hLf : L = fillR N l := by rw [hL]; unfold normW; rw [if_pos hmay]; rfl
  have hLL : normW N L = L := by
    rw [hLf]; unfold normW; rw [if_pos hmay]
    exact fillR_idem hrd.2.1
  have hLn : L.length = N := by rw [hLf, fillR_len]
  have HL := Lib.hid (And.intro hL (And.intro hLf (And.intro hLL hLn)))
  clear hL hLf hLL hLn
  go_enter Try.func12, Try.ntmps12
  go_upto_region 1 with fail
  have hb0 : Blk (w.alloc (.cells #[.slice a len cap] 25)) w.heap.size 25 #[.slice a len cap] := Blk.new _ _ _
  have hB0 : Below w.heap.size w (w.alloc (.cells #[.slice a len cap] 25)) := (Below.refl _ _).alloc (Nat.le_refl _) _
  generalize w.alloc (.cells #[.slice a len cap] 25) = w0 at hb0 hB0 ⊢
  have F0 : Hid (∀ w' : World, Below w0.heap.size w0 w' → Blk w' w.heap.size 25 #[.slice a len cap] ∧ RdRs (· < w.heap.size) w' a len l ∧ Below w.heap.size w w') := Lib.hid fun w' h =>
    have hB := below_step hB0 h hB0.size
    ⟨hb0.below h hb0.lt, hrd.below hB (fun _ h' _ => h'), hB⟩
  have c0 := hb0.cell 0
  simp at c0
  have HR := Lib.hid hrd
  clear hb0 hB0 hrd
  go_wp2_with fail
  refine (great_any _ a len cap l w0 (F0.out w0 (Below.refl _ _)).2.1 hm1 hm2 hsz).mono ?_
  rintro e w1 ⟨⟨bb, rfl, hsm⟩, hb1⟩
  have HB1 := Lib.hid hb1
  obtain ⟨k1, k2, k3⟩ := F0.out w1 hb1
  have c1 := k1.cell 0
  simp at c1
  clear k1 k3 hb1 c0 hsm
  cases bb with
  | true =>
    go_wp2_with fail
    refine (lives13_any w1).mono ?_
    rintro e w2 ⟨rfl, hb2⟩
    have HF := Lib.hid (F0.out w2 (below_step HB1.out hb2 HB1.out.size)).2.2
    clear k2 hb2
    go_wp2_with fail
    go_ret
    exact ⟨rfl, HF.out⟩
  | false =>
    have HC := Lib.hid (norm_any _ N a len cap l w1 k2 hm1 hm2)
    rw [← HL.out.1] at HC
    clear k2
    go_wp2_with fail
    refine HC.out.mono ?_
    rintro e wa ⟨na, ncap, rfl, hna, hn1, hn2, hba, -⟩
    rw [HL.out.2.2.2] at hna hn1 ⊢
    clear HC c1
    go_upto_region 5 with fail
    have hb4 : Blk (wa.alloc (.cells #[.slice na N ncap] 25)) wa.heap.size 25 #[.slice na N ncap] := Blk.new _ _ _
    have hB4 : Below wa.heap.size wa (wa.alloc (.cells #[.slice na N ncap] 25)) := (Below.refl _ _).alloc (Nat.le_refl _) _
    generalize wa.alloc (.cells #[.slice na N ncap] 25) = w4 at hb4 hB4 ⊢
    have F4 : Hid (∀ w' : World, Below w4.heap.size w4 w' → Below w0.heap.size w0 w' ∧ Blk w' wa.heap.size 25 #[.slice na N ncap] ∧ RdRs (fun _ => True) w' na N L) := Lib.hid fun w' h => by
      have e2 := below_step hB4 h hB4.size
      exact ⟨below_step (below_step HB1.out hba HB1.out.size) e2 (Nat.le_trans HB1.out.size hba.size), hb4.below h hb4.lt, (hna.mono (S' := fun _ => True) (fun _ _ _ => trivial)).below e2 (fun _ _ h => h)⟩
    have c4 := hb4.cell 0
    simp at c4
    have HC := Lib.hid (norm_any _ N na N ncap L w4 (F4.out w4 (Below.refl _ _)).2.2 hn1 hn2)
    rw [HL.out.2.2.1] at HC
    clear hba hb4 hB4 hna
    go_wp2_with fail
    refine HC.out.mono ?_
    rintro e wb ⟨mb, mcap, rfl, hmb, hq1, hq2, hbb, -⟩
    rw [HL.out.2.2.2] at hmb hq1 ⊢
    clear HC c4
    go_upto_region 6 with fail
    have hb5 : Blk (wb.alloc (.cells #[.slice mb N mcap] 25)) wb.heap.size 25 #[.slice mb N mcap] := Blk.new _ _ _
    have hB5 : Below wb.heap.size wb (wb.alloc (.cells #[.slice mb N mcap] 25)) := (Below.refl _ _).alloc (Nat.le_refl _) _
    generalize wb.alloc (.cells #[.slice mb N mcap] 25) = w5 at hb5 hB5 ⊢
    have F5 : Hid (∀ w' : World, Below w5.heap.size w5 w' → Blk w' w.heap.size 25 #[.slice a len cap] ∧ Blk w' wa.heap.size 25 #[.slice na N ncap] ∧ Blk w' wb.heap.size 25 #[.slice mb N mcap] ∧
        RdRs (· < w.heap.size) w' a len l ∧ RdRs (fun _ => True) w' na N L ∧ RdRs (fun _ => True) w' mb N L ∧ Below w.heap.size w w') := Lib.hid fun w' h => by
      have e2 := below_step hB5 h hB5.size
      obtain ⟨i1, i2, i3⟩ := F4.out w' (below_step hbb e2 hbb.size)
      obtain ⟨j1, j2, j3⟩ := F0.out w' i1
      exact ⟨j1, i2, hb5.below h hb5.lt, j2, i3, (hmb.mono (S' := fun _ => True) (fun _ _ _ => trivial)).below e2 (fun _ _ h => h), j3⟩
    clear hbb hb5 hB5 hmb
    obtain ⟨-, i2, i3, -⟩ := F5.out w5 (Below.refl _ _)
    have c6 := i2.cell 0
    have c7 := i3.cell 0
    simp at c6 c7
    clear i2 i3
    have hNN : ((N : Int) != (N : Int)) = false := by simp
    go_wp2_with fail
    clear c6 c7
    go_loopw [8] (fun i wr => ∃ k : Nat, k ≤ N ∧ i = .int .i64 k ∧ Below w5.heap.size w5 wr) (fun i _ => N - (intOf i).toNat)
    case atStart => exact ⟨0, by omega, rfl, Below.refl _ _⟩
    case round =>
      obtain ⟨i, hi, rfl, hB⟩ := hrel
      by_cases hlt : i < N
      · obtain ⟨j1, j2, j3, j4, j5, j6, j7⟩ := F5.out wr hB
        obtain ⟨b6, off6, x, m, cp, r, rfl, -, hb6, hv, hok, hrl, hrc1, hr1, hr2, -, -, hr5, hr6, hr7⟩ := j5.at_ i hlt
        have c6 := j2.cell 0
        simp at c6
        have HB := Lib.hid hB
        have HV := Lib.hid (And.intro hv (And.intro hok hr5))
        have hvl := Rw.len hok (.slice x m cp)
        have hvc : (r.vals (.slice x m cp)).all cell1 = true := RowR.cell1 (S := fun _ => True) (w := wr) ⟨x, m, cp, rfl, hr5, hr6, hr7⟩ hok
        clear j1 j2 j3 j4 j5 j6 j7 hB hv hr5
        have d2 : rowOf wr ⟨b6, off6 + i * 57, none⟩ 57 = r.vals (.slice x m cp) := hr2
        clear hr2
        go_upto_region 12 with fail
        have k9 : Blk (wr.alloc (.cells (r.vals (.slice x m cp)).toArray 62)) wr.heap.size 62 (r.vals (.slice x m cp)).toArray := Blk.new _ _ _
        have hB11 : Below w5.heap.size w5 (wr.alloc (.cells (r.vals (.slice x m cp)).toArray 62)) := HB.out.alloc HB.out.size _
        have hr11 := HV.out.2.2.below ((Below.refl wr.heap.size wr).alloc (Nat.le_refl _) (.cells (r.vals (.slice x m cp)).toArray 62)) (fun _ _ h => h)
        generalize wr.alloc (.cells (r.vals (.slice x m cp)).toArray 62) = w11 at k9 hB11 hr11 ⊢
        have G : Hid (∀ w' : World, Below w11.heap.size w11 w' → Blk w' wr.heap.size 62 (r.vals (.slice x m cp)).toArray ∧ RdHs (fun _ => True) w' x m r.t ∧ Below w5.heap.size w5 w') := Lib.hid fun w' h =>
          ⟨k9.below h k9.lt, hr11.below h (fun _ _ h => h), below_step hB11 h hB11.size⟩
        clear k9 hB11 hr11 c6 hr1 d2
        have hrowr : ∀ w' : World, Below w11.heap.size w11 w' → RowR (fun _ => True) w' r (.slice x m cp) := fun w' h => ⟨x, m, cp, rfl, (G.out w' h).2.1, hr6, hr7⟩
        have HRR := Lib.hid hrowr
        clear hrowr
        obtain ⟨b7, off7, x7, m7, cp7, rfl, -, hb7, e1, e2, e3, e4, e5⟩ := (F5.out w11 (G.out w11 (Below.refl _ _)).2.2).2.2.2.2.2.1.2.2 i r HV.out.1
        have H7 : Hid (∀ w' : World, Below w11.heap.size w11 w' → hasRow w' ⟨b7, off7 + i * 57, none⟩ 57 = true ∧ rowOf w' ⟨b7, off7 + i * 57, none⟩ 57 = r.vals (.slice x7 m7 cp7) ∧ RowR (fun _ => True) w' r (.slice x7 m7 cp7)) := Lib.hid fun w' h => by
          have d := row_below h (p := ⟨b7, off7 + i * 57, none⟩) hb7 57
          exact ⟨d.1.trans e1, d.2.trans e2, ⟨x7, m7, cp7, rfl, e3.below h (fun _ _ h => h), e4, e5⟩⟩
        clear e1 e2 e3 e4 e5
        by_cases hil : i < len
        · obtain ⟨li, hli⟩ : ∃ li, l[i]? = some li := ⟨_, List.getElem?_eq_getElem (by omega)⟩
          have hrl : r = li.plain N := by
            have := HV.out.1
            rw [HL.out.2.1, fillR_at N l i hlt, hli] at this
            injection this with this
            exact this.symm
          have hlok : li.ok := HR.out.2.1 li (List.mem_of_getElem? hli)
          have hisl : r.is = li.is := by rw [hrl]; exact plain_is hmay
          obtain ⟨ba, offa, xa, ma, cpa, rfl, -, hba, e1, e2, e3, e4, e5⟩ := (F5.out w11 (G.out w11 (Below.refl _ _)).2.2).2.2.2.1.2.2 i li hli
          have hmal : li.t.length = ma := e3.1
          cases his : r.is with
          | false =>
            have HLI : Hid (∀ w' : World, Below w11.heap.size w11 w' → w'.cell? ⟨ba, offa + i * 57, none⟩ = some (.bool false) ∧ True) := Lib.hid fun w' h => by
              have d := row_below h (p := ⟨ba, offa + i * 57, none⟩) hba 57
              have := row_cell (d.1.trans e1) (d.2.trans e2) 0 (by omega)
              simp [Rw.vals, ← hisl, his] at this
              exact ⟨this, trivial⟩
            have hrz : Hid (r.c = cellZ ∧ m = 0) := Lib.hid (by
              have : r = rw0 := by rw [hrl]; exact plain_not (by rw [← hrl]; exact his)
              have hmm := HV.out.2.2.1
              rw [this] at hmm ⊢
              exact ⟨rfl, hmm.symm⟩)
            clear e1 e2 e3 e4 e5 hrl hli hisl
            have HF : Hid (∀ w' : World, Below w11.heap.size w11 w' → hasRow w' ⟨wr.heap.size, 0, none⟩ 57 = true ∧ rowOf w' ⟨wr.heap.size, 0, none⟩ 57 = r.vals (.slice x m cp) ∧ w'.cell? ⟨wr.heap.size, 0, none⟩ = some (.bool false) ∧ w'.cell? ⟨wb.heap.size, 0, none⟩ = some (.slice (some ⟨b7, off7, none⟩) N mcap) ∧ hasRow w' ⟨b7, off7 + i * 57, none⟩ 57 = true ∧ rowOf w' ⟨b7, off7 + i * 57, none⟩ 57 = r.vals (.slice x7 m7 cp7) ∧ w'.cell? ⟨w.heap.size, 0, none⟩ = some (.slice (some ⟨ba, offa, none⟩) len cap) ∧ w'.cell? ⟨ba, offa + i * 57, none⟩ = some (.bool false)) := Lib.hid fun w' h => by
              obtain ⟨g1, -, g3⟩ := G.out w' h
              obtain ⟨j1, -, j3, -⟩ := F5.out w' g3
              obtain ⟨p0, -, -, -, p1, p2, -⟩ := blk_row g1 hok
              obtain ⟨p3, p4, -⟩ := H7.out w' h
              have p5 := j3.cell 0
              have p6 := j1.cell 0
              simp at p5 p6
              exact ⟨p1, p2, by rw [p0, his], p5, p3, p4, p6, (HLI.out w' h).1⟩
            go_region_held3 (fun w' => hasRow w' ⟨wr.heap.size, 0, none⟩ 57 = true ∧ rowOf w' ⟨wr.heap.size, 0, none⟩ 57 = r.vals (.slice x m cp) ∧ w'.cell? ⟨wr.heap.size, 0, none⟩ = some (.bool false) ∧ w'.cell? ⟨wb.heap.size, 0, none⟩ = some (.slice (some ⟨b7, off7, none⟩) N mcap) ∧ hasRow w' ⟨b7, off7 + i * 57, none⟩ 57 = true ∧ rowOf w' ⟨b7, off7 + i * 57, none⟩ 57 = r.vals (.slice x7 m7 cp7) ∧ w'.cell? ⟨w.heap.size, 0, none⟩ = some (.slice (some ⟨ba, offa, none⟩) len cap) ∧ w'.cell? ⟨ba, offa + i * 57, none⟩ = some (.bool false))
              (first | exact HF.out _ H1.out | exact HF.out _ (Below.refl _ _).drew)
              ((first
                | (go_at_call 44; refine (same_refl _ _ r hok (.slice x m cp) (.slice x7 m7 cp7) _ (HRR.out _ (Below.refl _ _).drew) (H7.out _ (Below.refl _ _).drew).2.2).mono ?_; rintro e u1 ⟨rfl, hu1⟩; have H1 := Lib.hid ((Below.refl w11.heap.size w11).drew.trans hu1); clear hu1)))
            obtain ⟨g1, -, g3⟩ := G.out u1 H1.out
            obtain ⟨p0, p1, p2, p3, -⟩ := blk_row g1 hok
            rw [his] at p0
            rw [hrz.out.1] at p2
            have hm0 : m = 0 := hrz.out.2
            subst hm0
            have hz := cellZ_ok
            have HB1u := Lib.hid g3
            clear g1 g3 HF
            go_wp2_with fail
            exact ⟨⟨i + 1, by omega, by go_num, HB1u.out⟩, by simp [intOf]; omega⟩
          | true =>
            have hLt : li.is = true := by rw [← hisl]; exact his
            have hrr : r = ⟨true, nrm li.c, fillH N li.t⟩ := by rw [hrl]; exact plain_yes hmay hLt
            have HLI : Hid (∀ w' : World, Below w11.heap.size w11 w' → w'.cell? ⟨ba, offa + i * 57, none⟩ = some (.bool true) ∧ hasRow w' ⟨ba, offa + i * 57 + 1, none⟩ 55 = true ∧ rowOf w' ⟨ba, offa + i * 57 + 1, none⟩ 55 = li.c ∧ w'.cell? ⟨ba, offa + i * 57 + 56, none⟩ = some (.slice xa ma cpa) ∧ RdHs (fun _ => True) w' xa ma li.t) := Lib.hid fun w' h => by
              have hlc : li.c.length = 55 := (okL_len hlok.1).trans len_cellK
              have d := row_below h (p := ⟨ba, offa + i * 57, none⟩) hba 57
              have q0 := row_cell (d.1.trans e1) (d.2.trans e2) 0 (by omega)
              have q56 := row_cell (d.1.trans e1) (d.2.trans e2) 56 (by omega)
              have qp := row_part (d.1.trans e1) (d.2.trans e2) 1 55 (by omega)
              simp [Rw.vals, hLt] at q0
              refine ⟨q0, qp.1, qp.2.trans ?_, q56.trans ?_, (e3.mono (S' := fun _ => True) (fun _ _ _ => trivial)).below h (fun _ _ h => h)⟩
              · simp [Rw.vals, ← hlc]
              · simp [Rw.vals, List.getElem?_append, hlc]
            have hmN : m = N := by
              have := HV.out.2.2.1
              rw [hrr] at this
              rw [← this]; exact fillH_len N li.t
            subst hmN
            have HR2 : Hid (r.c = nrm li.c ∧ r.t = fillH m li.t) := Lib.hid (by rw [hrr]; exact ⟨rfl, rfl⟩)
            clear e1 e2 e3 hrl hli hisl hrr
            have HF : Hid (∀ w' : World, Below w11.heap.size w11 w' → hasRow w' ⟨wr.heap.size, 0, none⟩ 57 = true ∧ rowOf w' ⟨wr.heap.size, 0, none⟩ 57 = r.vals (.slice x m cp) ∧ w'.cell? ⟨wr.heap.size, 0, none⟩ = some (.bool true) ∧ w'.cell? ⟨wb.heap.size, 0, none⟩ = some (.slice (some ⟨b7, off7, none⟩) m mcap) ∧ hasRow w' ⟨b7, off7 + i * 57, none⟩ 57 = true ∧ rowOf w' ⟨b7, off7 + i * 57, none⟩ 57 = r.vals (.slice x7 m7 cp7) ∧ w'.cell? ⟨w.heap.size, 0, none⟩ = some (.slice (some ⟨ba, offa, none⟩) len cap) ∧ w'.cell? ⟨ba, offa + i * 57, none⟩ = some (.bool true)) := Lib.hid fun w' h => by
              obtain ⟨g1, -, g3⟩ := G.out w' h
              obtain ⟨j1, -, j3, -⟩ := F5.out w' g3
              obtain ⟨p0, -, -, -, p1, p2, -⟩ := blk_row g1 hok
              obtain ⟨p3, p4, -⟩ := H7.out w' h
              have p5 := j3.cell 0
              have p6 := j1.cell 0
              simp at p5 p6
              exact ⟨p1, p2, by rw [p0, his], p5, p3, p4, p6, (HLI.out w' h).1⟩
            go_region_held3 (fun w' => hasRow w' ⟨wr.heap.size, 0, none⟩ 57 = true ∧ rowOf w' ⟨wr.heap.size, 0, none⟩ 57 = r.vals (.slice x m cp) ∧ w'.cell? ⟨wr.heap.size, 0, none⟩ = some (.bool true) ∧ w'.cell? ⟨wb.heap.size, 0, none⟩ = some (.slice (some ⟨b7, off7, none⟩) m mcap) ∧ hasRow w' ⟨b7, off7 + i * 57, none⟩ 57 = true ∧ rowOf w' ⟨b7, off7 + i * 57, none⟩ 57 = r.vals (.slice x7 m7 cp7) ∧ w'.cell? ⟨w.heap.size, 0, none⟩ = some (.slice (some ⟨ba, offa, none⟩) len cap) ∧ w'.cell? ⟨ba, offa + i * 57, none⟩ = some (.bool true))
              (first | exact HF.out _ H1.out | exact HF.out _ (Below.refl _ _).drew)
              ((first
                | (go_at_call 44; refine (same_refl _ _ r hok (.slice x m cp) (.slice x7 m7 cp7) _ (HRR.out _ (Below.refl _ _).drew) (H7.out _ (Below.refl _ _).drew).2.2).mono ?_; rintro e u1 ⟨rfl, hu1⟩; have H1 := Lib.hid ((Below.refl w11.heap.size w11).drew.trans hu1); clear hu1)))
            have HB1u := Lib.hid (G.out u1 H1.out).2.2
            have f0 : u1.cell? ⟨wr.heap.size, 0, none⟩ = some (.bool true) := (HF.out u1 H1.out).2.2.1
            clear HF
            have hlc := hlok.1
            have hnk := nrm_ok hlok.1
            have hmm : ((m : Int) != (m : Int)) = false := by simp
            have hfn := nrm_fine hlok.1
            have H17 : Hid (∀ w' : World, Below w11.heap.size w11 w' → w'.cell? ⟨wr.heap.size, 56, none⟩ = some (.slice x m cp) ∧ hasRow w' ⟨wr.heap.size, 1, none⟩ 55 = true ∧ rowOf w' ⟨wr.heap.size, 1, none⟩ 55 = nrm li.c ∧ w'.cell? ⟨w.heap.size, 0, none⟩ = some (.slice (some ⟨ba, offa, none⟩) len cap) ∧ hasRow w' ⟨ba, offa + i * 57 + 1, none⟩ 55 = true ∧ rowOf w' ⟨ba, offa + i * 57 + 1, none⟩ 55 = li.c) := Lib.hid fun w' h => by
              obtain ⟨g1, -, g3⟩ := G.out w' h
              obtain ⟨j1, -, -, -⟩ := F5.out w' g3
              obtain ⟨p0, p1, p2, p3, -, -, -⟩ := blk_row g1 hok
              obtain ⟨-, q1, q2, -, -⟩ := HLI.out w' h
              have p6 := j1.cell 0
              simp at p6
              exact ⟨p3, p1, by rw [p2, HR2.out.1], p6, q1, q2⟩
            go_upto_region 17 with fail
            clear f0
            go_cut [116] from 37 to 185 (fun c wx => c = .bool false ∧ Below w11.heap.size w11 wx)
            case first =>
              cases hff : fineL li.c with
              | true =>
                rw [fine_nrm hlc hff] at H17
                refine wp_region_held_drew (S := fun w' => w'.cell? ⟨wr.heap.size, 56, none⟩ = some (.slice x m cp) ∧ hasRow w' ⟨wr.heap.size, 1, none⟩ 55 = true ∧ rowOf w' ⟨wr.heap.size, 1, none⟩ 55 = li.c ∧ w'.cell? ⟨w.heap.size, 0, none⟩ = some (.slice (some ⟨ba, offa, none⟩) len cap) ∧ hasRow w' ⟨ba, offa + i * 57 + 1, none⟩ 55 = true ∧ rowOf w' ⟨ba, offa + i * 57 + 1, none⟩ 55 = li.c) (by kernel_rfl) ?_ (fun hHeld => ?_)
                · exact H17.out _ H1.out.drew
                refine wpAnyH_take (i := 0) (oi := ?_) (v := ?_) ?_ (by kernel_rfl) (by kernel_rfl) (by kernel_rfl) ?_ (Or.inl ⟨?_, ?_⟩) (by assumption) ?_
                rotate_left 2
                · simp only [List.getElem?_toArray, List.getElem?_cons_zero, List.getElem?_cons_succ]; rfl
                · exact fun _ _ _ h => h
                · rfl
                · intro w' hSw; (try dsimp only at hSw); (first | (go_simp; done) | (go_simp; with_reducible rfl))
                try simp only [Act.put, List.setIfInBounds_toArray, List.set_cons_zero, List.set_cons_succ]
                refine wpAnyH_take (i := 1) (oi := ?_) (v := ?_) ?_ (by kernel_rfl) (by kernel_rfl) (by kernel_rfl) ?_ (Or.inl ⟨?_, ?_⟩) (by assumption) ?_
                rotate_left 2
                · simp only [List.getElem?_toArray, List.getElem?_cons_zero, List.getElem?_cons_succ]; rfl
                · exact fun _ _ _ h => h
                · rfl
                · intro w' hSw; (try dsimp only at hSw); (first | (go_simp; done) | (go_simp; with_reducible rfl))
                try simp only [Act.put, List.setIfInBounds_toArray, List.set_cons_zero, List.set_cons_succ]
                refine wpAnyH_take (i := 2) (oi := ?_) (v := ?_) ?_ (by kernel_rfl) (by kernel_rfl) (by kernel_rfl) ?_ (Or.inl ⟨?_, ?_⟩) (by assumption) ?_
                rotate_left 2
                · simp only [List.getElem?_toArray, List.getElem?_cons_zero, List.getElem?_cons_succ]; rfl
                · exact fun _ _ _ h => h
                · rfl
                · intro w' hSw; (try dsimp only at hSw); (first | (go_simp; done) | (go_simp; with_reducible rfl))
                try simp only [Act.put, List.setIfInBounds_toArray, List.set_cons_zero, List.set_cons_succ]
                refine wpAnyH_take (i := 3) (oi := ?_) (v := ?_) ?_ (by kernel_rfl) (by kernel_rfl) (by kernel_rfl) ?_ (Or.inl ⟨?_, ?_⟩) (by assumption) ?_
                rotate_left 2
                · simp only [List.getElem?_toArray, List.getElem?_cons_zero, List.getElem?_cons_succ]; rfl
                · exact fun _ _ _ h => h
                · rfl
                · intro w' hSw; (try dsimp only at hSw); (first | (go_simp; done) | (go_simp; with_reducible rfl))
                try simp only [Act.put, List.setIfInBounds_toArray, List.set_cons_zero, List.set_cons_succ]
                refine wpAnyH_take (i := 4) (oi := ?_) (v := ?_) ?_ (by kernel_rfl) (by kernel_rfl) (by kernel_rfl) ?_ (Or.inl ⟨?_, ?_⟩) (by assumption) ?_
                rotate_left 2
                · simp only [List.getElem?_toArray, List.getElem?_cons_zero, List.getElem?_cons_succ]; rfl
                · exact fun _ _ _ h => h
                · rfl
                · intro w' hSw; (try dsimp only at hSw); (first | (go_simp; done) | (go_simp; with_reducible rfl))
                try simp only [Act.put, List.setIfInBounds_toArray, List.set_cons_zero, List.set_cons_succ]
                refine wpAnyH_take (i := 5) (oi := ?_) (v := ?_) ?_ (by kernel_rfl) (by kernel_rfl) (by kernel_rfl) ?_ (Or.inl ⟨?_, ?_⟩) (by assumption) ?_
                rotate_left 2
                · simp only [List.getElem?_toArray, List.getElem?_cons_zero, List.getElem?_cons_succ]; rfl
                · exact fun _ _ _ h => h
                · rfl
                · intro w' hSw; (try dsimp only at hSw); (first | (go_simp; done) | (go_simp; with_reducible rfl))
                try simp only [Act.put, List.setIfInBounds_toArray, List.set_cons_zero, List.set_cons_succ]
                refine wpAnyH_take (i := 6) (oi := ?_) (v := ?_) ?_ (by kernel_rfl) (by kernel_rfl) (by kernel_rfl) ?_ (Or.inl ⟨?_, ?_⟩) (by assumption) ?_
                rotate_left 2
                · simp only [List.getElem?_toArray, List.getElem?_cons_zero, List.getElem?_cons_succ]; rfl
                · exact fun _ _ _ h => h
                · rfl
                · intro w' hSw; (try dsimp only at hSw); (first | (go_simp; done) | (go_simp; with_reducible rfl))
                try simp only [Act.put, List.setIfInBounds_toArray, List.set_cons_zero, List.set_cons_succ]
                refine wpAnyH_take (i := 7) (oi := ?_) (v := ?_) ?_ (by kernel_rfl) (by kernel_rfl) (by kernel_rfl) ?_ (Or.inl ⟨?_, ?_⟩) (by assumption) ?_
                rotate_left 2
                · simp only [List.getElem?_toArray, List.getElem?_cons_zero, List.getElem?_cons_succ]; rfl
                · exact fun _ _ _ h => h
                · rfl
                · intro w' hSw; (try dsimp only at hSw); (first | (go_simp; done) | (go_simp; with_reducible rfl))
                try simp only [Act.put, List.setIfInBounds_toArray, List.set_cons_zero, List.set_cons_succ]
                refine wpAnyH_ready (rs := [8]) (by kernel_rfl) (by simp) ?_
                refine AllReadyH.cons (o := ?_) ?_ (fun K hK => ?_) AllReadyH.nil
                rotate_left 1
                · simp only [List.getElem?_toArray, List.getElem?_cons_zero, List.getElem?_cons_succ]; rfl
                go_simp
                go_at_call 45
                refine (fineL_any (li.c) hlc _).mono ?_
                rintro e u2 ⟨rfl, hu2⟩
                rw [hff]
                have H2 := Lib.hid (below_step H1.out.drew hu2 H1.out.size)
                clear hu2
                refine hK.out _ _ ?_ (fun hHeld => ?_)
                · exact H17.out _ H2.out
                clear hK K
                try simp only [Act.put, List.setIfInBounds_toArray, List.set_cons_zero, List.set_cons_succ]
                refine wpAnyH_take (i := 9) (oi := ?_) (v := ?_) ?_ (by kernel_rfl) (by kernel_rfl) (by kernel_rfl) ?_ (Or.inl ⟨?_, ?_⟩) (by assumption) ?_
                rotate_left 2
                · simp only [List.getElem?_toArray, List.getElem?_cons_zero, List.getElem?_cons_succ]; rfl
                · exact fun _ _ _ h => h
                · rfl
                · intro w' hSw; (try dsimp only at hSw); (first | (go_simp; done) | (go_simp; with_reducible rfl))
                try simp only [Act.put, List.setIfInBounds_toArray, List.set_cons_zero, List.set_cons_succ]
                refine wpAnyH_take (i := 10) (oi := ?_) (v := ?_) ?_ (by kernel_rfl) (by kernel_rfl) (by kernel_rfl) ?_ (Or.inl ⟨?_, ?_⟩) (by assumption) ?_
                rotate_left 2
                · simp only [List.getElem?_toArray, List.getElem?_cons_zero, List.getElem?_cons_succ]; rfl
                · exact fun _ _ _ h => h
                · rfl
                · intro w' hSw; (try dsimp only at hSw); (first | (go_simp; done) | (go_simp; with_reducible rfl))
                try simp only [Act.put, List.setIfInBounds_toArray, List.set_cons_zero, List.set_cons_succ]
                refine wpAnyH_take (i := 11) (oi := ?_) (v := ?_) ?_ (by kernel_rfl) (by kernel_rfl) (by kernel_rfl) ?_ (Or.inl ⟨?_, ?_⟩) (by assumption) ?_
                rotate_left 2
                · simp only [List.getElem?_toArray, List.getElem?_cons_zero, List.getElem?_cons_succ]; rfl
                · exact fun _ _ _ h => h
                · rfl
                · intro w' hSw; (try dsimp only at hSw); (first | (go_simp; done) | (go_simp; with_reducible rfl))
                try simp only [Act.put, List.setIfInBounds_toArray, List.set_cons_zero, List.set_cons_succ]
                refine wpAnyH_take (i := 12) (oi := ?_) (v := ?_) ?_ (by kernel_rfl) (by kernel_rfl) (by kernel_rfl) ?_ (Or.inl ⟨?_, ?_⟩) (by assumption) ?_
                rotate_left 2
                · simp only [List.getElem?_toArray, List.getElem?_cons_zero, List.getElem?_cons_succ]; rfl
                · exact fun _ _ _ h => h
                · rfl
                · intro w' hSw; (try dsimp only at hSw); (first | (go_simp; done) | (go_simp; with_reducible rfl))
                try simp only [Act.put, List.setIfInBounds_toArray, List.set_cons_zero, List.set_cons_succ]
                refine wpAnyH_take (i := 13) (oi := ?_) (v := ?_) ?_ (by kernel_rfl) (by kernel_rfl) (by kernel_rfl) ?_ (Or.inl ⟨?_, ?_⟩) (by assumption) ?_
                rotate_left 2
                · simp only [List.getElem?_toArray, List.getElem?_cons_zero, List.getElem?_cons_succ]; rfl
                · exact fun _ _ _ h => h
                · rfl
                · intro w' hSw; (try dsimp only at hSw); (first | (go_simp; done) | (go_simp; with_reducible rfl))
                try simp only [Act.put, List.setIfInBounds_toArray, List.set_cons_zero, List.set_cons_succ]
                refine wpAnyH_take (i := 14) (oi := ?_) (v := ?_) ?_ (by kernel_rfl) (by kernel_rfl) (by kernel_rfl) ?_ (Or.inl ⟨?_, ?_⟩) (by assumption) ?_
                rotate_left 2
                · simp only [List.getElem?_toArray, List.getElem?_cons_zero, List.getElem?_cons_succ]; rfl
                · exact fun _ _ _ h => h
                · rfl
                · intro w' hSw; (try dsimp only at hSw); (first | (go_simp; done) | (go_simp; with_reducible rfl))
                try simp only [Act.put, List.setIfInBounds_toArray, List.set_cons_zero, List.set_cons_succ]
                refine wpAnyH_take (i := 15) (oi := ?_) (v := ?_) ?_ (by kernel_rfl) (by kernel_rfl) (by kernel_rfl) ?_ (Or.inl ⟨?_, ?_⟩) (by assumption) ?_
                rotate_left 2
                · simp only [List.getElem?_toArray, List.getElem?_cons_zero, List.getElem?_cons_succ]; rfl
                · exact fun _ _ _ h => h
                · rfl
                · intro w' hSw; (try dsimp only at hSw); (first | (go_simp; done) | (go_simp; with_reducible rfl))
                try simp only [Act.put, List.setIfInBounds_toArray, List.set_cons_zero, List.set_cons_succ]
                refine wpAnyH_take (i := 16) (oi := ?_) (v := ?_) ?_ (by kernel_rfl) (by kernel_rfl) (by kernel_rfl) ?_ (Or.inl ⟨?_, ?_⟩) (by assumption) ?_
                rotate_left 2
                · simp only [List.getElem?_toArray, List.getElem?_cons_zero, List.getElem?_cons_succ]; rfl
                · exact fun _ _ _ h => h
                · rfl
                · intro w' hSw; (try dsimp only at hSw); (first | (go_simp; done) | (go_simp; with_reducible rfl))
                try simp only [Act.put, List.setIfInBounds_toArray, List.set_cons_zero, List.set_cons_succ]
                refine wpAnyH_take (i := 17) (oi := ?_) (v := ?_) ?_ (by kernel_rfl) (by kernel_rfl) (by kernel_rfl) ?_ (Or.inl ⟨?_, ?_⟩) (by assumption) ?_
                rotate_left 2
                · simp only [List.getElem?_toArray, List.getElem?_cons_zero, List.getElem?_cons_succ]; rfl
                · exact fun _ _ _ h => h
                · rfl
                · intro w' hSw; (try dsimp only at hSw); (first | (go_simp; done) | (go_simp; with_reducible rfl))
                try simp only [Act.put, List.setIfInBounds_toArray, List.set_cons_zero, List.set_cons_succ]
                refine wpAnyH_ready (rs := [18]) (by kernel_rfl) (by simp) ?_
                refine AllReadyH.cons (o := ?_) ?_ (fun K hK => ?_) AllReadyH.nil
                rotate_left 1
                · simp only [List.getElem?_toArray, List.getElem?_cons_zero, List.getElem?_cons_succ]; rfl
                go_simp
                go_at_call 45
                refine (fineL_any li.c hlc _).mono ?_
                rintro e u3 ⟨rfl, hu3⟩
                rw [hff]
                have H3 := Lib.hid (below_step H2.out hu3 H2.out.size)
                clear hu3
                refine hK.out _ _ ?_ (fun hHeld => ?_)
                · exact H17.out _ H3.out
                clear hK K
                try simp only [Act.put, List.setIfInBounds_toArray, List.set_cons_zero, List.set_cons_succ]
                refine wpAnyH_take (i := 19) (oi := ?_) (v := ?_) ?_ (by kernel_rfl) (by kernel_rfl) (by kernel_rfl) ?_ (Or.inl ⟨?_, ?_⟩) (by assumption) ?_
                rotate_left 2
                · simp only [List.getElem?_toArray, List.getElem?_cons_zero, List.getElem?_cons_succ]; rfl
                · exact fun _ _ _ h => h
                · rfl
                · intro w' hSw; (try dsimp only at hSw); (first | (go_simp; done) | (go_simp; with_reducible rfl))
                try simp only [Act.put, List.setIfInBounds_toArray, List.set_cons_zero, List.set_cons_succ]
                refine wpAnyH_take (i := 20) (oi := ?_) (v := ?_) ?_ (by kernel_rfl) (by kernel_rfl) (by kernel_rfl) ?_ (Or.inl ⟨?_, ?_⟩) (by assumption) ?_
                rotate_left 2
                · simp only [List.getElem?_toArray, List.getElem?_cons_zero, List.getElem?_cons_succ]; rfl
                · exact fun _ _ _ h => h
                · rfl
                · intro w' hSw; (try dsimp only at hSw); (first | (go_simp; done) | (go_simp; with_reducible rfl))
                try simp only [Act.put, List.setIfInBounds_toArray, List.set_cons_zero, List.set_cons_succ]
                refine wpAnyH_take (i := 21) (oi := ?_) (v := ?_) ?_ (by kernel_rfl) (by kernel_rfl) (by kernel_rfl) ?_ (Or.inl ⟨?_, ?_⟩) (by assumption) ?_
                rotate_left 2
                · simp only [List.getElem?_toArray, List.getElem?_cons_zero, List.getElem?_cons_succ]; rfl
                · exact fun _ _ _ h => h
                · rfl
                · intro w' hSw; (try dsimp only at hSw); (first | (go_simp; done) | (go_simp; with_reducible rfl))
                try simp only [Act.put, List.setIfInBounds_toArray, List.set_cons_zero, List.set_cons_succ]
                refine wpAnyH_take (i := 22) (oi := ?_) (v := ?_) ?_ (by kernel_rfl) (by kernel_rfl) (by kernel_rfl) ?_ (Or.inl ⟨?_, ?_⟩) (by assumption) ?_
                rotate_left 2
                · simp only [List.getElem?_toArray, List.getElem?_cons_zero, List.getElem?_cons_succ]; rfl
                · exact fun _ _ _ h => h
                · rfl
                · intro w' hSw; (try dsimp only at hSw); (first | (go_simp; done) | (go_simp; with_reducible rfl))
                try simp only [Act.put, List.setIfInBounds_toArray, List.set_cons_zero, List.set_cons_succ]
                refine wpAnyH_take (i := 23) (oi := ?_) (v := ?_) ?_ (by kernel_rfl) (by kernel_rfl) (by kernel_rfl) ?_ (Or.inl ⟨?_, ?_⟩) (by assumption) ?_
                rotate_left 2
                · simp only [List.getElem?_toArray, List.getElem?_cons_zero, List.getElem?_cons_succ]; rfl
                · exact fun _ _ _ h => h
                · rfl
                · intro w' hSw; (try dsimp only at hSw); (first | (go_simp; done) | (go_simp; with_reducible rfl))
                try simp only [Act.put, List.setIfInBounds_toArray, List.set_cons_zero, List.set_cons_succ]
                refine wpAnyH_take (i := 24) (oi := ?_) (v := ?_) ?_ (by kernel_rfl) (by kernel_rfl) (by kernel_rfl) ?_ (Or.inl ⟨?_, ?_⟩) (by assumption) ?_
                rotate_left 2
                · simp only [List.getElem?_toArray, List.getElem?_cons_zero, List.getElem?_cons_succ]; rfl
                · exact fun _ _ _ h => h
                · rfl
                · intro w' hSw; (try dsimp only at hSw); (first | (go_simp; done) | (go_simp; with_reducible rfl))
                try simp only [Act.put, List.setIfInBounds_toArray, List.set_cons_zero, List.set_cons_succ]
                refine wpAnyH_take (i := 25) (oi := ?_) (v := ?_) ?_ (by kernel_rfl) (by kernel_rfl) (by kernel_rfl) ?_ (Or.inl ⟨?_, ?_⟩) (by assumption) ?_
                rotate_left 2
                · simp only [List.getElem?_toArray, List.getElem?_cons_zero, List.getElem?_cons_succ]; rfl
                · exact fun _ _ _ h => h
                · rfl
                · intro w' hSw; (try dsimp only at hSw); (first | (go_simp; done) | (go_simp; with_reducible rfl))
                try simp only [Act.put, List.setIfInBounds_toArray, List.set_cons_zero, List.set_cons_succ]
                refine wpAnyH_take (i := 26) (oi := ?_) (v := ?_) ?_ (by kernel_rfl) (by kernel_rfl) (by kernel_rfl) ?_ (Or.inl ⟨?_, ?_⟩) (by assumption) ?_
                rotate_left 2
                · simp only [List.getElem?_toArray, List.getElem?_cons_zero, List.getElem?_cons_succ]; rfl
                · exact fun _ _ _ h => h
                · rfl
                · intro w' hSw; (try dsimp only at hSw); (first | (go_simp; done) | (go_simp; with_reducible rfl))
                try simp only [Act.put, List.setIfInBounds_toArray, List.set_cons_zero, List.set_cons_succ]
                refine wpAnyH_take (i := 27) (oi := ?_) (v := ?_) ?_ (by kernel_rfl) (by kernel_rfl) (by kernel_rfl) ?_ (Or.inl ⟨?_, ?_⟩) (by assumption) ?_
                rotate_left 2
                · simp only [List.getElem?_toArray, List.getElem?_cons_zero, List.getElem?_cons_succ]; rfl
                · exact fun _ _ _ h => h
                · rfl
                · intro w' hSw; (try dsimp only at hSw); (first | (go_simp; done) | (go_simp; with_reducible rfl))
                try simp only [Act.put, List.setIfInBounds_toArray, List.set_cons_zero, List.set_cons_succ]
                refine wpAnyH_take (i := 28) (oi := ?_) (v := ?_) ?_ (by kernel_rfl) (by kernel_rfl) (by kernel_rfl) ?_ (Or.inl ⟨?_, ?_⟩) (by assumption) ?_
                rotate_left 2
                · simp only [List.getElem?_toArray, List.getElem?_cons_zero, List.getElem?_cons_succ]; rfl
                · exact fun _ _ _ h => h
                · rfl
                · intro w' hSw; (try dsimp only at hSw); (first | (go_simp; done) | (go_simp; with_reducible rfl))
                try simp only [Act.put, List.setIfInBounds_toArray, List.set_cons_zero, List.set_cons_succ]
                refine wpAnyH_take (i := 29) (oi := ?_) (v := ?_) ?_ (by kernel_rfl) (by kernel_rfl) (by kernel_rfl) ?_ (Or.inl ⟨?_, ?_⟩) (by assumption) ?_
                rotate_left 2
                · simp only [List.getElem?_toArray, List.getElem?_cons_zero, List.getElem?_cons_succ]; rfl
                · exact fun _ _ _ h => h
                · rfl
                · intro w' hSw; (try dsimp only at hSw); (first | (go_simp; done) | (go_simp; with_reducible rfl))
                try simp only [Act.put, List.setIfInBounds_toArray, List.set_cons_zero, List.set_cons_succ]
                refine wpAnyH_take (i := 30) (oi := ?_) (v := ?_) ?_ (by kernel_rfl) (by kernel_rfl) (by kernel_rfl) ?_ (Or.inl ⟨?_, ?_⟩) (by assumption) ?_
                rotate_left 2
                · simp only [List.getElem?_toArray, List.getElem?_cons_zero, List.getElem?_cons_succ]; rfl
                · exact fun _ _ _ h => h
                · rfl
                · intro w' hSw; (try dsimp only at hSw); (first | (go_simp; done) | (go_simp; with_reducible rfl))
                try simp only [Act.put, List.setIfInBounds_toArray, List.set_cons_zero, List.set_cons_succ]
                refine wpAnyH_done (by kernel_rfl) ?_ _
                go_wp2_with fail
                go_meet
                exact ⟨rfl, H3.out⟩
              | false =>
                refine wp_region_held_drew (S := fun w' => w'.cell? ⟨wr.heap.size, 56, none⟩ = some (.slice x m cp) ∧ hasRow w' ⟨wr.heap.size, 1, none⟩ 55 = true ∧ rowOf w' ⟨wr.heap.size, 1, none⟩ 55 = nrm li.c ∧ w'.cell? ⟨w.heap.size, 0, none⟩ = some (.slice (some ⟨ba, offa, none⟩) len cap) ∧ hasRow w' ⟨ba, offa + i * 57 + 1, none⟩ 55 = true ∧ rowOf w' ⟨ba, offa + i * 57 + 1, none⟩ 55 = li.c) (by kernel_rfl) ?_ (fun hHeld => ?_)
                · exact H17.out _ H1.out.drew
                refine wpAnyH_take (i := 0) (oi := ?_) (v := ?_) ?_ (by kernel_rfl) (by kernel_rfl) (by kernel_rfl) ?_ (Or.inl ⟨?_, ?_⟩) (by assumption) ?_
                rotate_left 2
                · simp only [List.getElem?_toArray, List.getElem?_cons_zero, List.getElem?_cons_succ]; rfl
                · exact fun _ _ _ h => h
                · rfl
                · intro w' hSw; (try dsimp only at hSw); (first | (go_simp; done) | (go_simp; with_reducible rfl))
                try simp only [Act.put, List.setIfInBounds_toArray, List.set_cons_zero, List.set_cons_succ]
                refine wpAnyH_take (i := 1) (oi := ?_) (v := ?_) ?_ (by kernel_rfl) (by kernel_rfl) (by kernel_rfl) ?_ (Or.inl ⟨?_, ?_⟩) (by assumption) ?_
                rotate_left 2
                · simp only [List.getElem?_toArray, List.getElem?_cons_zero, List.getElem?_cons_succ]; rfl
                · exact fun _ _ _ h => h
                · rfl
                · intro w' hSw; (try dsimp only at hSw); (first | (go_simp; done) | (go_simp; with_reducible rfl))
                try simp only [Act.put, List.setIfInBounds_toArray, List.set_cons_zero, List.set_cons_succ]
                refine wpAnyH_take (i := 2) (oi := ?_) (v := ?_) ?_ (by kernel_rfl) (by kernel_rfl) (by kernel_rfl) ?_ (Or.inl ⟨?_, ?_⟩) (by assumption) ?_
                rotate_left 2
                · simp only [List.getElem?_toArray, List.getElem?_cons_zero, List.getElem?_cons_succ]; rfl
                · exact fun _ _ _ h => h
                · rfl
                · intro w' hSw; (try dsimp only at hSw); (first | (go_simp; done) | (go_simp; with_reducible rfl))
                try simp only [Act.put, List.setIfInBounds_toArray, List.set_cons_zero, List.set_cons_succ]
                refine wpAnyH_take (i := 3) (oi := ?_) (v := ?_) ?_ (by kernel_rfl) (by kernel_rfl) (by kernel_rfl) ?_ (Or.inl ⟨?_, ?_⟩) (by assumption) ?_
                rotate_left 2
                · simp only [List.getElem?_toArray, List.getElem?_cons_zero, List.getElem?_cons_succ]; rfl
                · exact fun _ _ _ h => h
                · rfl
                · intro w' hSw; (try dsimp only at hSw); (first | (go_simp; done) | (go_simp; with_reducible rfl))
                try simp only [Act.put, List.setIfInBounds_toArray, List.set_cons_zero, List.set_cons_succ]
                refine wpAnyH_take (i := 4) (oi := ?_) (v := ?_) ?_ (by kernel_rfl) (by kernel_rfl) (by kernel_rfl) ?_ (Or.inl ⟨?_, ?_⟩) (by assumption) ?_
                rotate_left 2
                · simp only [List.getElem?_toArray, List.getElem?_cons_zero, List.getElem?_cons_succ]; rfl
                · exact fun _ _ _ h => h
                · rfl
                · intro w' hSw; (try dsimp only at hSw); (first | (go_simp; done) | (go_simp; with_reducible rfl))
                try simp only [Act.put, List.setIfInBounds_toArray, List.set_cons_zero, List.set_cons_succ]
                refine wpAnyH_take (i := 5) (oi := ?_) (v := ?_) ?_ (by kernel_rfl) (by kernel_rfl) (by kernel_rfl) ?_ (Or.inl ⟨?_, ?_⟩) (by assumption) ?_
                rotate_left 2
                · simp only [List.getElem?_toArray, List.getElem?_cons_zero, List.getElem?_cons_succ]; rfl
                · exact fun _ _ _ h => h
                · rfl
                · intro w' hSw; (try dsimp only at hSw); (first | (go_simp; done) | (go_simp; with_reducible rfl))
                try simp only [Act.put, List.setIfInBounds_toArray, List.set_cons_zero, List.set_cons_succ]
                refine wpAnyH_take (i := 6) (oi := ?_) (v := ?_) ?_ (by kernel_rfl) (by kernel_rfl) (by kernel_rfl) ?_ (Or.inl ⟨?_, ?_⟩) (by assumption) ?_
                rotate_left 2
                · simp only [List.getElem?_toArray, List.getElem?_cons_zero, List.getElem?_cons_succ]; rfl
                · exact fun _ _ _ h => h
                · rfl
                · intro w' hSw; (try dsimp only at hSw); (first | (go_simp; done) | (go_simp; with_reducible rfl))
                try simp only [Act.put, List.setIfInBounds_toArray, List.set_cons_zero, List.set_cons_succ]
                refine wpAnyH_take (i := 7) (oi := ?_) (v := ?_) ?_ (by kernel_rfl) (by kernel_rfl) (by kernel_rfl) ?_ (Or.inl ⟨?_, ?_⟩) (by assumption) ?_
                rotate_left 2
                · simp only [List.getElem?_toArray, List.getElem?_cons_zero, List.getElem?_cons_succ]; rfl
                · exact fun _ _ _ h => h
                · rfl
                · intro w' hSw; (try dsimp only at hSw); (first | (go_simp; done) | (go_simp; with_reducible rfl))
                try simp only [Act.put, List.setIfInBounds_toArray, List.set_cons_zero, List.set_cons_succ]
                refine wpAnyH_ready (rs := [8]) (by kernel_rfl) (by simp) ?_
                refine AllReadyH.cons (o := ?_) ?_ (fun K hK => ?_) AllReadyH.nil
                rotate_left 1
                · simp only [List.getElem?_toArray, List.getElem?_cons_zero, List.getElem?_cons_succ]; rfl
                go_simp
                go_at_call 45
                refine (fineL_any (nrm li.c) hnk _).mono ?_
                rintro e u2 ⟨rfl, hu2⟩
                rw [hfn]
                have H2 := Lib.hid (below_step H1.out.drew hu2 H1.out.size)
                clear hu2
                refine hK.out _ _ ?_ (fun hHeld => ?_)
                · exact H17.out _ H2.out
                clear hK K
                try simp only [Act.put, List.setIfInBounds_toArray, List.set_cons_zero, List.set_cons_succ]
                refine wpAnyH_take (i := 9) (oi := ?_) (v := ?_) ?_ (by kernel_rfl) (by kernel_rfl) (by kernel_rfl) ?_ (Or.inl ⟨?_, ?_⟩) (by assumption) ?_
                rotate_left 2
                · simp only [List.getElem?_toArray, List.getElem?_cons_zero, List.getElem?_cons_succ]; rfl
                · exact fun _ _ _ h => h
                · rfl
                · intro w' hSw; (try dsimp only at hSw); (first | (go_simp; done) | (go_simp; with_reducible rfl))
                try simp only [Act.put, List.setIfInBounds_toArray, List.set_cons_zero, List.set_cons_succ]
                refine wpAnyH_take (i := 10) (oi := ?_) (v := ?_) ?_ (by kernel_rfl) (by kernel_rfl) (by kernel_rfl) ?_ (Or.inl ⟨?_, ?_⟩) (by assumption) ?_
                rotate_left 2
                · simp only [List.getElem?_toArray, List.getElem?_cons_zero, List.getElem?_cons_succ]; rfl
                · exact fun _ _ _ h => h
                · rfl
                · intro w' hSw; (try dsimp only at hSw); (first | (go_simp; done) | (go_simp; with_reducible rfl))
                try simp only [Act.put, List.setIfInBounds_toArray, List.set_cons_zero, List.set_cons_succ]
                refine wpAnyH_take (i := 11) (oi := ?_) (v := ?_) ?_ (by kernel_rfl) (by kernel_rfl) (by kernel_rfl) ?_ (Or.inl ⟨?_, ?_⟩) (by assumption) ?_
                rotate_left 2
                · simp only [List.getElem?_toArray, List.getElem?_cons_zero, List.getElem?_cons_succ]; rfl
                · exact fun _ _ _ h => h
                · rfl
                · intro w' hSw; (try dsimp only at hSw); (first | (go_simp; done) | (go_simp; with_reducible rfl))
                try simp only [Act.put, List.setIfInBounds_toArray, List.set_cons_zero, List.set_cons_succ]
                refine wpAnyH_take (i := 12) (oi := ?_) (v := ?_) ?_ (by kernel_rfl) (by kernel_rfl) (by kernel_rfl) ?_ (Or.inl ⟨?_, ?_⟩) (by assumption) ?_
                rotate_left 2
                · simp only [List.getElem?_toArray, List.getElem?_cons_zero, List.getElem?_cons_succ]; rfl
                · exact fun _ _ _ h => h
                · rfl
                · intro w' hSw; (try dsimp only at hSw); (first | (go_simp; done) | (go_simp; with_reducible rfl))
                try simp only [Act.put, List.setIfInBounds_toArray, List.set_cons_zero, List.set_cons_succ]
                refine wpAnyH_take (i := 13) (oi := ?_) (v := ?_) ?_ (by kernel_rfl) (by kernel_rfl) (by kernel_rfl) ?_ (Or.inl ⟨?_, ?_⟩) (by assumption) ?_
                rotate_left 2
                · simp only [List.getElem?_toArray, List.getElem?_cons_zero, List.getElem?_cons_succ]; rfl
                · exact fun _ _ _ h => h
                · rfl
                · intro w' hSw; (try dsimp only at hSw); (first | (go_simp; done) | (go_simp; with_reducible rfl))
                try simp only [Act.put, List.setIfInBounds_toArray, List.set_cons_zero, List.set_cons_succ]
                refine wpAnyH_take (i := 14) (oi := ?_) (v := ?_) ?_ (by kernel_rfl) (by kernel_rfl) (by kernel_rfl) ?_ (Or.inl ⟨?_, ?_⟩) (by assumption) ?_
                rotate_left 2
                · simp only [List.getElem?_toArray, List.getElem?_cons_zero, List.getElem?_cons_succ]; rfl
                · exact fun _ _ _ h => h
                · rfl
                · intro w' hSw; (try dsimp only at hSw); (first | (go_simp; done) | (go_simp; with_reducible rfl))
                try simp only [Act.put, List.setIfInBounds_toArray, List.set_cons_zero, List.set_cons_succ]
                refine wpAnyH_take (i := 15) (oi := ?_) (v := ?_) ?_ (by kernel_rfl) (by kernel_rfl) (by kernel_rfl) ?_ (Or.inl ⟨?_, ?_⟩) (by assumption) ?_
                rotate_left 2
                · simp only [List.getElem?_toArray, List.getElem?_cons_zero, List.getElem?_cons_succ]; rfl
                · exact fun _ _ _ h => h
                · rfl
                · intro w' hSw; (try dsimp only at hSw); (first | (go_simp; done) | (go_simp; with_reducible rfl))
                try simp only [Act.put, List.setIfInBounds_toArray, List.set_cons_zero, List.set_cons_succ]
                refine wpAnyH_take (i := 16) (oi := ?_) (v := ?_) ?_ (by kernel_rfl) (by kernel_rfl) (by kernel_rfl) ?_ (Or.inl ⟨?_, ?_⟩) (by assumption) ?_
                rotate_left 2
                · simp only [List.getElem?_toArray, List.getElem?_cons_zero, List.getElem?_cons_succ]; rfl
                · exact fun _ _ _ h => h
                · rfl
                · intro w' hSw; (try dsimp only at hSw); (first | (go_simp; done) | (go_simp; with_reducible rfl))
                try simp only [Act.put, List.setIfInBounds_toArray, List.set_cons_zero, List.set_cons_succ]
                refine wpAnyH_take (i := 17) (oi := ?_) (v := ?_) ?_ (by kernel_rfl) (by kernel_rfl) (by kernel_rfl) ?_ (Or.inl ⟨?_, ?_⟩) (by assumption) ?_
                rotate_left 2
                · simp only [List.getElem?_toArray, List.getElem?_cons_zero, List.getElem?_cons_succ]; rfl
                · exact fun _ _ _ h => h
                · rfl
                · intro w' hSw; (try dsimp only at hSw); (first | (go_simp; done) | (go_simp; with_reducible rfl))
                try simp only [Act.put, List.setIfInBounds_toArray, List.set_cons_zero, List.set_cons_succ]
                refine wpAnyH_ready (rs := [18]) (by kernel_rfl) (by simp) ?_
                refine AllReadyH.cons (o := ?_) ?_ (fun K hK => ?_) AllReadyH.nil
                rotate_left 1
                · simp only [List.getElem?_toArray, List.getElem?_cons_zero, List.getElem?_cons_succ]; rfl
                go_simp
                go_at_call 45
                refine (fineL_any li.c hlc _).mono ?_
                rintro e u3 ⟨rfl, hu3⟩
                rw [hff]
                have H3 := Lib.hid (below_step H2.out hu3 H2.out.size)
                clear hu3
                refine hK.out _ _ ?_ (fun hHeld => ?_)
                · exact H17.out _ H3.out
                clear hK K
                try simp only [Act.put, List.setIfInBounds_toArray, List.set_cons_zero, List.set_cons_succ]
                refine wpAnyH_take (i := 19) (oi := ?_) (v := ?_) ?_ (by kernel_rfl) (by kernel_rfl) (by kernel_rfl) ?_ (Or.inl ⟨?_, ?_⟩) (by assumption) ?_
                rotate_left 2
                · simp only [List.getElem?_toArray, List.getElem?_cons_zero, List.getElem?_cons_succ]; rfl
                · exact fun _ _ _ h => h
                · rfl
                · intro w' hSw; (try dsimp only at hSw); (first | (go_simp; done) | (go_simp; with_reducible rfl))
                try simp only [Act.put, List.setIfInBounds_toArray, List.set_cons_zero, List.set_cons_succ]
                refine wpAnyH_take (i := 20) (oi := ?_) (v := undef) ?_ (by kernel_rfl) (by kernel_rfl) (by kernel_rfl) ?_ (Or.inr ⟨?_, rfl⟩) (by assumption) ?_
                rotate_left 1
                · simp only [List.getElem?_toArray, List.getElem?_cons_zero, List.getElem?_cons_succ]; rfl
                · exact fun _ _ _ h => h
                · rfl
                try simp only [Act.put, List.setIfInBounds_toArray, List.set_cons_zero, List.set_cons_succ]
                refine wpAnyH_take (i := 21) (oi := ?_) (v := undef) ?_ (by kernel_rfl) (by kernel_rfl) (by kernel_rfl) ?_ (Or.inr ⟨?_, rfl⟩) (by assumption) ?_
                rotate_left 1
                · simp only [List.getElem?_toArray, List.getElem?_cons_zero, List.getElem?_cons_succ]; rfl
                · exact fun _ _ _ h => h
                · rfl
                try simp only [Act.put, List.setIfInBounds_toArray, List.set_cons_zero, List.set_cons_succ]
                refine wpAnyH_take (i := 22) (oi := ?_) (v := undef) ?_ (by kernel_rfl) (by kernel_rfl) (by kernel_rfl) ?_ (Or.inr ⟨?_, rfl⟩) (by assumption) ?_
                rotate_left 1
                · simp only [List.getElem?_toArray, List.getElem?_cons_zero, List.getElem?_cons_succ]; rfl
                · exact fun _ _ _ h => h
                · rfl
                try simp only [Act.put, List.setIfInBounds_toArray, List.set_cons_zero, List.set_cons_succ]
                refine wpAnyH_take (i := 23) (oi := ?_) (v := undef) ?_ (by kernel_rfl) (by kernel_rfl) (by kernel_rfl) ?_ (Or.inr ⟨?_, rfl⟩) (by assumption) ?_
                rotate_left 1
                · simp only [List.getElem?_toArray, List.getElem?_cons_zero, List.getElem?_cons_succ]; rfl
                · exact fun _ _ _ h => h
                · rfl
                try simp only [Act.put, List.setIfInBounds_toArray, List.set_cons_zero, List.set_cons_succ]
                refine wpAnyH_take (i := 24) (oi := ?_) (v := undef) ?_ (by kernel_rfl) (by kernel_rfl) (by kernel_rfl) ?_ (Or.inr ⟨?_, rfl⟩) (by assumption) ?_
                rotate_left 1
                · simp only [List.getElem?_toArray, List.getElem?_cons_zero, List.getElem?_cons_succ]; rfl
                · exact fun _ _ _ h => h
                · rfl
                try simp only [Act.put, List.setIfInBounds_toArray, List.set_cons_zero, List.set_cons_succ]
                refine wpAnyH_take (i := 25) (oi := ?_) (v := undef) ?_ (by kernel_rfl) (by kernel_rfl) (by kernel_rfl) ?_ (Or.inr ⟨?_, rfl⟩) (by assumption) ?_
                rotate_left 1
                · simp only [List.getElem?_toArray, List.getElem?_cons_zero, List.getElem?_cons_succ]; rfl
                · exact fun _ _ _ h => h
                · rfl
                try simp only [Act.put, List.setIfInBounds_toArray, List.set_cons_zero, List.set_cons_succ]
                refine wpAnyH_take (i := 26) (oi := ?_) (v := undef) ?_ (by kernel_rfl) (by kernel_rfl) (by kernel_rfl) ?_ (Or.inr ⟨?_, rfl⟩) (by assumption) ?_
                rotate_left 1
                · simp only [List.getElem?_toArray, List.getElem?_cons_zero, List.getElem?_cons_succ]; rfl
                · exact fun _ _ _ h => h
                · rfl
                try simp only [Act.put, List.setIfInBounds_toArray, List.set_cons_zero, List.set_cons_succ]
                refine wpAnyH_take (i := 27) (oi := ?_) (v := undef) ?_ (by kernel_rfl) (by kernel_rfl) (by kernel_rfl) ?_ (Or.inr ⟨?_, rfl⟩) (by assumption) ?_
                rotate_left 1
                · simp only [List.getElem?_toArray, List.getElem?_cons_zero, List.getElem?_cons_succ]; rfl
                · exact fun _ _ _ h => h
                · rfl
                try simp only [Act.put, List.setIfInBounds_toArray, List.set_cons_zero, List.set_cons_succ]
                refine wpAnyH_take (i := 28) (oi := ?_) (v := undef) ?_ (by kernel_rfl) (by kernel_rfl) (by kernel_rfl) ?_ (Or.inr ⟨?_, rfl⟩) (by assumption) ?_
                rotate_left 1
                · simp only [List.getElem?_toArray, List.getElem?_cons_zero, List.getElem?_cons_succ]; rfl
                · exact fun _ _ _ h => h
                · rfl
                try simp only [Act.put, List.setIfInBounds_toArray, List.set_cons_zero, List.set_cons_succ]
                refine wpAnyH_take (i := 29) (oi := ?_) (v := ?_) ?_ (by kernel_rfl) (by kernel_rfl) (by kernel_rfl) ?_ (Or.inl ⟨?_, ?_⟩) (by assumption) ?_
                rotate_left 2
                · simp only [List.getElem?_toArray, List.getElem?_cons_zero, List.getElem?_cons_succ]; rfl
                · exact fun _ _ _ h => h
                · rfl
                · intro w' hSw; (try dsimp only at hSw); (first | (go_simp; done) | (go_simp; with_reducible rfl))
                try simp only [Act.put, List.setIfInBounds_toArray, List.set_cons_zero, List.set_cons_succ]
                refine wpAnyH_take (i := 30) (oi := ?_) (v := ?_) ?_ (by kernel_rfl) (by kernel_rfl) (by kernel_rfl) ?_ (Or.inl ⟨?_, ?_⟩) (by assumption) ?_
                rotate_left 2
                · simp only [List.getElem?_toArray, List.getElem?_cons_zero, List.getElem?_cons_succ]; rfl
                · exact fun _ _ _ h => h
                · rfl
                · intro w' hSw; (try dsimp only at hSw); (first | (go_simp; done) | (go_simp; with_reducible rfl))
                try simp only [Act.put, List.setIfInBounds_toArray, List.set_cons_zero, List.set_cons_succ]
                refine wpAnyH_done (by kernel_rfl) ?_ _
                go_wp2_with fail
                go_meet
                exact ⟨rfl, H3.out⟩
            case rest =>
              obtain ⟨rfl, hcB⟩ := hcut
              have HCB := Lib.hid hcB
              clear hcB H17
              obtain ⟨wo, hwo⟩ : ∃ wo, wo = wr := ⟨_, rfl⟩
              subst hwo
              go_wp2_with fail
              go_loopw [10] (fun j wk => ∃ k : Nat, k ≤ m ∧ j = .int .i64 k ∧ Below w11.heap.size w11 wk) (fun j _ => m - (intOf j).toNat)
              case atStart => exact ⟨0, by omega, rfl, HCB.out⟩
              case round =>
                obtain ⟨k, hk, rfl, hBk⟩ := hrel
                by_cases hlk : k < m
                · obtain ⟨g1, g2, g3⟩ := G.out wr hBk
                  obtain ⟨-, -, -, q56, qT⟩ := HLI.out wr hBk
                  obtain ⟨j1, -⟩ := F5.out wr g3
                  obtain ⟨-, -, -, p56, -⟩ := blk_row g1 hok
                  have p6 := j1.cell 0
                  simp at p6
                  have l1 := g1.lt
                  have l2 := j1.lt
                  obtain ⟨bx, offx, X, hxx, -, hbx, ⟨y, hy, rfl⟩, d1, d2, d3⟩ := g2.row_ k hlk
                  rw [hxx] at p56
                  have hba2 : ba < wr.heap.size := Nat.lt_of_lt_of_le hba hBk.size
                  have hyo : y.ok := by
                    have := hok.2 y (by rw [HR2.out.2] at hy ⊢; exact List.mem_of_getElem? hy)
                    exact this
                  have hyl := Hd.vals_len hyo
                  have hyc1 := okL_cell1 (Hd.vals_ok hyo)
                  have hyd : y = (match li.t[k]? with | some h => h.nrm | none => hd0) := by
                    rw [HR2.out.2, fillH_at m li.t k hlk] at hy
                    injection hy with hy
                    exact hy.symm
                  have HBK := Lib.hid hBk
                  have hz1 : heldZ.all cell1 = true := by kernel_rfl
                  clear g1 g2 g3 j1 hBk hy
                  by_cases hkm : k < ma
                  · obtain ⟨bt, offt, X', hxa, -, hbt, ⟨z, hz, rfl⟩, t1, t2, t3⟩ := qT.row_ k hkm
                    rw [hxa] at q56
                    have hwo : z.ok := hlok.2 z (List.mem_of_getElem? hz)
                    have HYW : Hid (y = z.nrm) := Lib.hid (by rw [hyd, hz])
                    have hzl := Hd.vals_len hwo
                    have hzc1 := okL_cell1 (Hd.vals_ok hwo)
                    clear qT hz hyd
                    have hbt1 : bt < wr.heap.size + 1 := by omega
                    have hba1 : ba < wr.heap.size + 1 := by omega
                    have hw1 : w.heap.size < wr.heap.size + 1 := by omega
                    go_upto_region 26 with fail
                    have k11 : Blk ((wr.alloc (.cells y.vals.toArray 60)).alloc (.cells z.vals.toArray 60)) wr.heap.size 60 y.vals.toArray := (Blk.new _ _ _).alloc _
                    have k12 : Blk ((wr.alloc (.cells y.vals.toArray 60)).alloc (.cells z.vals.toArray 60)) (wr.heap.size + 1) 60 z.vals.toArray := new1 wr _ _ _
                    have hBX : Below w11.heap.size w11 ((wr.alloc (.cells y.vals.toArray 60)).alloc (.cells z.vals.toArray 60)) := (HBK.out.alloc HBK.out.size _).alloc (by have := HBK.out.size; simp; omega) _
                    generalize ((wr.alloc (.cells y.vals.toArray 60)).alloc (.cells z.vals.toArray 60)) = wx at k11 k12 hBX ⊢
                    obtain ⟨a0, a1, a2, a3, a4⟩ := blk_held k11 hyo
                    obtain ⟨b0, b1, b2, b3, b4⟩ := blk_held k12 hwo
                    have HX := Lib.hid (And.intro k11 (And.intro k12 hBX))
                    have hzk := cellZ_ok
                    clear k11 k12 hBX
                    cases hwi : z.is with
                    | false =>
                      have hyz : y = hd0 := by rw [HYW.out]; unfold Hd.nrm; rw [hwi]; rfl
                      rw [hyz] at a0 a2
                      rw [hwi] at b0
                      simp only [hd0] at a0 a2
                      clear a3 a4 b1 b2 b3 b4
                      go_wp2_with fail
                      exact ⟨⟨k + 1, by omega, by go_num, HX.out.2.2⟩, by simp [intOf]; omega⟩
                    | true =>
                      have hyz : y = ⟨true, nrm z.c⟩ := by rw [HYW.out]; unfold Hd.nrm; rw [hwi]; rfl
                      have hyc : y.c = nrm z.c := by rw [hyz]
                      have hyi : y.is = true := by rw [hyz]
                      rw [hyi] at a0
                      rw [hyc] at a2
                      rw [hwi] at b0
                      have hff1 := nrm_fine hwo
                      have hnk2 := nrm_ok hwo
                      go_wp2_with fail
                      refine (fineL_any (nrm z.c) hnk2 _).mono ?_
                      rintro e v1 ⟨rfl, hv1⟩
                      rw [hff1]
                      have HV1 := Lib.hid hv1
                      obtain ⟨c0, c1, c2, c3, c4⟩ := blk_held (HX.out.1.below hv1 HX.out.1.lt) hyo
                      obtain ⟨e0, e1, e2, e3, e4⟩ := blk_held (HX.out.2.1.below hv1 HX.out.2.1.lt) hwo
                      rw [hyi] at c0
                      rw [hyc] at c2
                      rw [hwi] at e0
                      clear a0 a1 a2 a3 a4 b0 b1 b2 b3 b4 hv1
                      go_wp2_with fail
                      refine (fineL_any z.c hwo _).mono ?_
                      rintro e v2 ⟨rfl, hv2⟩
                      have HV2 := Lib.hid (below_step (below_step HX.out.2.2 HV1.out HX.out.2.2.size) hv2 (Nat.le_trans HX.out.2.2.size HV1.out.size))
                      obtain ⟨g0, g1, g2, g3, g4⟩ := blk_held ((HX.out.1.below HV1.out HX.out.1.lt).below hv2 (HX.out.1.below HV1.out HX.out.1.lt).lt) hyo
                      obtain ⟨i0, i1, i2, i3, i4⟩ := blk_held ((HX.out.2.1.below HV1.out HX.out.2.1.lt).below hv2 (HX.out.2.1.below HV1.out HX.out.2.1.lt).lt) hwo
                      clear c0 c1 c2 c3 c4 e0 e1 e2 e3 e4 hv2 g0 g1 g2 i0 i1 i2
                      have hvk := Hd.vals_ok hwo
                      cases hf2 : fineL z.c with
                      | true =>
                        have hys : y = z := by rw [hyz, fine_nrm hwo hf2, ← hwi]
                        rw [hys] at g4
                        go_wp2_with fail
                        exact ⟨⟨k + 1, by omega, by go_num, HV2.out⟩, by simp [intOf]; omega⟩
                      | false =>
                        clear g3 g4 i3 i4
                        go_wp2_with fail
                        exact ⟨⟨k + 1, by omega, by go_num, HV2.out⟩, by simp [intOf]; omega⟩
                  · have HYW : Hid (y = hd0.nrm) := Lib.hid (by rw [hyd, List.getElem?_eq_none (by omega)]; rfl)
                    have hwo : hd0.ok := hd0_ok
                    clear qT hyd
                    go_upto_region 26 with fail
                    rw [← hd0_vals]
                    have k11 : Blk ((wr.alloc (.cells y.vals.toArray 60)).alloc (.cells hd0.vals.toArray 60)) wr.heap.size 60 y.vals.toArray := (Blk.new _ _ _).alloc _
                    have k12 : Blk ((wr.alloc (.cells y.vals.toArray 60)).alloc (.cells hd0.vals.toArray 60)) (wr.heap.size + 1) 60 hd0.vals.toArray := new1 wr _ _ _
                    have hBX : Below w11.heap.size w11 ((wr.alloc (.cells y.vals.toArray 60)).alloc (.cells hd0.vals.toArray 60)) := (HBK.out.alloc HBK.out.size _).alloc (by have := HBK.out.size; simp; omega) _
                    generalize ((wr.alloc (.cells y.vals.toArray 60)).alloc (.cells hd0.vals.toArray 60)) = wx at k11 k12 hBX ⊢
                    obtain ⟨a0, a1, a2, a3, a4⟩ := blk_held k11 hyo
                    obtain ⟨b0, b1, b2, b3, b4⟩ := blk_held k12 hwo
                    have HX := Lib.hid (And.intro k11 (And.intro k12 hBX))
                    have hzk := cellZ_ok
                    clear k11 k12 hBX
                    cases hwi : hd0.is with
                    | false =>
                      have hyz : y = hd0 := by rw [HYW.out]; unfold Hd.nrm; rw [hwi]; rfl
                      rw [hyz] at a0 a2
                      rw [hwi] at b0
                      simp only [hd0] at a0 a2
                      clear a3 a4 b1 b2 b3 b4
                      go_wp2_with fail
                      exact ⟨⟨k + 1, by omega, by go_num, HX.out.2.2⟩, by simp [intOf]; omega⟩
                    | true =>
                      have hyz : y = ⟨true, nrm hd0.c⟩ := by rw [HYW.out]; unfold Hd.nrm; rw [hwi]; rfl
                      have hyc : y.c = nrm hd0.c := by rw [hyz]
                      have hyi : y.is = true := by rw [hyz]
                      rw [hyi] at a0
                      rw [hyc] at a2
                      rw [hwi] at b0
                      have hff1 := nrm_fine hwo
                      have hnk2 := nrm_ok hwo
                      go_wp2_with fail
                      refine (fineL_any (nrm hd0.c) hnk2 _).mono ?_
                      rintro e v1 ⟨rfl, hv1⟩
                      rw [hff1]
                      have HV1 := Lib.hid hv1
                      obtain ⟨c0, c1, c2, c3, c4⟩ := blk_held (HX.out.1.below hv1 HX.out.1.lt) hyo
                      obtain ⟨e0, e1, e2, e3, e4⟩ := blk_held (HX.out.2.1.below hv1 HX.out.2.1.lt) hwo
                      rw [hyi] at c0
                      rw [hyc] at c2
                      rw [hwi] at e0
                      clear a0 a1 a2 a3 a4 b0 b1 b2 b3 b4 hv1
                      go_wp2_with fail
                      refine (fineL_any hd0.c hwo _).mono ?_
                      rintro e v2 ⟨rfl, hv2⟩
                      have HV2 := Lib.hid (below_step (below_step HX.out.2.2 HV1.out HX.out.2.2.size) hv2 (Nat.le_trans HX.out.2.2.size HV1.out.size))
                      obtain ⟨g0, g1, g2, g3, g4⟩ := blk_held ((HX.out.1.below HV1.out HX.out.1.lt).below hv2 (HX.out.1.below HV1.out HX.out.1.lt).lt) hyo
                      obtain ⟨i0, i1, i2, i3, i4⟩ := blk_held ((HX.out.2.1.below HV1.out HX.out.2.1.lt).below hv2 (HX.out.2.1.below HV1.out HX.out.2.1.lt).lt) hwo
                      clear c0 c1 c2 c3 c4 e0 e1 e2 e3 e4 hv2 g0 g1 g2 i0 i1 i2
                      have hvk := Hd.vals_ok hwo
                      cases hf2 : fineL hd0.c with
                      | true =>
                        have hys : y = hd0 := by rw [hyz, fine_nrm hwo hf2, ← hwi]
                        rw [hys] at g4
                        go_wp2_with fail
                        exact ⟨⟨k + 1, by omega, by go_num, HV2.out⟩, by simp [intOf]; omega⟩
                      | false =>
                        clear g3 g4 i3 i4
                        go_wp2_with fail
                        exact ⟨⟨k + 1, by omega, by go_num, HV2.out⟩, by simp [intOf]; omega⟩
                · have hkm2 : k = m := by omega
                  subst hkm2
                  have HBK := Lib.hid (G.out wr hBk).2.2
                  clear hBk
                  go_wp2_with fail
                  exact ⟨⟨i + 1, by omega, by go_num, HBK.out⟩, by simp [intOf]; omega⟩
        · have hilb : decide ((i : Int) < (len : Int)) = false := by simp; omega
          have his : r.is = false := by
            have := HV.out.1
            rw [HL.out.2.1, fillR_at N l i hlt, List.getElem?_eq_none (by omega)] at this
            injection this with this
            rw [← this]; rfl
          have hrz : Hid (r.c = cellZ ∧ m = 0) := Lib.hid (by
            have hmm := HV.out.2.2.1
            have := HV.out.1
            rw [HL.out.2.1, fillR_at N l i hlt, List.getElem?_eq_none (by omega)] at this
            injection this with this
            rw [← this] at hmm ⊢
            exact ⟨rfl, hmm.symm⟩)
          have HF : Hid (∀ w' : World, Below w11.heap.size w11 w' → hasRow w' ⟨wr.heap.size, 0, none⟩ 57 = true ∧ rowOf w' ⟨wr.heap.size, 0, none⟩ 57 = r.vals (.slice x m cp) ∧ w'.cell? ⟨wr.heap.size, 0, none⟩ = some (.bool false) ∧ w'.cell? ⟨wb.heap.size, 0, none⟩ = some (.slice (some ⟨b7, off7, none⟩) N mcap) ∧ hasRow w' ⟨b7, off7 + i * 57, none⟩ 57 = true ∧ rowOf w' ⟨b7, off7 + i * 57, none⟩ 57 = r.vals (.slice x7 m7 cp7) ∧ w'.cell? ⟨w.heap.size, 0, none⟩ = some (.slice a len cap)) := Lib.hid fun w' h => by
            obtain ⟨g1, -, g3⟩ := G.out w' h
            obtain ⟨j1, -, j3, -⟩ := F5.out w' g3
            obtain ⟨p0, -, -, -, p1, p2, -⟩ := blk_row g1 hok
            obtain ⟨p3, p4, -⟩ := H7.out w' h
            have p5 := j3.cell 0
            have p6 := j1.cell 0
            simp at p5 p6
            exact ⟨p1, p2, by rw [p0, his], p5, p3, p4, p6⟩
          refine wp_region_held_drew (S := fun w' => hasRow w' ⟨wr.heap.size, 0, none⟩ 57 = true ∧ rowOf w' ⟨wr.heap.size, 0, none⟩ 57 = r.vals (.slice x m cp) ∧ w'.cell? ⟨wr.heap.size, 0, none⟩ = some (.bool false) ∧ w'.cell? ⟨wb.heap.size, 0, none⟩ = some (.slice (some ⟨b7, off7, none⟩) N mcap) ∧ hasRow w' ⟨b7, off7 + i * 57, none⟩ 57 = true ∧ rowOf w' ⟨b7, off7 + i * 57, none⟩ 57 = r.vals (.slice x7 m7 cp7) ∧ w'.cell? ⟨w.heap.size, 0, none⟩ = some (.slice a len cap)) (by kernel_rfl) ?_ (fun hHeld => ?_)
          · exact HF.out _ (Below.refl _ _).drew
          refine wpAnyH_take (i := 0) (oi := ?_) (v := ?_) ?_ (by kernel_rfl) (by kernel_rfl) (by kernel_rfl) ?_ (Or.inl ⟨?_, ?_⟩) (by assumption) ?_
          rotate_left 2
          · simp only [List.getElem?_toArray, List.getElem?_cons_zero, List.getElem?_cons_succ]; rfl
          · exact fun _ _ _ h => h
          · rfl
          · intro w' hSw; (try dsimp only at hSw); (first | (go_simp; done) | (go_simp; with_reducible rfl))
          try simp only [Act.put, List.setIfInBounds_toArray, List.set_cons_zero, List.set_cons_succ]
          refine wpAnyH_take (i := 1) (oi := ?_) (v := ?_) ?_ (by kernel_rfl) (by kernel_rfl) (by kernel_rfl) ?_ (Or.inl ⟨?_, ?_⟩) (by assumption) ?_
          rotate_left 2
          · simp only [List.getElem?_toArray, List.getElem?_cons_zero, List.getElem?_cons_succ]; rfl
          · exact fun _ _ _ h => h
          · rfl
          · intro w' hSw; (try dsimp only at hSw); (first | (go_simp; done) | (go_simp; with_reducible rfl))
          try simp only [Act.put, List.setIfInBounds_toArray, List.set_cons_zero, List.set_cons_succ]
          refine wpAnyH_take (i := 2) (oi := ?_) (v := ?_) ?_ (by kernel_rfl) (by kernel_rfl) (by kernel_rfl) ?_ (Or.inl ⟨?_, ?_⟩) (by assumption) ?_
          rotate_left 2
          · simp only [List.getElem?_toArray, List.getElem?_cons_zero, List.getElem?_cons_succ]; rfl
          · exact fun _ _ _ h => h
          · rfl
          · intro w' hSw; (try dsimp only at hSw); (first | (go_simp; done) | (go_simp; with_reducible rfl))
          try simp only [Act.put, List.setIfInBounds_toArray, List.set_cons_zero, List.set_cons_succ]
          refine wpAnyH_take (i := 3) (oi := ?_) (v := ?_) ?_ (by kernel_rfl) (by kernel_rfl) (by kernel_rfl) ?_ (Or.inl ⟨?_, ?_⟩) (by assumption) ?_
          rotate_left 2
          · simp only [List.getElem?_toArray, List.getElem?_cons_zero, List.getElem?_cons_succ]; rfl
          · exact fun _ _ _ h => h
          · rfl
          · intro w' hSw; (try dsimp only at hSw); (first | (go_simp; done) | (go_simp; with_reducible rfl))
          try simp only [Act.put, List.setIfInBounds_toArray, List.set_cons_zero, List.set_cons_succ]
          refine wpAnyH_take (i := 4) (oi := ?_) (v := ?_) ?_ (by kernel_rfl) (by kernel_rfl) (by kernel_rfl) ?_ (Or.inl ⟨?_, ?_⟩) (by assumption) ?_
          rotate_left 2
          · simp only [List.getElem?_toArray, List.getElem?_cons_zero, List.getElem?_cons_succ]; rfl
          · exact fun _ _ _ h => h
          · rfl
          · intro w' hSw; (try dsimp only at hSw); (first | (go_simp; done) | (go_simp; with_reducible rfl))
          try simp only [Act.put, List.setIfInBounds_toArray, List.set_cons_zero, List.set_cons_succ]
          refine wpAnyH_take (i := 5) (oi := ?_) (v := ?_) ?_ (by kernel_rfl) (by kernel_rfl) (by kernel_rfl) ?_ (Or.inl ⟨?_, ?_⟩) (by assumption) ?_
          rotate_left 2
          · simp only [List.getElem?_toArray, List.getElem?_cons_zero, List.getElem?_cons_succ]; rfl
          · exact fun _ _ _ h => h
          · rfl
          · intro w' hSw; (try dsimp only at hSw); (first | (go_simp; done) | (go_simp; with_reducible rfl))
          try simp only [Act.put, List.setIfInBounds_toArray, List.set_cons_zero, List.set_cons_succ]
          refine wpAnyH_ready (rs := [6]) (by kernel_rfl) (by simp) ?_
          refine AllReadyH.cons (o := ?_) ?_ (fun K hK => ?_) AllReadyH.nil
          rotate_left 1
          · simp only [List.getElem?_toArray, List.getElem?_cons_zero, List.getElem?_cons_succ]; rfl
          go_simp
          go_at_call 44
          refine (same_refl _ _ r hok (.slice x m cp) (.slice x7 m7 cp7) _ (HRR.out _ (Below.refl _ _).drew) (H7.out _ (Below.refl _ _).drew).2.2).mono ?_
          rintro e u1 ⟨rfl, hu1⟩
          have H1 := Lib.hid ((Below.refl w11.heap.size w11).drew.trans hu1)
          clear hu1
          refine hK.out _ _ ?_ (fun hHeld => ?_)
          · exact HF.out _ H1.out
          clear hK K
          try simp only [Act.put, List.setIfInBounds_toArray, List.set_cons_zero, List.set_cons_succ]
          refine wpAnyH_take (i := 7) (oi := ?_) (v := ?_) ?_ (by kernel_rfl) (by kernel_rfl) (by kernel_rfl) ?_ (Or.inl ⟨?_, ?_⟩) (by assumption) ?_
          rotate_left 2
          · simp only [List.getElem?_toArray, List.getElem?_cons_zero, List.getElem?_cons_succ]; rfl
          · exact fun _ _ _ h => h
          · rfl
          · intro w' hSw; (try dsimp only at hSw); (first | (go_simp; done) | (go_simp; with_reducible rfl))
          try simp only [Act.put, List.setIfInBounds_toArray, List.set_cons_zero, List.set_cons_succ]
          refine wpAnyH_take (i := 8) (oi := ?_) (v := ?_) ?_ (by kernel_rfl) (by kernel_rfl) (by kernel_rfl) ?_ (Or.inl ⟨?_, ?_⟩) (by assumption) ?_
          rotate_left 2
          · simp only [List.getElem?_toArray, List.getElem?_cons_zero, List.getElem?_cons_succ]; rfl
          · exact fun _ _ _ h => h
          · rfl
          · intro w' hSw; (try dsimp only at hSw); (first | (go_simp; done) | (go_simp; with_reducible rfl))
          try simp only [Act.put, List.setIfInBounds_toArray, List.set_cons_zero, List.set_cons_succ]
          refine wpAnyH_take (i := 9) (oi := ?_) (v := ?_) ?_ (by kernel_rfl) (by kernel_rfl) (by kernel_rfl) ?_ (Or.inl ⟨?_, ?_⟩) (by assumption) ?_
          rotate_left 2
          · simp only [List.getElem?_toArray, List.getElem?_cons_zero, List.getElem?_cons_succ]; rfl
          · exact fun _ _ _ h => h
          · rfl
          · intro w' hSw; (try dsimp only at hSw); (first | (go_simp; done) | (go_simp; with_reducible rfl))
          try simp only [Act.put, List.setIfInBounds_toArray, List.set_cons_zero, List.set_cons_succ]
          refine wpAnyH_take (i := 10) (oi := ?_) (v := ?_) ?_ (by kernel_rfl) (by kernel_rfl) (by kernel_rfl) ?_ (Or.inl ⟨?_, ?_⟩) (by assumption) ?_
          rotate_left 2
          · simp only [List.getElem?_toArray, List.getElem?_cons_zero, List.getElem?_cons_succ]; rfl
          · exact fun _ _ _ h => h
          · rfl
          · intro w' hSw; (try dsimp only at hSw); (first | (go_simp; done) | (go_simp; with_reducible rfl))
          try simp only [Act.put, List.setIfInBounds_toArray, List.set_cons_zero, List.set_cons_succ]
          refine wpAnyH_take (i := 11) (oi := ?_) (v := ?_) ?_ (by kernel_rfl) (by kernel_rfl) (by kernel_rfl) ?_ (Or.inl ⟨?_, ?_⟩) (by assumption) ?_
          rotate_left 2
          · simp only [List.getElem?_toArray, List.getElem?_cons_zero, List.getElem?_cons_succ]; rfl
          · exact fun _ _ _ h => h
          · rfl
          · intro w' hSw; (try dsimp only at hSw); (first | (go_simp; done) | (go_simp; with_reducible rfl))
          try simp only [Act.put, List.setIfInBounds_toArray, List.set_cons_zero, List.set_cons_succ]
          refine wpAnyH_take (i := 12) (oi := ?_) (v := ?_) ?_ (by kernel_rfl) (by kernel_rfl) (by kernel_rfl) ?_ (Or.inl ⟨?_, ?_⟩) (by assumption) ?_
          rotate_left 2
          · simp only [List.getElem?_toArray, List.getElem?_cons_zero, List.getElem?_cons_succ]; rfl
          · exact fun _ _ _ h => h
          · rfl
          · intro w' hSw; (try dsimp only at hSw); (first | (go_simp; done) | (go_simp; with_reducible rfl))
          try simp only [Act.put, List.setIfInBounds_toArray, List.set_cons_zero, List.set_cons_succ]
          refine wpAnyH_take (i := 13) (oi := ?_) (v := ?_) ?_ (by kernel_rfl) (by kernel_rfl) (by kernel_rfl) ?_ (Or.inl ⟨?_, ?_⟩) (by assumption) ?_
          rotate_left 2
          · simp only [List.getElem?_toArray, List.getElem?_cons_zero, List.getElem?_cons_succ]; rfl
          · exact fun _ _ _ h => h
          · rfl
          · intro w' hSw; (try dsimp only at hSw); (first | (go_simp; done) | (go_simp; with_reducible rfl))
          try simp only [Act.put, List.setIfInBounds_toArray, List.set_cons_zero, List.set_cons_succ]
          refine wpAnyH_take (i := 14) (oi := ?_) (v := ?_) ?_ (by kernel_rfl) (by kernel_rfl) (by kernel_rfl) ?_ (Or.inl ⟨?_, ?_⟩) (by assumption) ?_
          rotate_left 2
          · simp only [List.getElem?_toArray, List.getElem?_cons_zero, List.getElem?_cons_succ]; rfl
          · exact fun _ _ _ h => h
          · rfl
          · intro w' hSw; (try dsimp only at hSw); (first | (go_simp; done) | (go_simp; with_reducible rfl))
          try simp only [Act.put, List.setIfInBounds_toArray, List.set_cons_zero, List.set_cons_succ]
          refine wpAnyH_take (i := 15) (oi := ?_) (v := ?_) ?_ (by kernel_rfl) (by kernel_rfl) (by kernel_rfl) ?_ (Or.inl ⟨?_, ?_⟩) (by assumption) ?_
          rotate_left 2
          · simp only [List.getElem?_toArray, List.getElem?_cons_zero, List.getElem?_cons_succ]; rfl
          · exact fun _ _ _ h => h
          · rfl
          · intro w' hSw; (try dsimp only at hSw); (first | (go_simp; done) | (go_simp; with_reducible rfl))
          try simp only [Act.put, List.setIfInBounds_toArray, List.set_cons_zero, List.set_cons_succ]
          refine wpAnyH_take (i := 16) (oi := ?_) (v := ?_) ?_ (by kernel_rfl) (by kernel_rfl) (by kernel_rfl) ?_ (Or.inl ⟨?_, ?_⟩) (by assumption) ?_
          rotate_left 2
          · simp only [List.getElem?_toArray, List.getElem?_cons_zero, List.getElem?_cons_succ]; rfl
          · exact fun _ _ _ h => h
          · rfl
          · intro w' hSw; (try dsimp only at hSw); (first | (go_simp; done) | (go_simp; with_reducible rfl))
          try simp only [Act.put, List.setIfInBounds_toArray, List.set_cons_zero, List.set_cons_succ]
          refine wpAnyH_take (i := 17) (oi := ?_) (v := undef) ?_ (by kernel_rfl) (by kernel_rfl) (by kernel_rfl) ?_ (Or.inr ⟨?_, rfl⟩) (by assumption) ?_
          rotate_left 1
          · simp only [List.getElem?_toArray, List.getElem?_cons_zero, List.getElem?_cons_succ]; rfl
          · exact fun _ _ _ h => h
          · rfl
          try simp only [Act.put, List.setIfInBounds_toArray, List.set_cons_zero, List.set_cons_succ]
          refine wpAnyH_take (i := 18) (oi := ?_) (v := undef) ?_ (by kernel_rfl) (by kernel_rfl) (by kernel_rfl) ?_ (Or.inr ⟨?_, rfl⟩) (by assumption) ?_
          rotate_left 1
          · simp only [List.getElem?_toArray, List.getElem?_cons_zero, List.getElem?_cons_succ]; rfl
          · exact fun _ _ _ h => h
          · rfl
          try simp only [Act.put, List.setIfInBounds_toArray, List.set_cons_zero, List.set_cons_succ]
          refine wpAnyH_take (i := 19) (oi := ?_) (v := undef) ?_ (by kernel_rfl) (by kernel_rfl) (by kernel_rfl) ?_ (Or.inr ⟨?_, rfl⟩) (by assumption) ?_
          rotate_left 1
          · simp only [List.getElem?_toArray, List.getElem?_cons_zero, List.getElem?_cons_succ]; rfl
          · exact fun _ _ _ h => h
          · rfl
          try simp only [Act.put, List.setIfInBounds_toArray, List.set_cons_zero, List.set_cons_succ]
          refine wpAnyH_take (i := 20) (oi := ?_) (v := undef) ?_ (by kernel_rfl) (by kernel_rfl) (by kernel_rfl) ?_ (Or.inr ⟨?_, rfl⟩) (by assumption) ?_
          rotate_left 1
          · simp only [List.getElem?_toArray, List.getElem?_cons_zero, List.getElem?_cons_succ]; rfl
          · exact fun _ _ _ h => h
          · rfl
          try simp only [Act.put, List.setIfInBounds_toArray, List.set_cons_zero, List.set_cons_succ]
          refine wpAnyH_take (i := 21) (oi := ?_) (v := undef) ?_ (by kernel_rfl) (by kernel_rfl) (by kernel_rfl) ?_ (Or.inr ⟨?_, rfl⟩) (by assumption) ?_
          rotate_left 1
          · simp only [List.getElem?_toArray, List.getElem?_cons_zero, List.getElem?_cons_succ]; rfl
          · exact fun _ _ _ h => h
          · rfl
          try simp only [Act.put, List.setIfInBounds_toArray, List.set_cons_zero, List.set_cons_succ]
          refine wpAnyH_take (i := 22) (oi := ?_) (v := undef) ?_ (by kernel_rfl) (by kernel_rfl) (by kernel_rfl) ?_ (Or.inr ⟨?_, rfl⟩) (by assumption) ?_
          rotate_left 1
          · simp only [List.getElem?_toArray, List.getElem?_cons_zero, List.getElem?_cons_succ]; rfl
          · exact fun _ _ _ h => h
          · rfl
          try simp only [Act.put, List.setIfInBounds_toArray, List.set_cons_zero, List.set_cons_succ]
          refine wpAnyH_take (i := 23) (oi := ?_) (v := ?_) ?_ (by kernel_rfl) (by kernel_rfl) (by kernel_rfl) ?_ (Or.inl ⟨?_, ?_⟩) (by assumption) ?_
          rotate_left 2
          · simp only [List.getElem?_toArray, List.getElem?_cons_zero, List.getElem?_cons_succ]; rfl
          · exact fun _ _ _ h => h
          · rfl
          · intro w' hSw; (try dsimp only at hSw); (first | (go_simp; done) | (go_simp; with_reducible rfl))
          try simp only [Act.put, List.setIfInBounds_toArray, List.set_cons_zero, List.set_cons_succ]
          refine wpAnyH_take (i := 24) (oi := ?_) (v := ?_) ?_ (by kernel_rfl) (by kernel_rfl) (by kernel_rfl) ?_ (Or.inl ⟨?_, ?_⟩) (by assumption) ?_
          rotate_left 2
          · simp only [List.getElem?_toArray, List.getElem?_cons_zero, List.getElem?_cons_succ]; rfl
          · exact fun _ _ _ h => h
          · rfl
          · intro w' hSw; (try dsimp only at hSw); (first | (go_simp; done) | (go_simp; with_reducible rfl))
          try simp only [Act.put, List.setIfInBounds_toArray, List.set_cons_zero, List.set_cons_succ]
          refine wpAnyH_take (i := 25) (oi := ?_) (v := ?_) ?_ (by kernel_rfl) (by kernel_rfl) (by kernel_rfl) ?_ (Or.inl ⟨?_, ?_⟩) (by assumption) ?_
          rotate_left 2
          · simp only [List.getElem?_toArray, List.getElem?_cons_zero, List.getElem?_cons_succ]; rfl
          · exact fun _ _ _ h => h
          · rfl
          · intro w' hSw; (try dsimp only at hSw); (first | (go_simp; done) | (go_simp; with_reducible rfl))
          try simp only [Act.put, List.setIfInBounds_toArray, List.set_cons_zero, List.set_cons_succ]
          refine wpAnyH_done (by kernel_rfl) ?_ _
          obtain ⟨g1, -, g3⟩ := G.out u1 H1.out
          obtain ⟨p0, p1, p2, p3, -⟩ := blk_row g1 hok
          rw [his] at p0
          rw [hrz.out.1] at p2
          have hm0 : m = 0 := hrz.out.2
          subst hm0
          have hz := cellZ_ok
          have HB1u := Lib.hid g3
          clear g1 g3 HF hHeld
          go_wp2_with fail
          exact ⟨⟨i + 1, by omega, by go_num, HB1u.out⟩, by simp [intOf]; omega⟩
      · have hiN : i = N := by omega
        subst hiN
        have HB := Lib.hid (F5.out wr hB).2.2.2.2.2.2
        clear hB
        go_wp2_with fail
        refine (lives13_any wr).mono ?_
        rintro e w9 ⟨rfl, hb9⟩
        have HF := Lib.hid (below_step HB.out hb9 HB.out.size)
        clear hb9
        go_wp2_with fail
        go_ret
        exact ⟨rfl, HF.out⟩
end Go.Proofs.Ytphbmnjkhgfnoaa
