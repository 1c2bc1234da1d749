/-
  The reference's lane of chapter 14: what it certifies.
-/
import Derived.Test.YtopakilglnpinaaGc19
namespace Go.Proofs.Ytopakilglnpinaa
open Go.RowKit
set_option linter.unusedVariables false
set_option linter.unusedSimpArgs false

open Classical in
noncomputable def manyW (r : Rw) (l : List Rw) (m : Nat) : Nat := ((l.take m).filter fun x => decide (r.is = true ∧ r = x)).length
open Classical in
theorem manyW_step {r o : Rw} {l : List Rw} {m : Nat} (h : l[m]? = some o) : manyW r l (m + 1) = manyW r l m + if r.is = true ∧ r = o then 1 else 0 := by
  unfold manyW
  rw [List.take_add_one, h, Option.toList_some, List.filter_append, List.length_append]
  by_cases hc : r.is = true ∧ r = o
  · rw [if_pos hc, List.filter_cons, if_pos (by simpa using hc)]; rfl
  · rw [if_neg hc, List.filter_cons, if_neg (by simpa using hc)]; rfl
theorem manyW_le (r : Rw) (l : List Rw) (m : Nat) : manyW r l m ≤ m := by
  unfold manyW
  exact Nat.le_trans (List.length_filter_le _ _) (by rw [List.length_take]; omega)
open Classical in
theorem manyW_end {r : Rw} {l : List Rw} : 2 ≤ manyW r l l.length ↔ r.is = true ∧ 2 ≤ cntW r l := by
  unfold manyW cntW
  rw [List.take_length]
  by_cases hr : r.is = true
  · simp [hr]
  · have : ∀ x : Rw, ¬ (r.is = true ∧ r = x) := fun x hx => hr hx.1
    have e : (l.filter fun x => decide (r.is = true ∧ r = x)) = [] := List.filter_eq_nil_iff.2 fun x _ => by simp [hr]
    rw [e]
    exact ⟨fun h => absurd h (by simp), fun h => absurd h.1 hr⟩
open Classical in
noncomputable def fndK (l : List Rw) (k : Nat) : List Rw := (l.take k).filter fun r => decide (r.is = true ∧ 2 ≤ cntW r l)
theorem fndK_end (l : List Rw) : fndK l l.length = fndW l := by
  unfold fndK fndW
  rw [List.take_length]
open Classical in
theorem fndK_step {r : Rw} {l : List Rw} {k : Nat} (h : l[k]? = some r) : fndK l (k + 1) = fndK l k ++ if 2 ≤ manyW r l l.length then [r] else [] := by
  unfold fndK
  rw [List.take_add_one, h, Option.toList_some, List.filter_append]
  by_cases hc : 2 ≤ manyW r l l.length
  · rw [if_pos hc, List.filter_cons, if_pos (by simpa using manyW_end.1 hc)]; rfl
  · rw [if_neg hc, List.filter_cons, if_neg (by simpa using fun h1 h2 => hc (manyW_end.2 ⟨h1, h2⟩))]; rfl
theorem fndK_len (l : List Rw) (k : Nat) : (fndK l k).length ≤ k := by
  unfold fndK
  exact Nat.le_trans (List.length_filter_le _ _) (by rw [List.length_take]; omega)
theorem copies_len (M : RfM) (s t : Nat) : (M.copies s t).length ≤ 4 := by
  unfold RfM.copies
  rw [List.length_append, List.length_append, List.length_append]
  split <;> split <;> simp
/-- the end with no row -/
theorem rcert_none {D : Nat → Prop} {w wk : World} {rb : Nat} (hb : Below w.heap.size w wk) (hk : Blk wk rb 74 rowZ.toArray) (hrb : w.heap.size ≤ rb) :
    RRowA D w rw0 w (.returned (.agg rowZ.toArray)) (putRow wk ⟨rb, 0, none⟩ rowZ) ∧ hasRow (putRow wk ⟨rb, 0, none⟩ rowZ) ⟨rb, 0, none⟩ 57 = true ∧ rowOf (putRow wk ⟨rb, 0, none⟩ rowZ) ⟨rb, 0, none⟩ 57 = rowZ ∧ canPut wk ⟨rb, 0, none⟩ 57 = true := by
  have h := rtrack_end (D := D) (r := rw0) (tv := .slice none 0 0) hb hk hrb rw0_ok (rowR_nil _ _ _ rfl)
  rw [rw0_vals] at h
  exact h
set_option maxRecDepth 100000 in
set_option maxHeartbeats 1000000 in
theorem rcert_neg {D : Nat → Prop} {w : World} (lb : Nat) (s : Nat) {t : Int} (ht : t < 0) :
    Calls Try.prog 27 #[.pointer (some ⟨lb, 0, none⟩), .int .i64 s, .int .i64 t] w (RRowA D w rw0 w) := by
  have HB1 : Hid (Below w.heap.size w (w.alloc (.cells rowZ.toArray 74))) := Lib.hid ((Below.refl _ _).alloc (Nat.le_refl _) _)
  have HKR : Hid (Blk (w.alloc (.cells rowZ.toArray 74)) w.heap.size 74 rowZ.toArray) := Lib.hid (Blk.new _ _ _)
  go_enter Try.func27, Try.ntmps27
  go_upto_region 1 with fail
  obtain ⟨e1, e2, e3, e4⟩ := rcert_none (D := D) HB1.out HKR.out (Nat.le_refl _)
  generalize w.alloc (.cells rowZ.toArray 74) = w1 at HB1 HKR e1 e2 e3 e4 ⊢
  obtain ⟨rv, hrv⟩ : ∃ rv, rv = rowZ := ⟨_, rfl⟩
  have HEND : Hid (RRowA D w rw0 w (.returned (.agg rv.toArray)) (putRow w1 ⟨w.heap.size, 0, none⟩ rv) ∧ hasRow (putRow w1 ⟨w.heap.size, 0, none⟩ rv) ⟨w.heap.size, 0, none⟩ 57 = true ∧ rowOf (putRow w1 ⟨w.heap.size, 0, none⟩ rv) ⟨w.heap.size, 0, none⟩ 57 = rv) := Lib.hid ⟨by rw [hrv]; exact e1, by rw [hrv]; exact e2, by rw [hrv]; exact e3⟩
  clear e1 e2 e3
  go_wp2_with fail
  rw [show rowZ = rv from hrv.symm]
  try simp only [Exit.inBlock, Exit.then]
  first | refine bodyPost_ret (ret_row (n := 57) rfl (by kernel_rfl) _ _ _ rfl ?_) rfl ?_ | refine bodyPost_end (ret_row (n := 57) rfl (by kernel_rfl) _ _ _ rfl ?_) rfl ?_
  · exact HEND.out.2.1
  · rw [HEND.out.2.2]; exact HEND.out.1
open Classical in
set_option maxRecDepth 100000 in
set_option maxHeartbeats 8000000 in
theorem rcert_any {D : Nat → Prop} {w : World} {lb : Nat} {M : RfM} {ao : Option Addr} {co gc cc : Nat} (h : RfRd D w lb M ao co gc cc) {s t : Nat} (hs : s < M.n) (ht : t + M.n < M.T) :
    Calls Try.prog 27 #[.pointer (some ⟨lb, 0, none⟩), .int .i64 s, .int .i64 t] w (RRowA D w (M.cert s t) w) := by
  obtain ⟨l1, l2, l3, l4, l5, l6, l7, l8⟩ := h.le
  have HR := Lib.hid h
  have ht0 : ¬ (t : Int) < 0 := by omega
  have ht1 : (0 : Int) ≤ t := by omega
  have ht2 : (t : Int) < M.T := by omega
  have HB1 : Hid (Below w.heap.size w (w.alloc (.cells rowZ.toArray 74))) := Lib.hid ((Below.refl _ _).alloc (Nat.le_refl _) _)
  have HKR : Hid (Blk (w.alloc (.cells rowZ.toArray 74)) w.heap.size 74 rowZ.toArray) := Lib.hid (Blk.new _ _ _)
  obtain ⟨cl, hcl⟩ : ∃ cl, cl = M.cert s t := ⟨_, rfl⟩
  rw [← hcl]
  have HCL := Lib.hid hcl
  clear hcl h
  go_enter Try.func27, Try.ntmps27
  go_upto_region 1 with fail
  generalize w.alloc (.cells rowZ.toArray 74) = w1 at HB1 HKR ⊢
  obtain ⟨rb, hrb⟩ : ∃ rb, rb = w.heap.size := ⟨_, rfl⟩
  rw [← hrb] at HKR ⊢
  have HRB := Lib.hid hrb
  have H1 := Lib.hid (HR.out.low.below HB1.out)
  have hme := H1.out.me
  have c3 := H1.out.owns
  have hlb : lb < rb := by have := HR.out.lt.1; omega
  clear hrb
  by_cases hsm : s = M.me
  · have hsm1 : ((s : Int) == M.me) = true := by simp; omega
    obtain ⟨b, off, r, tv, rfl, hbl, hv, hok, hvl, hvc, hr1, hr2, hrow⟩ := HR.out.rd.row_ (show t < M.T by omega)
    have hre : M.own t = r := by simpa [List.getElem?_range (show t < M.T by omega)] using hv
    obtain ⟨e1, e2, e3, e4⟩ := rtrack_end HB1.out HKR.out (by rw [HRB.out]; exact Nat.le_refl _) hok hrow
    have hl2 := row_below HB1.out (p := ⟨b, off + t * 57, none⟩) hbl 57
    have g1 := hl2.1.trans hr1
    have g2 := hl2.2.trans hr2
    obtain ⟨rv, hrv⟩ : ∃ rv, rv = r.vals tv := ⟨_, rfl⟩
    rw [← hrv] at e1 e2 e3 g2 hvl hvc
    have HEND : Hid (RRowA D w cl w (.returned (.agg rv.toArray)) (putRow w1 ⟨rb, 0, none⟩ rv) ∧ hasRow (putRow w1 ⟨rb, 0, none⟩ rv) ⟨rb, 0, none⟩ 57 = true ∧ rowOf (putRow w1 ⟨rb, 0, none⟩ rv) ⟨rb, 0, none⟩ 57 = rv) := Lib.hid ⟨by
      have : cl = r := by rw [HCL.out]; unfold RfM.cert; rw [if_pos hsm]; exact hre
      rw [this]; exact e1, e2, e3⟩
    clear e1 e2 e3 hl2 hrow hr1 hr2 hre hrv hv hok hsm
    go_wp2_with fail
    try simp only [Exit.inBlock, Exit.then]
    first | refine bodyPost_ret (ret_row (n := 57) rfl (by kernel_rfl) _ _ _ rfl ?_) rfl ?_ | refine bodyPost_end (ret_row (n := 57) rfl (by kernel_rfl) _ _ _ rfl ?_) rfl ?_
    · exact HEND.out.2.1
    · rw [HEND.out.2.2]; exact HEND.out.1
  have hsm1 : ((s : Int) == M.me) = false := by simp; omega
  have HSM := Lib.hid hsm
  clear hsm
  go_upto_region 5 with fail
  have HCP := Lib.hid (rcopies_any H1.out hs ht)
  go_upto_region 6 with ((with_reducible refine HCP.out.mono ?_); rintro e w5 ⟨ps, v, rfl, ho, hps⟩; have HP := Lib.hid ho; have HPS := Lib.hid hps; clear ho hps)
  clear HCP c3 hme
  obtain ⟨L, hL⟩ : ∃ L, L = M.copies s t := ⟨_, rfl⟩
  rw [← hL] at HPS
  have HLC := Lib.hid hL
  have hLl : L.length ≤ 4 := by rw [hL]; exact copies_len _ _ _
  have hL1 : 1 ≤ L.length := by rw [hL]; unfold RfM.copies; simp only [List.length_append, List.length_cons, List.length_nil]; omega
  have hpsl : ps.length = L.length := by rw [← HPS.out, List.length_map]
  clear hL
  obtain ⟨g, cap, -, -, hve, hcap, hcapm, hg1, hg2, -⟩ := HP.out.at_ (k := 0) (by omega)
  rw [hpsl] at hcap hve
  subst hve
  obtain ⟨ll, hll⟩ : ∃ ll, ll = L.length := ⟨_, rfl⟩
  rw [← hll] at HP hLl hL1 hpsl hcap ⊢
  have HLL := Lib.hid hll
  clear hll
  unfold maxLen at hcapm
  have hcm : cap ≤ maxLen := hcapm
  have H5 := Lib.hid (HP.out.bel)
  have FR : Hid (∀ k, k < ll → ∃ r tv, L[k]? = some r ∧ r.ok ∧ RowR (fun b => D b ∧ b < w.heap.size) w1 r tv ∧ (r.vals tv).length = 57 ∧ (r.vals tv).all cell1 = true ∧ ∀ w', Below w5.heap.size w5 w' → w'.cell? ⟨g, k * 57, none⟩ = some (.bool r.is) ∧ hasRow w' ⟨g, k * 57, none⟩ 57 = true ∧ rowOf w' ⟨g, k * 57, none⟩ 57 = r.vals tv) := Lib.hid fun k hk => by
    obtain ⟨g', cap', r, tv, hve, -, -, -, hg', hp, hok, hrow, hvl, hvc, h1, h2⟩ := HP.out.at_ (k := k) (by omega)
    cases hve
    refine ⟨r, tv, ?_, hok, hrow, hvl, hvc, fun w' hb => ?_⟩
    · rw [← HPS.out, List.getElem?_map, hp]; rfl
    · have hl2 := row_below hb (p := ⟨g, k * 57, none⟩) hg' 57
      have g1 := hl2.1.trans h1
      have g2 := hl2.2.trans h2
      refine ⟨?_, g1, g2⟩
      exact row_cell g1 g2 0 (by omega)
  have HSTART : Hid (RowsO w5 (fun b => D b ∧ b < w.heap.size) [] (.slice none 0 0) w5) := Lib.hid (RowsO.start _ _)
  go_wp2_with fail
  go_loopw [8, 9] (fun s8 s9 wr => ∃ (k : Nat) (fs : List (Rw × Value)), k ≤ ll ∧ s9 = .int .i64 k ∧ RowsO w5 (fun b => D b ∧ b < w.heap.size) fs s8 wr ∧ fs.map Prod.fst = fndK L k) (fun _ i _ => ll - (intOf i).toNat)
  case atStart => exact ⟨0, [], by omega, rfl, HSTART.out, by unfold fndK; simp⟩
  case round =>
    obtain ⟨k, fs, hk, rfl, ho, hfs⟩ := hrel
    obtain ⟨wq, rfl⟩ : ∃ wq, wq = wr := ⟨_, rfl⟩
    have HO := Lib.hid ho
    have HFS := Lib.hid hfs
    obtain ⟨v, rfl⟩ : ∃ v, v = u8 := ⟨_, rfl⟩
    clear ho hfs
    by_cases hkl : k < ll
    · have hkl1 : (k : Int) < ll := by omega
      obtain ⟨r, tv, hr, hok, hrow, hvl, hvc, FC0⟩ := FR.out k hkl
      have HF := Lib.hid (And.intro hr (And.intro hok hrow))
      obtain ⟨rv, hrv⟩ : ∃ rv, rv = r.vals tv := ⟨_, rfl⟩
      rw [← hrv] at hvl hvc FC0
      have FC := Lib.hid FC0
      have HRV := Lib.hid hrv
      clear FC0 hrv hr hok hrow
      go_upto_region 11 with fail
      have HRI : Hid (∃ rb', rb' = r.is) := Lib.hid ⟨_, rfl⟩
      obtain ⟨ri, hri⟩ := HRI.out
      rw [← hri] at FC
      have HRI2 := Lib.hid hri
      clear HRI hri
      go_wp2_with fail
      go_loopw [10, 11] (fun s10 s11 wr => ∃ m : Nat, m ≤ ll ∧ s10 = .int .i64 (manyW r L m) ∧ s11 = .int .i64 m ∧ Below wq.heap.size wq wr) (fun _ i _ => ll - (intOf i).toNat)
      case atStart => exact ⟨0, by omega, by unfold manyW; simp, rfl, Below.refl _ _⟩
      case round =>
        obtain ⟨m, hm, rfl, rfl, hb⟩ := hrel
        obtain ⟨wi, rfl⟩ : ∃ wi, wi = wr := ⟨_, rfl⟩
        have HI := Lib.hid hb
        clear hb
        have hmw : manyW r L m ≤ 4 := Nat.le_trans (manyW_le _ _ _) (by omega)
        have FB : Hid (∀ w', Below wi.heap.size wi w' → w'.cell? ⟨g, k * 57, none⟩ = some (.bool ri) ∧ hasRow w' ⟨g, k * 57, none⟩ 57 = true ∧ rowOf w' ⟨g, k * 57, none⟩ 57 = rv) := Lib.hid fun w' hb => FC.out w' (HO.out.bel.trans ((HI.out.trans (hb.mono HI.out.size)).mono HO.out.bel.size))
        by_cases hml : m < ll
        · have hml1 : (m : Int) < ll := by omega
          cases ri with
          | false =>
            have hri : r.is = false := HRI2.out.symm
            have HHI := Lib.hid (Below.refl wi.heap.size wi)
            obtain ⟨o, tvo, ho, -⟩ := FR.out m hml
            have HST : Hid (manyW r L (m + 1) = manyW r L m) := Lib.hid (by rw [manyW_step ho, if_neg (fun h => by rw [hri] at h; cases h.1)]; rfl)
            clear ho hri
            go_upto_region 14 with fail
            refine wp_region_held_drew (S := (fun w' => w'.cell? ⟨g, k * 57, none⟩ = some (.bool false))) (by kernel_rfl) ?_ (fun hHeld => ?_)
            · exact (FB.out _ HHI.out.drew).1
            refine wpAnyH_take (i := 0) (oi := ?_) (v := ?_) ?_ (by kernel_rfl) (by kernel_rfl) (by kernel_rfl) ?_ (Or.inl ⟨?_, ?_⟩) (by assumption) ?_
            rotate_left 2
            · simp only [List.getElem?_toArray, List.getElem?_cons_zero, List.getElem?_cons_succ]; rfl
            · exact fun _ _ _ h => h
            · rfl
            · intro w' hSw; (try dsimp only at hSw); (first | (go_simp; done) | (go_simp; with_reducible rfl))
            try simp only [Act.put, List.setIfInBounds_toArray, List.set_cons_zero, List.set_cons_succ]
            refine wpAnyH_take (i := 1) (oi := ?_) (v := ?_) ?_ (by kernel_rfl) (by kernel_rfl) (by kernel_rfl) ?_ (Or.inl ⟨?_, ?_⟩) (by assumption) ?_
            rotate_left 2
            · simp only [List.getElem?_toArray, List.getElem?_cons_zero, List.getElem?_cons_succ]; rfl
            · exact fun _ _ _ h => h
            · rfl
            · intro w' hSw; (try dsimp only at hSw); (first | (go_simp; done) | (go_simp; with_reducible rfl))
            try simp only [Act.put, List.setIfInBounds_toArray, List.set_cons_zero, List.set_cons_succ]
            refine wpAnyH_take (i := 2) (oi := ?_) (v := ?_) ?_ (by kernel_rfl) (by kernel_rfl) (by kernel_rfl) ?_ (Or.inl ⟨?_, ?_⟩) (by assumption) ?_
            rotate_left 2
            · simp only [List.getElem?_toArray, List.getElem?_cons_zero, List.getElem?_cons_succ]; rfl
            · exact fun _ _ _ h => h
            · rfl
            · intro w' hSw; (try dsimp only at hSw); (first | (go_simp; done) | (go_simp; with_reducible rfl))
            try simp only [Act.put, List.setIfInBounds_toArray, List.set_cons_zero, List.set_cons_succ]
            refine wpAnyH_take (i := 3) (oi := ?_) (v := ?_) ?_ (by kernel_rfl) (by kernel_rfl) (by kernel_rfl) ?_ (Or.inl ⟨?_, ?_⟩) (by assumption) ?_
            rotate_left 2
            · simp only [List.getElem?_toArray, List.getElem?_cons_zero, List.getElem?_cons_succ]; rfl
            · exact fun _ _ _ h => h
            · rfl
            · intro w' hSw; (try dsimp only at hSw); (first | (go_simp; done) | (go_simp; with_reducible rfl))
            try simp only [Act.put, List.setIfInBounds_toArray, List.set_cons_zero, List.set_cons_succ]
            refine wpAnyH_take (i := 4) (oi := ?_) (v := ?_) ?_ (by kernel_rfl) (by kernel_rfl) (by kernel_rfl) ?_ (Or.inl ⟨?_, ?_⟩) (by assumption) ?_
            rotate_left 2
            · simp only [List.getElem?_toArray, List.getElem?_cons_zero, List.getElem?_cons_succ]; rfl
            · exact fun _ _ _ h => h
            · rfl
            · intro w' hSw; (try dsimp only at hSw); (first | (go_simp; done) | (go_simp; with_reducible rfl))
            try simp only [Act.put, List.setIfInBounds_toArray, List.set_cons_zero, List.set_cons_succ]
            refine wpAnyH_take (i := 5) (oi := ?_) (v := ?_) ?_ (by kernel_rfl) (by kernel_rfl) (by kernel_rfl) ?_ (Or.inl ⟨?_, ?_⟩) (by assumption) ?_
            rotate_left 2
            · simp only [List.getElem?_toArray, List.getElem?_cons_zero, List.getElem?_cons_succ]; rfl
            · exact fun _ _ _ h => h
            · rfl
            · intro w' hSw; (try dsimp only at hSw); (first | (go_simp; done) | (go_simp; with_reducible rfl))
            try simp only [Act.put, List.setIfInBounds_toArray, List.set_cons_zero, List.set_cons_succ]
            refine wpAnyH_take (i := 6) (oi := ?_) (v := undef) ?_ (by kernel_rfl) (by kernel_rfl) (by kernel_rfl) ?_ (Or.inr ⟨?_, rfl⟩) (by assumption) ?_
            rotate_left 1
            · simp only [List.getElem?_toArray, List.getElem?_cons_zero, List.getElem?_cons_succ]; rfl
            · exact fun _ _ _ h => h
            · rfl
            try simp only [Act.put, List.setIfInBounds_toArray, List.set_cons_zero, List.set_cons_succ]
            refine wpAnyH_take (i := 7) (oi := ?_) (v := undef) ?_ (by kernel_rfl) (by kernel_rfl) (by kernel_rfl) ?_ (Or.inr ⟨?_, rfl⟩) (by assumption) ?_
            rotate_left 1
            · simp only [List.getElem?_toArray, List.getElem?_cons_zero, List.getElem?_cons_succ]; rfl
            · exact fun _ _ _ h => h
            · rfl
            try simp only [Act.put, List.setIfInBounds_toArray, List.set_cons_zero, List.set_cons_succ]
            refine wpAnyH_take (i := 8) (oi := ?_) (v := undef) ?_ (by kernel_rfl) (by kernel_rfl) (by kernel_rfl) ?_ (Or.inr ⟨?_, rfl⟩) (by assumption) ?_
            rotate_left 1
            · simp only [List.getElem?_toArray, List.getElem?_cons_zero, List.getElem?_cons_succ]; rfl
            · exact fun _ _ _ h => h
            · rfl
            try simp only [Act.put, List.setIfInBounds_toArray, List.set_cons_zero, List.set_cons_succ]
            refine wpAnyH_take (i := 9) (oi := ?_) (v := undef) ?_ (by kernel_rfl) (by kernel_rfl) (by kernel_rfl) ?_ (Or.inr ⟨?_, rfl⟩) (by assumption) ?_
            rotate_left 1
            · simp only [List.getElem?_toArray, List.getElem?_cons_zero, List.getElem?_cons_succ]; rfl
            · exact fun _ _ _ h => h
            · rfl
            try simp only [Act.put, List.setIfInBounds_toArray, List.set_cons_zero, List.set_cons_succ]
            refine wpAnyH_take (i := 10) (oi := ?_) (v := undef) ?_ (by kernel_rfl) (by kernel_rfl) (by kernel_rfl) ?_ (Or.inr ⟨?_, rfl⟩) (by assumption) ?_
            rotate_left 1
            · simp only [List.getElem?_toArray, List.getElem?_cons_zero, List.getElem?_cons_succ]; rfl
            · exact fun _ _ _ h => h
            · rfl
            try simp only [Act.put, List.setIfInBounds_toArray, List.set_cons_zero, List.set_cons_succ]
            refine wpAnyH_take (i := 11) (oi := ?_) (v := undef) ?_ (by kernel_rfl) (by kernel_rfl) (by kernel_rfl) ?_ (Or.inr ⟨?_, rfl⟩) (by assumption) ?_
            rotate_left 1
            · simp only [List.getElem?_toArray, List.getElem?_cons_zero, List.getElem?_cons_succ]; rfl
            · exact fun _ _ _ h => h
            · rfl
            try simp only [Act.put, List.setIfInBounds_toArray, List.set_cons_zero, List.set_cons_succ]
            refine wpAnyH_take (i := 12) (oi := ?_) (v := undef) ?_ (by kernel_rfl) (by kernel_rfl) (by kernel_rfl) ?_ (Or.inr ⟨?_, rfl⟩) (by assumption) ?_
            rotate_left 1
            · simp only [List.getElem?_toArray, List.getElem?_cons_zero, List.getElem?_cons_succ]; rfl
            · exact fun _ _ _ h => h
            · rfl
            try simp only [Act.put, List.setIfInBounds_toArray, List.set_cons_zero, List.set_cons_succ]
            refine wpAnyH_take (i := 13) (oi := ?_) (v := undef) ?_ (by kernel_rfl) (by kernel_rfl) (by kernel_rfl) ?_ (Or.inr ⟨?_, rfl⟩) (by assumption) ?_
            rotate_left 1
            · simp only [List.getElem?_toArray, List.getElem?_cons_zero, List.getElem?_cons_succ]; rfl
            · exact fun _ _ _ h => h
            · rfl
            try simp only [Act.put, List.setIfInBounds_toArray, List.set_cons_zero, List.set_cons_succ]
            refine wpAnyH_take (i := 14) (oi := ?_) (v := undef) ?_ (by kernel_rfl) (by kernel_rfl) (by kernel_rfl) ?_ (Or.inr ⟨?_, rfl⟩) (by assumption) ?_
            rotate_left 1
            · simp only [List.getElem?_toArray, List.getElem?_cons_zero, List.getElem?_cons_succ]; rfl
            · exact fun _ _ _ h => h
            · rfl
            try simp only [Act.put, List.setIfInBounds_toArray, List.set_cons_zero, List.set_cons_succ]
            refine wpAnyH_take (i := 15) (oi := ?_) (v := ?_) ?_ (by kernel_rfl) (by kernel_rfl) (by kernel_rfl) ?_ (Or.inl ⟨?_, ?_⟩) (by assumption) ?_
            rotate_left 2
            · simp only [List.getElem?_toArray, List.getElem?_cons_zero, List.getElem?_cons_succ]; rfl
            · exact fun _ _ _ h => h
            · rfl
            · intro w' hSw; (try dsimp only at hSw); (first | (go_simp; done) | (go_simp; with_reducible rfl))
            try simp only [Act.put, List.setIfInBounds_toArray, List.set_cons_zero, List.set_cons_succ]
            refine wpAnyH_done (by kernel_rfl) ?_ _
            have HI2 := Lib.hid (HI.out.trans (((Below.refl wi.heap.size wi).drew).mono HI.out.size))
            generalize wi.drew = w6 at HI2 ⊢
            go_wp2_with fail
            exact ⟨⟨m + 1, by omega, by rw [HST.out], by go_num, HI2.out⟩, by simp [intOf]; omega⟩
          | true =>
            have hri : r.is = true := HRI2.out.symm
            obtain ⟨o, tvo, ho, hok2, hrow2, hvl2, hvc2, FO0⟩ := FR.out m hml
            obtain ⟨q, hq⟩ : ∃ q, q = decide (r = o) := ⟨_, rfl⟩
            have HST : Hid (manyW r L (m + 1) = manyW r L m + if q = true then 1 else 0) := Lib.hid (by
              rw [manyW_step ho, hq]
              by_cases e : r = o
              · rw [if_pos ⟨hri, e⟩, if_pos (by simpa using e)]
              · rw [if_neg (fun h => e h.2), if_neg (by simpa using e)])
            obtain ⟨ov, hov⟩ : ∃ ov, ov = o.vals tvo := ⟨_, rfl⟩
            rw [← hov] at hvl2 hvc2 FO0
            have FG : Hid (∀ w', Below wi.heap.size wi w' → w'.cell? ⟨g, k * 57, none⟩ = some (.bool true) ∧ hasRow w' ⟨g, k * 57, none⟩ 57 = true ∧ rowOf w' ⟨g, k * 57, none⟩ 57 = rv ∧ hasRow w' ⟨g, m * 57, none⟩ 57 = true ∧ rowOf w' ⟨g, m * 57, none⟩ 57 = ov) := Lib.hid fun w' hb => by
              obtain ⟨f1, f2, f3⟩ := FB.out w' hb
              obtain ⟨-, f4, f5⟩ := FO0 w' (HO.out.bel.trans ((HI.out.trans (hb.mono HI.out.size)).mono HO.out.bel.size))
              exact ⟨f1, f2, f3, f4, f5⟩
            have HSA : Hid (∀ w', Below wi.heap.size wi w' → Calls Try.prog 29 #[.agg rv.toArray, .agg ov.toArray] w' fun e w'' => e = .returned (.bool q) ∧ Below w'.heap.size w' w'') := Lib.hid fun w' hb => by
              have hb1 := H5.out.trans ((HO.out.bel.trans ((HI.out.trans (hb.mono HI.out.size)).mono HO.out.bel.size)).mono H5.out.size)
              rw [hq, HRV.out, hov]
              exact rsame_any _ _ r o HF.out.2.1 hok2 tv tvo w' (HF.out.2.2.below hb1) (hrow2.below hb1)
            have FG0 := FB
            clear ho hok2 hrow2 hri FO0 hov hq FB
            go_upto_region 14 with fail
            go_region_held3 (fun w' => w'.cell? ⟨g, k * 57, none⟩ = some (.bool true) ∧ hasRow w' ⟨g, k * 57, none⟩ 57 = true ∧ rowOf w' ⟨g, k * 57, none⟩ 57 = rv ∧ hasRow w' ⟨g, m * 57, none⟩ 57 = true ∧ rowOf w' ⟨g, m * 57, none⟩ 57 = ov)
              (with_reducible (first | exact FG.out _ (Below.refl _ _).drew | exact FG.out _ HI3.out))
              ((first | ((with_reducible refine (HSA.out _ (Below.refl _ _).drew).mono ?_); rintro e w6 ⟨rfl, hb6⟩; have HI3 := Lib.hid ((Below.refl wi.heap.size wi).drew.trans hb6); clear hb6)))
            have HI2 := Lib.hid (HI.out.trans (HI3.out.mono HI.out.size))
            clear HI3 HSA FG FG0
            cases q with
            | false =>
              go_wp2_with fail
              exact ⟨⟨m + 1, by omega, by rw [HST.out]; rfl, by go_num, HI2.out⟩, by simp [intOf]; omega⟩
            | true =>
              go_wp2_with fail
              exact ⟨⟨m + 1, by omega, by rw [HST.out]; go_num, by go_num, HI2.out⟩, by simp [intOf]; omega⟩
        · have hml1 : ¬ (m : Int) < ll := by omega
          obtain rfl : m = ll := by omega
          obtain ⟨mw, hmwe⟩ : ∃ mw, mw = manyW r L m := ⟨_, rfl⟩
          rw [← hmwe] at hmw ⊢
          have HFE : Hid (fndK L (k + 1) = fndK L k ++ if 2 ≤ mw then [r] else []) := Lib.hid (by rw [hmwe, HLL.out]; exact fndK_step HF.out.1)
          clear hmwe
          have HO2 := Lib.hid (HO.out.below HI.out)
          obtain ⟨-, hx1, hx2⟩ := FB.out wi (Below.refl _ _)
          clear FB
          by_cases h2 : 2 ≤ mw
          · have h2a : (2 : Int) ≤ mw := by omega
            have HAP : Hid ((fun b => D b ∧ b < w.heap.size) = (fun b => D b ∧ b < w.heap.size) ∧ r.ok ∧ RowR (fun b => D b ∧ b < w.heap.size) w5 r tv) := Lib.hid ⟨rfl, HF.out.2.1, HF.out.2.2.below H5.out⟩
            have hfl : fs.length ≤ 4 := by rw [← List.length_map (f := Prod.fst), HFS.out]; exact Nat.le_trans (fndK_len _ _) (by omega)
            have hsz5 := HO2.out.bel.size
            go_wp2_with (at_builtin; refine wpList_lies app_rrow (by rfl) (.tmp 65) (.tmp 70) (by rfl) w5.heap.size _ _ _ (by rfl) (HO2.out.own.alloc _) ⟨wi.heap.size, 0, none⟩ 1 1 rv (by rfl) (by simp [hvl]) (hasRow_new wi _ _ 0 57 (by simp [hvl])) ((rowOf_new wi _ _ 0 57 (by simp [hvl])).trans (List.take_of_length_le (by simp [hvl]))) hvc (by omega) (by omega) (by simp; omega) ?_; intro gg1 cp1 w6 hown1 hgrow hlie; have HO4 := Lib.hid (HO2.out.push HAP.out.2 hgrow (by rw [← HRV.out]; exact hown1)); clear hown1 hgrow hlie)
            exact ⟨⟨k + 1, fs ++ [(r, tv)], by omega, by go_num, HO4.out, by rw [List.map_append, HFS.out, HFE.out, if_pos h2]; rfl⟩, by simp [intOf]; omega⟩
          · have h2a : ¬ (2 : Int) ≤ mw := by omega
            have h2b : decide ((2 : Int) ≤ mw) = false := by simp; omega
            go_wp2_with fail
            exact ⟨⟨k + 1, fs, by omega, by go_num, HO2.out, by rw [HFS.out, HFE.out, if_neg h2, List.append_nil]⟩, by simp [intOf]; omega⟩
    · have hkl1 : ¬ (k : Int) < ll := by omega
      obtain rfl : k = ll := by omega
      have HFW : Hid (fs.map Prod.fst = fndW L) := Lib.hid (by rw [HFS.out, HLL.out, fndK_end])
      have HCE : Hid (cl = certW L) := Lib.hid (by rw [HCL.out]; unfold RfM.cert; rw [if_neg HSM.out, HLC.out])
      clear FR HFS
      have HOB := Lib.hid HO.out.bel
      have HBW : Hid (Below w1.heap.size w1 wq) := Lib.hid (H5.out.trans (HO.out.bel.mono H5.out.size))
      have HEN : Hid (∀ w', Below w1.heap.size w1 w' → cl = rw0 → RRowA D w cl w (.returned (.agg rowZ.toArray)) (putRow w' ⟨rb, 0, none⟩ rowZ) ∧ hasRow (putRow w' ⟨rb, 0, none⟩ rowZ) ⟨rb, 0, none⟩ 57 = true ∧ rowOf (putRow w' ⟨rb, 0, none⟩ rowZ) ⟨rb, 0, none⟩ 57 = rowZ ∧ canPut w' ⟨rb, 0, none⟩ 57 = true) := Lib.hid fun w' hb he => by
        rw [he]
        exact rcert_none (HB1.out.trans (hb.mono HB1.out.size)) (HKR.out.below hb HKR.out.lt) (by rw [HRB.out]; exact Nat.le_refl _)
      cases fs with
      | nil =>
        obtain ⟨a, c, rfl⟩ : ∃ a c, v = .slice a 0 c := by
          rcases HO.out.own.2 with ⟨h0, -⟩ | ⟨g', cap', cur, h0, -⟩
          · exact ⟨_, _, h0⟩
          · exact ⟨_, _, h0⟩
        obtain ⟨e1, e2, e3, e4⟩ := HEN.out wq HBW.out (by
          rw [HCE.out]; unfold certW; rw [← HFW.out]; rfl)
        obtain ⟨rv, hrv⟩ : ∃ rv, rv = rowZ := ⟨_, rfl⟩
        have HEND : Hid (RRowA D w cl w (.returned (.agg rv.toArray)) (putRow wq ⟨rb, 0, none⟩ rv) ∧ hasRow (putRow wq ⟨rb, 0, none⟩ rv) ⟨rb, 0, none⟩ 57 = true ∧ rowOf (putRow wq ⟨rb, 0, none⟩ rv) ⟨rb, 0, none⟩ 57 = rv) := Lib.hid ⟨by rw [hrv]; exact e1, by rw [hrv]; exact e2, by rw [hrv]; exact e3⟩
        clear e1 e2 e3
        go_wp2_with fail
        go_loopw [12] (fun s12 wr => s12 = .int .i64 0 ∧ wr = wq) (fun i _ => 0)
        case atStart => exact ⟨rfl, rfl⟩
        case round =>
          obtain ⟨rfl, rfl⟩ := hrel
          go_wp2_with fail
          rw [show rowZ = rv from hrv.symm]
          try simp only [Exit.inBlock, Exit.then]
          first | refine bodyPost_ret (ret_row (n := 57) rfl (by kernel_rfl) _ _ _ rfl ?_) rfl ?_ | refine bodyPost_end (ret_row (n := 57) rfl (by kernel_rfl) _ _ _ rfl ?_) rfl ?_
          · exact HEND.out.2.1
          · rw [HEND.out.2.2]; exact HEND.out.1
      | cons p fs =>
        obtain ⟨x, tvx⟩ := p
        obtain ⟨n, hn⟩ : ∃ n, n = ((x, tvx) :: fs).length := ⟨_, rfl⟩
        have hn1 : 1 ≤ n := by rw [hn]; simp
        have hn4 : n ≤ 4 := by rw [hn, ← List.length_map (f := Prod.fst), HFW.out]; unfold fndW; exact Nat.le_trans (List.length_filter_le _ _) (by rw [← HLL.out]; omega)
        obtain ⟨g3, cap3, x', tvx', hve, hc3, hcm3, hg3, hg3w, hp, hokx, hrowx, hvlx, hvcx, -⟩ := HO.out.at_ (k := 0) (by rw [← hn]; omega)
        obtain ⟨rfl, rfl⟩ : x = x' ∧ tvx = tvx' := by simpa using hp
        rw [← hn] at hve hc3
        subst hve
        obtain ⟨xv, hxv⟩ : ∃ xv, xv = x.vals tvx := ⟨_, rfl⟩
        have FR : Hid (∀ j, j < n → ∃ r tv, (((x, tvx) :: fs).map Prod.fst)[j]? = some r ∧ r.ok ∧ RowR (fun b => D b ∧ b < w.heap.size) w5 r tv ∧ (r.vals tv).length = 57 ∧ (r.vals tv).all cell1 = true ∧ (j = 0 → r.vals tv = xv) ∧ ∀ w', Below wq.heap.size wq w' → hasRow w' ⟨g3, j * 57, none⟩ 57 = true ∧ rowOf w' ⟨g3, j * 57, none⟩ 57 = r.vals tv) := Lib.hid fun j hj => by
          obtain ⟨g', cap', r, tv, hve, -, -, -, hg', hp, hok, hrow, hvl, hvc, h1, h2⟩ := HO.out.at_ (k := j) (by rw [← hn]; exact hj)
          cases hve
          refine ⟨r, tv, by rw [List.getElem?_map, hp]; rfl, hok, hrow, hvl, hvc, fun h0 => ?_, fun w' hb => ?_⟩
          · subst h0
            obtain ⟨rfl, rfl⟩ : x = r ∧ tvx = tv := by simpa using hp
            exact hxv.symm
          · have hl2 := row_below hb (p := ⟨g3, j * 57, none⟩) hg' 57
            exact ⟨hl2.1.trans h1, hl2.2.trans h2⟩
        rw [← hxv] at hvlx hvcx
        have HX := Lib.hid (And.intro hxv (And.intro hokx hrowx))
        obtain ⟨FS, hFS⟩ : ∃ FS, FS = ((x, tvx) :: fs).map Prod.fst := ⟨_, rfl⟩
        have hFS0 : Hid (FS = x :: fs.map Prod.fst ∧ FS.length = n) := Lib.hid ⟨hFS, by rw [hFS, List.length_map, hn]⟩
        rw [← hFS] at FR HFW
        unfold maxLen at hcm3
        have F0 : Hid (∀ w', Below wq.heap.size wq w' → hasRow w' ⟨g3, 0, none⟩ 57 = true ∧ rowOf w' ⟨g3, 0, none⟩ 57 = xv) := Lib.hid fun w' hb => by
          obtain ⟨r, tv, -, -, -, -, -, h0, h1⟩ := FR.out 0 (by omega)
          have := h1 w' hb
          rw [Nat.zero_mul] at this
          exact ⟨this.1, this.2.trans (h0 rfl)⟩
        clear hn hp hxv hokx hrowx hFS HO
        go_wp2_with fail
        go_loopw [12] (fun s12 wr => ∃ i : Nat, i ≤ n ∧ s12 = .int .i64 i ∧ Below wq.heap.size wq wr ∧ ∀ j, j < i → FS[j]? = some x) (fun i _ => n - (intOf i).toNat)
        case atStart => exact ⟨0, by omega, rfl, Below.refl _ _, fun j hj => absurd hj (Nat.not_lt_zero _)⟩
        case round =>
          obtain ⟨i, hi, rfl, hb, hall⟩ := hrel
          obtain ⟨wi, rfl⟩ : ∃ wi, wi = wr := ⟨_, rfl⟩
          have HI := Lib.hid hb
          have HALL := Lib.hid hall
          clear hb hall
          by_cases hin : i < n
          · have hin1 : (i : Int) < n := by omega
            have hn01 : 0 < n := by omega
            obtain ⟨o, tvo, ho, hok2, hrow2, hvl2, hvc2, -, FO0⟩ := FR.out i hin
            obtain ⟨q, hq⟩ : ∃ q, q = decide (o = x) := ⟨_, rfl⟩
            obtain ⟨ov, hov⟩ : ∃ ov, ov = o.vals tvo := ⟨_, rfl⟩
            rw [← hov] at hvl2 hvc2 FO0
            have FG : Hid (∀ w', Below wi.heap.size wi w' → hasRow w' ⟨g3, i * 57, none⟩ 57 = true ∧ rowOf w' ⟨g3, i * 57, none⟩ 57 = ov ∧ hasRow w' ⟨g3, 0, none⟩ 57 = true ∧ rowOf w' ⟨g3, 0, none⟩ 57 = xv) := Lib.hid fun w' hb => by
              have hb2 := HI.out.trans (hb.mono HI.out.size)
              obtain ⟨f4, f5⟩ := FO0 w' hb2
              obtain ⟨f6, f7⟩ := F0.out w' hb2
              exact ⟨f4, f5, f6, f7⟩
            have HSA : Hid (∀ w', Below wi.heap.size wi w' → Calls Try.prog 29 #[.agg ov.toArray, .agg xv.toArray] w' fun e w'' => e = .returned (.bool q) ∧ Below w'.heap.size w' w'') := Lib.hid fun w' hb => by
              have hb0 := HOB.out.trans ((HI.out.trans (hb.mono HI.out.size)).mono HOB.out.size)
              rw [hq, HX.out.1, hov]
              exact rsame_any _ _ o x hok2 HX.out.2.1 tvo tvx w' (hrow2.below hb0) (HX.out.2.2.below hb0)
            have HQ := Lib.hid (And.intro hq ho)
            clear ho hok2 hrow2 FO0 hov hq
            go_upto_region 21 with fail
            go_region_held3 (fun w' => hasRow w' ⟨g3, i * 57, none⟩ 57 = true ∧ rowOf w' ⟨g3, i * 57, none⟩ 57 = ov ∧ hasRow w' ⟨g3, 0, none⟩ 57 = true ∧ rowOf w' ⟨g3, 0, none⟩ 57 = xv)
              (with_reducible (first | exact FG.out _ (Below.refl _ _).drew | exact FG.out _ HI3.out))
              ((first | ((with_reducible refine (HSA.out _ (Below.refl _ _).drew).mono ?_); rintro e w6 ⟨rfl, hb6⟩; have HI3 := Lib.hid ((Below.refl wi.heap.size wi).drew.trans hb6); clear hb6)))
            have HI2 := Lib.hid (HI.out.trans (HI3.out.mono HI.out.size))
            clear HI3 HSA FG
            cases q with
            | false =>
              have hq : ¬ o = x := by have := HQ.out.1; simpa using this
              obtain ⟨e1, e2, e3, e4⟩ := HEN.out w6 (HBW.out.trans (HI2.out.mono HBW.out.size)) (by
                rw [HCE.out]; unfold certW; rw [← HFW.out, hFS0.out.1]
                show (if _ then _ else _) = _
                rw [if_neg]
                intro hh
                exact hq (hh o (by rw [← hFS0.out.1]; exact List.mem_of_getElem? HQ.out.2)))
              obtain ⟨rv, hrv⟩ : ∃ rv, rv = rowZ := ⟨_, rfl⟩
              have HEND : Hid (RRowA D w cl w (.returned (.agg rv.toArray)) (putRow w6 ⟨rb, 0, none⟩ rv) ∧ hasRow (putRow w6 ⟨rb, 0, none⟩ rv) ⟨rb, 0, none⟩ 57 = true ∧ rowOf (putRow w6 ⟨rb, 0, none⟩ rv) ⟨rb, 0, none⟩ 57 = rv) := Lib.hid ⟨by rw [hrv]; exact e1, by rw [hrv]; exact e2, by rw [hrv]; exact e3⟩
              clear e1 e2 e3 hq
              go_wp2_with fail
              rw [show rowZ = rv from hrv.symm]
              try simp only [Exit.inBlock, Exit.then]
              first | refine bodyPost_ret (ret_row (n := 57) rfl (by kernel_rfl) _ _ _ rfl ?_) rfl ?_ | refine bodyPost_end (ret_row (n := 57) rfl (by kernel_rfl) _ _ _ rfl ?_) rfl ?_
              · exact HEND.out.2.1
              · rw [HEND.out.2.2]; exact HEND.out.1
            | true =>
              have HAL2 : Hid (∀ j, j < i + 1 → FS[j]? = some x) := Lib.hid fun j hj => by
                by_cases hji : j = i
                · rw [hji, HQ.out.2]
                  have : o = x := by have := HQ.out.1; simpa using this
                  rw [this]
                · exact HALL.out j (by omega)
              go_wp2_with fail
              exact ⟨⟨i + 1, by omega, by go_num, HI2.out, HAL2.out⟩, by simp [intOf]; omega⟩
          · have hin1 : ¬ (i : Int) < n := by omega
            obtain rfl : i = n := by omega
            have hn00 : (0 : Int) < i := by omega
            have hn0 : ((i : Int) == 0) = false := by simp; omega
            have hb0 : Below w1.heap.size w1 wi := HBW.out.trans (HI.out.mono HBW.out.size)
            have hrowx := HX.out.2.2.back (HB1.out.trans (H5.out.mono HB1.out.size))
            obtain ⟨e1, e2, e3, e4⟩ := rtrack_end (D := D) (HB1.out.trans (hb0.mono HB1.out.size)) (HKR.out.below hb0 HKR.out.lt) (by rw [HRB.out]; exact Nat.le_refl _) HX.out.2.1 hrowx
            obtain ⟨f1, f2⟩ := F0.out wi HI.out
            rw [← HX.out.1] at e1 e2 e3
            have hcx : cl = x := by
              rw [HCE.out]; unfold certW; rw [← HFW.out, hFS0.out.1]
              show (if _ then _ else _) = _
              rw [if_pos]
              intro r' hr'
              rw [← hFS0.out.1] at hr'
              obtain ⟨j, hj, hje⟩ := List.getElem_of_mem hr'
              have := HALL.out j (by rw [hFS0.out.2] at hj; exact hj)
              rw [List.getElem?_eq_getElem hj, hje] at this
              exact Option.some.inj this
            have HEND : Hid (RRowA D w cl w (.returned (.agg xv.toArray)) (putRow wi ⟨rb, 0, none⟩ xv) ∧ hasRow (putRow wi ⟨rb, 0, none⟩ xv) ⟨rb, 0, none⟩ 57 = true ∧ rowOf (putRow wi ⟨rb, 0, none⟩ xv) ⟨rb, 0, none⟩ 57 = xv) := Lib.hid ⟨by rw [hcx]; exact e1, e2, e3⟩
            clear e1 e2 e3 hrowx hb0 hcx
            go_wp2_with fail
            try simp only [Exit.inBlock, Exit.then]
            first | refine bodyPost_ret (ret_row (n := 57) rfl (by kernel_rfl) _ _ _ rfl ?_) rfl ?_ | refine bodyPost_end (ret_row (n := 57) rfl (by kernel_rfl) _ _ _ rfl ?_) rfl ?_
            · exact HEND.out.2.1
            · rw [HEND.out.2.2]; exact HEND.out.1

end Go.Proofs.Ytopakilglnpinaa
