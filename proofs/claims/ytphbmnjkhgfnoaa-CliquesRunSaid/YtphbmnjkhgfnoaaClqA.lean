/-
  CliquesRun, walked.
-/
import Derived.Test.YtphbmnjkhgfnoaaClq7
import Derived.Test.YtphbmnjkhgfnoaaMak
namespace Go.Proofs.Ytphbmnjkhgfnoaa
open Go.RowKit

/-! ### what stands in the vector -/
def rv0 (N : Nat) (i : Int) : List Hd := List.replicate N (hdAge i)
def rv1 (N i : Nat) : List Hd := (rv0 N i).set (i % N) (hdAge (i + 7))
def rv2 (N i : Nat) : List Hd := (rv1 N i).set ((i + 1) % N) ⟨false, (hdAge i).c⟩
theorem evenN_set {l : List Hd} {k : Nat} {x y : Hd} {c : Int} (hk : l[k]? = some y) : evenN (l.set k x) c + (if y.is && ageL y.c == c then 1 else 0) = evenN l c + (if x.is && ageL x.c == c then 1 else 0) := by
  unfold evenN
  induction l generalizing k with
  | nil => simp at hk
  | cons z l ih =>
    cases k with
    | zero =>
      simp at hk
      subst hk
      simp only [List.set_cons_zero, List.filter_cons]
      split <;> split <;> simp_all
    | succ k =>
      have := ih (k := k) (by simpa using hk)
      simp only [List.set_cons_succ, List.filter_cons]
      split
      · simp only [List.length_cons]; omega
      · exact this
theorem evenN_rep (N : Nat) (i : Int) : evenN (rv0 N i) i = N := by
  unfold evenN rv0
  rw [List.filter_replicate_of_pos (by simp [hdAge, ageL]), List.length_replicate]
theorem rv1_len (N i : Nat) : (rv1 N i).length = N := by simp [rv1, rv0]
theorem rv2_len (N i : Nat) : (rv2 N i).length = N := by simp [rv2, rv1_len]
theorem mod_ne {N i : Nat} (h : 4 ≤ N) : i % N ≠ (i + 1) % N := by
  have h1 : i % N < N := Nat.mod_lt _ (by omega)
  rw [Nat.add_mod, Nat.mod_eq_of_lt (show 1 < N by omega)]
  by_cases hlt : i % N + 1 < N
  · rw [Nat.mod_eq_of_lt hlt]; omega
  · rw [show i % N + 1 = N from by omega, Nat.mod_self]; omega
theorem evenN_rv1 (N i : Nat) (h : 4 ≤ N) : evenN (rv1 N i) i = N - 1 := by
  have hm : i % N < N := Nat.mod_lt _ (by omega)
  have := evenN_set (l := rv0 N i) (k := i % N) (x := hdAge (i + 7)) (y := hdAge i) (c := i) (by simp [rv0, hm])
  rw [evenN_rep] at this
  simp only [hdAge, ageL, Bool.true_and, beq_self_eq_true, if_true] at this
  rw [if_neg (by simp; omega)] at this
  show evenN ((rv0 N i).set (i % N) (hdAge (i + 7))) i = N - 1
  simp only [hdAge]
  omega
theorem rv1_at (N i : Nat) (h : 4 ≤ N) : (rv1 N i)[(i + 1) % N]? = some (hdAge i) := by
  have hm : (i + 1) % N < N := Nat.mod_lt _ (by omega)
  rw [rv1, List.getElem?_set_ne (mod_ne h)]
  simp [rv0, hm]
theorem evenN_rv2 (N i : Nat) (h : 4 ≤ N) : evenN (rv2 N i) i = N - 2 := by
  have := evenN_set (l := rv1 N i) (k := (i + 1) % N) (x := ⟨false, (hdAge i).c⟩) (y := hdAge i) (c := i) (rv1_at N i h)
  rw [evenN_rv1 N i h] at this
  simp only [Bool.false_and, Bool.false_eq_true, if_false] at this
  simp only [hdAge, ageL, Bool.true_and, beq_self_eq_true, if_true] at this
  show evenN ((rv1 N i).set ((i + 1) % N) ⟨false, .int .i64 (i : Int) :: cellR⟩) i = N - 2
  omega
theorem evenF_rv1 (N i : Nat) (h : 4 ≤ N) (h16 : N ≤ 16) (hi : i ≤ 1000) : evenF N (rv1 N i) i = true := by
  unfold evenF
  rw [Int.toNat_natCast, List.take_of_length_le (by rw [rv1_len]; exact Nat.le_refl _), evenN_rv1 N i h]
  simp; omega
theorem evenF_rv2 (N i : Nat) (h : 4 ≤ N) (h16 : N ≤ 16) (hi : i ≤ 1000) : evenF N (rv2 N i) i = false := by
  unfold evenF
  rw [Int.toNat_natCast, List.take_of_length_le (by rw [rv2_len]; exact Nat.le_refl _), evenN_rv2 N i h]
  simp; omega
theorem rv0_ok (N i : Nat) (hi : i ≤ 1000) : ∀ x ∈ rv0 N i, x.ok := fun x hx => by
  rw [List.eq_of_mem_replicate hx]
  exact hdAge_ok (by omega) (by omega)
theorem rv1_ok (N i : Nat) (hi : i ≤ 1000) : ∀ x ∈ rv1 N i, x.ok := ok_set (rv0_ok N i hi) _ (hdAge_ok (by omega) (by omega))
theorem rv2_ok (N i : Nat) (hi : i ≤ 1000) : ∀ x ∈ rv2 N i, x.ok := ok_set (rv1_ok N i hi) _ (hdAge_ok (n := i) (by omega) (by omega))

/-- one cell of a thing in a list -/
theorem flatH_cell {l : List Hd} (h : ∀ x ∈ l, x.ok) {k j : Nat} {x : Hd} (hk : l[k]? = some x) (hj : j < 56) (v : Value) {y : Hd} (hy : y.ok) (he : x.vals.set j v = y.vals) : (flatH l).set (k * 56 + j) v = flatH (l.set k y) := by
  have hkl : k < l.length := (List.getElem?_eq_some_iff.1 hk).1
  have hxl := Hd.vals_len (h x (List.mem_of_getElem? hk))
  have hyl := Hd.vals_len hy
  rw [← flatH_set h hkl y hy]
  apply List.ext_getElem?
  intro q
  have hfl := len_flatH h
  have hin : (k + 1) * 56 ≤ l.length * 56 := Nat.mul_le_mul_right _ (by omega)
  have hsl : (x.vals.set j v).length = 56 := by rw [List.length_set, hxl]
  rw [spl_get (by rw [hyl]; omega), ← he, hsl]
  by_cases h1 : q < k * 56
  · rw [if_pos h1, List.getElem?_set_ne (by omega)]
  · rw [if_neg h1]
    by_cases h2 : q < k * 56 + 56
    · rw [if_pos h2]
      by_cases h3 : k * 56 + j = q
      · rw [← h3, List.getElem?_set_self (by omega), show k * 56 + j - k * 56 = j from by omega, List.getElem?_set_self (by omega)]
      · rw [List.getElem?_set_ne h3, List.getElem?_set_ne (by omega)]
        have := flatH_at h hk (j := q - k * 56) (by omega)
        rw [show k * 56 + (q - k * 56) = q from by omega] at this
        exact this
    · rw [if_neg h2, List.getElem?_set_ne (by omega)]

set_option maxRecDepth 100000 in
theorem crun_long (m : Int) (a : Option Addr) (len cap : Nat) (w : World) (h : 200 < len) (hm : len ≤ maxLen) :
    Calls Try.prog 7 #[.int .u8 m, .slice a len cap] w (CPost w) := by
  unfold maxLen at hm
  go_enter Try.func7, Try.ntmps7
  go_wp2_with fail
  refine (clives_any _).mono ?_
  rintro e w' ⟨rfl, hl⟩
  have HL := Lib.hid hl
  clear hl
  go_wp2
  go_ret
  exact ⟨rfl, HL.out⟩

def RunC (W : World) (N : Nat) (bs : List Bool) (wr : World) : Prop :=
  Blk wr W.heap.size 83 (cqCells (min (runT bs) (2 * N) : Nat) (2 * N : Nat) N) ∧ Below W.heap.size W wr

theorem crun_step (W : World) (N : Nat) (h4 : 4 ≤ N) (h16 : N ≤ 16) (bs : List Bool) (g cap : Nat) (c : Int) (l : List Hd) (wr : World) (h : RunC W N bs wr)
    (hb : Blk wr g 60 (flatH l).toArray) (hl : ∀ x ∈ l, x.ok) (hlen : l.length = N) (hmc : N ≤ cap) (hcm : cap ≤ maxLen) (ev : Bool) (hev : evenF N l c = ev) :
    Calls Try.prog 32 #[.pointer (some ⟨W.heap.size, 0, none⟩), .slice (some ⟨g, 0, none⟩) N cap, .int .i64 c] wr fun e w1 => e = .returned (.bool (decide (2 * N ≤ runT (bs ++ [ev])))) ∧ RunC W N (bs ++ [ev]) w1 := by
  obtain ⟨hb1, hB⟩ := h
  have hr := RdHs.of_blk (r := []) (by simpa using hb) hl
  rw [hlen] at hr
  refine (cqstep_any _ _ _ (2 * N : Nat) N c _ N cap l wr hb1 (by omega) (by omega) (by omega) (by omega) (by omega) (by omega) hr hmc hcm).mono ?_
  rintro e w1 ⟨rfl, hb1', hc1⟩
  rw [hev] at hb1' ⊢
  rw [cqOn_run bs _ (2 * N) (by omega)] at hb1'
  refine ⟨?_, hb1', hB.trans (hc1.below hB.size fun k hk => by omega)⟩
  rw [cqOn_sure bs _ (2 * N) (by omega), allEven_iff]

/-- whether tick by tick it was even -/
def evs (cs : List Bool) : List Bool := cs.map (!·)
def runE (cs : List Bool) : Nat := runT (evs cs)

set_option maxRecDepth 100000 in
set_option maxHeartbeats 2000000 in
theorem crun_ok (N : Nat) (h4 : 4 ≤ N) (h16 : N ≤ 16) (m : Int) (hm0 : 0 ≤ m) (hm1 : m ≤ 255) (hmN : 4 + m % 13 = N) (a : Option Addr) (len cap : Nat) (cs : List Bool) (w : World) (h : len ≤ 200) (hrd : Rd1 w a len (cs.map Value.bool)) :
    Calls Try.prog 7 #[.int .u8 m, .slice a len cap] w (CPost w) := by
  have HR := Lib.hid hrd
  clear hrd
  have hb0 : 0 ≤ m % 13 := by omega
  have hb1 : m % 13 < 13 := by omega
  have hN := hmN
  have hNm : N ≤ 1048576 := by omega
  go_enter Try.func7, Try.ntmps7
  go_wp2_with fail
  refine (cqnew_ok N _ (by omega) (by omega)).mono ?_
  rintro e w' ⟨rfl, rfl⟩
  have hst : RunC w N [] (w.alloc (.cells (cqCells 0 (2 * N) N) 83)) := by
    refine ⟨?_, (Below.refl _ _).alloc (Nat.le_refl _) _⟩
    have : ((min (runT []) (2 * N) : Nat) : Int) = 0 := by simp [runT]
    rw [this]
    exact Blk.new _ _ _
  have HS := Lib.hid hst
  clear hst hmN hN
  go_wp2_with fail
  go_loopw [8, 9] (fun r i wr => ∃ k : Nat, k ≤ len ∧ i = .int .i64 k ∧ r = .int .i64 (runE (cs.take k)) ∧ runE (cs.take k) ≤ k ∧ RunC w N (evs (cs.take k)) wr) (fun _ i _ => len - (intOf i).toNat)
  case atStart => exact ⟨0, by omega, rfl, rfl, Nat.le_refl _, HS.out⟩
  case round =>
    obtain ⟨k, hk, rfl, rfl, hrk, hr⟩ := hrel
    by_cases hlt : k < len
    · have hv : cs[k]? = some (cs[k]'(by have := HR.out.1; simp at this; omega)) := List.getElem?_eq_getElem _
      generalize cs[k]'(by have := HR.out.1; simp at this; omega) = q at hv
      obtain ⟨b, off, rfl, hc⟩ := HR.out.2 k (.bool q) (by rw [List.getElem?_map, hv]; rfl)
      have hbw := World.block_lt_of_cell? w _ hc
      have hB := hr.2.size
      have hcr : wr.cell? ⟨b, off + k, none⟩ = some (.bool q) := (hr.2.cell (p := ⟨b, off + k, none⟩) hbw).trans hc
      have hts : evs (cs.take (k + 1)) = evs (cs.take k) ++ [!q] := by rw [List.take_add_one, hv]; simp [evs]
      have hrs : runE (cs.take (k + 1)) = if q then 0 else runE (cs.take k) + 1 := by
        unfold runE; rw [hts, runT_snoc]; cases q <;> rfl
      have HH := Lib.hid (And.intro hr (And.intro hts (And.intro hrs hv)))
      clear hc hr hts hrs hv
      obtain ⟨wo, rfl⟩ : ∃ wo : World, wo = wr := ⟨_, rfl⟩
      go_wp2_with fail
      have hst : Blk (wo.alloc (.cells (zrep heldZ N).toArray 60)) wo.heap.size 60 (flatH (rv0 0 k ++ List.replicate (N - 0) hd0)).toArray := by
        rw [Nat.sub_zero, flatH_append, ← flatH_rep]
        exact Blk.new _ _ _
      have HST := Lib.hid (And.intro hst ((Below.refl _ wo).alloc (Nat.le_refl _) (.cells (zrep heldZ N).toArray 60)))
      clear hst
      go_loopw [11] (fun i wi => ∃ j : Nat, j ≤ N ∧ i = .int .i64 j ∧ Blk wi wo.heap.size 60 (flatH (rv0 j k ++ List.replicate (N - j) hd0)).toArray ∧ Below wo.heap.size wo wi) (fun i _ => N - (intOf i).toNat)
      case atStart => exact ⟨0, by omega, rfl, HST.out.1, HST.out.2⟩
      case round =>
        obtain ⟨j, hj, rfl, hb, hbl⟩ := hrel
        have hok : ∀ x ∈ rv0 j k ++ List.replicate (N - j) hd0, x.ok := fun x hx => by
          rcases List.mem_append.1 hx with hx | hx
          · exact rv0_ok j k (by omega) x hx
          · rw [List.eq_of_mem_replicate hx]; exact hd0_ok
        have hfl := len_flatH hok
        have hll : (rv0 j k ++ List.replicate (N - j) hd0).length = N := by simp [rv0]; omega
        rw [hll] at hfl
        by_cases hlt2 : j < N
        · have hp : canPut wr ⟨wo.heap.size, j * 56, none⟩ 56 = true := by
            rw [hb.rules.2.2.2.2]; simp; omega
          have hset := flatH_set hok (k := j) (by omega) (hdAge k) (hdAge_ok (by omega) (by omega))
          have hls : (rv0 j k ++ List.replicate (N - j) hd0).set j (hdAge k) = rv0 (j + 1) k ++ List.replicate (N - (j + 1)) hd0 := by
            apply List.ext_getElem?
            intro q
            have e1 : (rv0 j k).length = j := by simp [rv0]
            have e2 : (rv0 (j + 1) k).length = j + 1 := by simp [rv0]
            rw [List.getElem?_set, hll]
            by_cases h1 : j = q
            · subst h1
              rw [if_pos rfl, if_pos hlt2, List.getElem?_append_left (by omega)]
              simp [rv0]
            · rw [if_neg h1]
              by_cases h2 : q < j
              · rw [List.getElem?_append_left (by omega), List.getElem?_append_left (by omega)]
                simp [rv0, h2, show q < j + 1 by omega]
              · rw [List.getElem?_append_right (by omega), List.getElem?_append_right (by omega), e1, e2]
                by_cases h3 : q < N
                · rw [List.getElem?_replicate, List.getElem?_replicate, if_pos (by omega), if_pos (by omega)]
                · rw [List.getElem?_replicate, List.getElem?_replicate, if_neg (by omega), if_neg (by omega)]
          have hcc := cellR_cell1
          have hlr := len_cellR
          have hnew := (hb.put (j * 56) (hdAge k).vals)
          have hvl := Hd.vals_len (hdAge_ok (n := (k : Int)) (by omega) (by omega))
          rw [show (flatH (rv0 j k ++ List.replicate (N - j) hd0)).take (j * 56) ++ (hdAge k).vals ++ (flatH (rv0 j k ++ List.replicate (N - j) hd0)).drop (j * 56 + (hdAge k).vals.length) = flatH (rv0 (j + 1) k ++ List.replicate (N - (j + 1)) hd0) from by rw [← hls, ← hset]; rfl] at hnew
          have H := Lib.hid (And.intro hnew (Below.put hbl (p := ⟨wo.heap.size, j * 56, none⟩) (Nat.le_refl _) (hdAge k).vals))
          clear hb hbl hok hfl hll hset hls hnew hvl hcr
          go_wp2
          exact ⟨⟨j + 1, by omega, by go_num, H.out.1, H.out.2⟩, by simp [intOf]; omega⟩
        · have hjN : N = j := by omega
          subst hjN
          have e0 : rv0 N k ++ List.replicate (N - N) hd0 = rv0 N k := by simp
          rw [e0] at hb
          clear e0 hok hfl hll hlt2
          obtain ⟨r1, hr1⟩ : ∃ r1, r1 = k % N := ⟨_, rfl⟩
          obtain ⟨r2, hr2⟩ : ∃ r2, r2 = (k + 1) % N := ⟨_, rfl⟩
          have hm1 : r1 < N := by rw [hr1]; exact Nat.mod_lt _ (by omega)
          have hm2 : r2 < N := by rw [hr2]; exact Nat.mod_lt _ (by omega)
          have ha : (rv0 N k)[r1]? = some (hdAge k) := by simp [rv0, hm1]
          have hokk : (hdAge (k + 7)).ok := hdAge_ok (by omega) (by omega)
          have hc1 : wr.cell? ⟨wo.heap.size, r1 * 56 + 1, none⟩ = some (.int .i64 k) := by
            rw [hb.cell]
            have := flatH_at (rv0_ok N k (by omega)) ha (j := 1) (by omega)
            simpa [Hd.vals, hdAge] using this
          have hfz : ∀ i, wr.frozen? ⟨wo.heap.size, i, none⟩ = false := hb.frozen
          have hb1 : Blk (wr.setCell ⟨wo.heap.size, r1 * 56 + 1, none⟩ (.int .i64 (k + 7))) wo.heap.size 60 (flatH (rv1 N k)).toArray := by
            have := hb.set_ (r1 * 56 + 1) (.int .i64 (k + 7))
            rw [List.setIfInBounds_toArray, flatH_cell (rv0_ok N k (by omega)) ha (by omega) (.int .i64 (k + 7)) hokk rfl, hr1] at this
            rw [hr1]
            exact this
          have hbl1 := hbl.setCell (p := ⟨wo.heap.size, r1 * 56 + 1, none⟩) (Nat.le_refl _) (.int .i64 (k + 7))
          have hmod1 : ((k : Int) % (N : Int)) = (r1 : Int) := by omega
          have hmod2 : (((k : Int) + 1) % (N : Int)) = (r2 : Int) := by
            obtain ⟨k1, hk1⟩ : ∃ k1, k1 = k + 1 := ⟨_, rfl⟩
            rw [← hk1] at hr2
            rw [show (k : Int) + 1 = (k1 : Int) from by omega]; omega
          have hcq : (wr.setCell ⟨wo.heap.size, r1 * 56 + 1, none⟩ (.int .i64 (k + 7))).cell? ⟨b, off + k, none⟩ = some (.bool q) := by
            exact (hbl1.cell (p := ⟨b, off + k, none⟩) (by show b < _; omega)).trans hcr
          have hat2 : (rv1 N k)[r2]? = some (hdAge k) := by rw [hr2]; exact rv1_at N k h4
          have hcs : (wr.setCell ⟨wo.heap.size, r1 * 56 + 1, none⟩ (.int .i64 (k + 7))).cell? ⟨wo.heap.size, r2 * 56, none⟩ = some (.bool true) := by
            rw [hb1.cell]
            have := flatH_at (rv1_ok N k (by omega)) hat2 (j := 0) (by omega)
            simpa [Hd.vals, hdAge] using this
          have hb2 : Blk ((wr.setCell ⟨wo.heap.size, r1 * 56 + 1, none⟩ (.int .i64 (k + 7))).setCell ⟨wo.heap.size, r2 * 56, none⟩ (.bool false)) wo.heap.size 60 (flatH (rv2 N k)).toArray := by
            have := hb1.set_ (r2 * 56) (.bool false)
            have hx := flatH_cell (rv1_ok N k (by omega)) hat2 (j := 0) (by omega) (.bool false) (y := ⟨false, (hdAge k).c⟩) (hdAge_ok (n := k) (by omega) (by omega)) rfl
            rw [Nat.add_zero] at hx
            rw [List.setIfInBounds_toArray, hx, hr2] at this
            rw [hr2]
            exact this
          have hbl2 := hbl1.setCell (p := ⟨wo.heap.size, r2 * 56, none⟩) (Nat.le_refl _) (.bool false)
          have run1 : ∀ w2, Below wo.heap.size wo w2 → RunC w N (evs (cs.take k)) w2 := fun w2 h2 => ⟨HH.out.1.1.below h2 HH.out.1.1.lt, HH.out.1.2.trans (h2.mono HH.out.1.2.size)⟩
          have ls1 := crun_step w N h4 h16 (evs (cs.take k)) wo.heap.size N k (rv1 N k) _ (run1 _ hbl1) hb1 (rv1_ok N k (by omega)) (rv1_len N k) (Nat.le_refl _) (by simp only [maxLen]; omega) true (evenF_rv1 N k h4 h16 (by omega))
          have ls2 := crun_step w N h4 h16 (evs (cs.take k)) wo.heap.size N k (rv2 N k) _ (run1 _ hbl2) hb2 (rv2_ok N k (by omega)) (rv2_len N k) (Nat.le_refl _) (by simp only [maxLen]; omega) false (evenF_rv2 N k h4 h16 (by omega))
          have hq1 : decide (2 * N ≤ runT (evs (cs.take k) ++ [true])) = decide (2 * (N : Int) ≤ (runE (cs.take k) : Int) + 1) := by
            rw [runT_snoc, if_pos rfl]; show decide (2 * N ≤ runE (cs.take k) + 1) = _; rw [decide_eq_decide]; omega
          have hq2 : decide (2 * N ≤ runT (evs (cs.take k) ++ [false])) = decide (2 * (N : Int) ≤ 0) := by
            rw [runT_snoc, if_neg (by simp), decide_eq_decide]; omega
          rw [hq1] at ls1
          rw [hq2] at ls2
          have hfz1 : ∀ i, (wr.setCell ⟨wo.heap.size, r1 * 56 + 1, none⟩ (.int .i64 (k + 7))).frozen? ⟨wo.heap.size, i, none⟩ = false := hb1.frozen
          have H1 := Lib.hid (And.intro ls1 ls2)
          clear hb1 hbl1 hb ha hokk hbl hr1 hr2 hat2 hb2 hbl2 run1 ls1 ls2 hq1 hq2
          cases q with
          | false =>
            go_wp2_with fail
            refine H1.out.1.mono ?_
            rintro e w3 ⟨rfl, hr3⟩
            have H3 := Lib.hid hr3
            clear hr3
            go_wp2
            exact ⟨⟨k + 1, by omega, by go_num, by rw [HH.out.2.2.1]; simp, by rw [HH.out.2.2.1]; simp; omega, by rw [HH.out.2.1]; exact H3.out⟩, by simp [intOf]; omega⟩
          | true =>
            go_wp2_with fail
            refine H1.out.2.mono ?_
            rintro e w3 ⟨rfl, hr3⟩
            have H3 := Lib.hid hr3
            clear hr3
            go_wp2
            exact ⟨⟨k + 1, by omega, by go_num, by rw [HH.out.2.2.1]; simp, by rw [HH.out.2.2.1]; simp, by rw [HH.out.2.1]; exact H3.out⟩, by simp [intOf]; omega⟩
    · have hkl : k = len := by omega
      subst hkl
      have HB := Lib.hid hr.2
      clear hr
      go_wp2_with fail
      refine (clives_any _).mono ?_
      rintro e w' ⟨rfl, hl⟩
      have HL := Lib.hid hl
      clear hl
      go_wp2
      go_ret
      exact ⟨rfl, HB.out.trans (HL.out.mono HB.out.size)⟩

theorem crun_any (m : Int) (hm0 : 0 ≤ m) (hm1 : m ≤ 255) (a : Option Addr) (len cap : Nat) (vs : List Value) (w : World) (hm : len ≤ maxLen) (hrd : Rd1 w a len vs) (hbs : ∀ v ∈ vs, ∃ b, v = .bool b) :
    Calls Try.prog 7 #[.int .u8 m, .slice a len cap] w (CPost w) := by
  by_cases h : 200 < len
  · exact crun_long m a len cap w h hm
  · obtain ⟨cs, rfl⟩ : ∃ cs : List Bool, vs = cs.map Value.bool := by
      clear hrd h
      induction vs with
      | nil => exact ⟨[], rfl⟩
      | cons v vs ih =>
        obtain ⟨cs, hcs⟩ := ih (fun u hu => hbs u (by simp [hu]))
        obtain ⟨b, hb⟩ := hbs v (by simp)
        exact ⟨b :: cs, by rw [hb, hcs]; rfl⟩
    exact crun_ok (4 + m % 13).toNat (by omega) (by omega) m hm0 hm1 (by omega) a len cap cs w (by omega) hrd
end Go.Proofs.Ytphbmnjkhgfnoaa
