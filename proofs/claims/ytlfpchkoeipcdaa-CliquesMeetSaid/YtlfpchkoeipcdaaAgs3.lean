/-
  ages.each, ages.Common.
-/
import Derived.Test.YtlfpchkoeipcdaaAgs2
import Derived.Test.YtlfpchkoeipcdaaSrt
import Derived.Lib.OwnBridge
import Derived.Sort.Grow
import Derived.Sort.OwnSortedInts
namespace Go.Proofs.Ytlfpchkoeipcdaa
open Go.RowKit Go.Sort
set_option linter.unusedVariables false
set_option linter.unusedSimpArgs false

set_option maxRecDepth 100000 in
set_option maxHeartbeats 1000000 in
theorem each_any (S : Nat → Prop) (W : World) (g : Nat) (xs : List Int) (a : Option Addr) (len cap : Nat) (L : List Hd) (w : World) (hrd : RdHs S W a len L) (hv : AgV W g xs w) (hx : xs.length + len ≤ 1000) :
    Calls Try.prog 24 #[.slice a len cap, .func (.func 25) #[.pointer (some ⟨g, 0, none⟩)] #[]] w fun e w' => e = .returned (.tuple #[]) ∧ AgV W g (xs ++ agesOf L) w' := by
  have HR := Lib.hid hrd
  have HV := Lib.hid hv
  clear hrd hv
  go_enter Try.func24, Try.ntmps24
  go_wp2_with fail
  go_loopw [8] (fun i wr => ∃ k : Nat, k ≤ len ∧ i = .int .i64 k ∧ AgV W g (xs ++ agesOf (L.take k)) wr) (fun i _ => len - (intOf i).toNat)
  case atStart => exact ⟨0, by omega, rfl, by simpa [agesOf] using HV.out⟩
  case round =>
    obtain ⟨k, hk, rfl, hr⟩ := hrel
    by_cases hlt : k < len
    · obtain ⟨b, off, is, n, r, rfl, hS, hbw, hlk, hok, hlr, hlc1, h1, h2, h3, h4, h5, h6, h7, h8⟩ := HR.out.at_ k hlt
      obtain ⟨v, q1, q2, q3, q4⟩ := id hr
      have r1 := row_below q3 (p := ⟨b, off + k * 56, none⟩) hbw 56
      have g1 : hasRow wr ⟨b, off + k * 56, none⟩ 56 = true := r1.1.trans h1
      have g2 : rowOf wr ⟨b, off + k * 56, none⟩ 56 = Hd.vals ⟨is, .int .i64 n :: r⟩ := r1.2.trans h2
      have hvl := Hd.vals_len (h := ⟨is, .int .i64 n :: r⟩) hok
      have hvc := hd_cell1 (h := ⟨is, .int .i64 n :: r⟩) hok
      have hal : (xs ++ agesOf (L.take k)).length ≤ 1000 := by
        have := agesOf_len (L.take k)
        rw [List.length_take] at this
        rw [List.length_append]; omega
      have HC := Lib.hid (add_any W g (xs ++ agesOf (L.take k)) ⟨is, .int .i64 n :: r⟩ hok (wr.alloc (.cells (Hd.vals ⟨is, .int .i64 n :: r⟩).toArray 46)) (hr.below ((Below.refl _ _).alloc (Nat.le_refl _) _)) hal)
      have HK := Lib.hid (agesOf_succ hlk)
      have hvt := List.take_of_length_le (Nat.le_of_eq hvl)
      clear r1 h1 h2 h3 h4 h5 h6 hr q1 q2 q3 q4 hlk hlr hlc1 hal
      generalize Hd.vals ⟨is, .int .i64 n :: r⟩ = y at *
      go_wp2_with fail
      refine HC.out.mono ?_
      rintro e w3 ⟨rfl, hv3⟩
      have H3 := Lib.hid hv3
      clear hv3 HC
      go_wp2_with fail
      refine ⟨⟨k + 1, by omega, by go_num, ?_⟩, by simp [intOf]; omega⟩
      rw [HK.out, ← List.append_assoc]
      exact H3.out
    · have hkl : k = len := by omega
      subst hkl
      have H := Lib.hid hr
      clear hr
      go_wp2_with fail
      go_end0
      have h1 := H.out
      rw [List.take_of_length_le (by rw [HR.out.1]; omega)] at h1
      exact ⟨rfl, h1⟩

set_option maxRecDepth 100000 in
set_option maxHeartbeats 1000000 in
theorem common_in (S : Nat → Prop) (n : Int) (hn : 4 ≤ n ∧ n ≤ 16) (a : Option Addr) (len cap : Nat) (L : List Hd) (w : World) (hrd : RdHs S w a len L) (hm1 : len ≤ cap) (hm2 : cap ≤ maxLen) :
    Calls Try.prog 12 #[.int .i64 n, .slice a len cap] w fun e w' => e = .returned (.int .i64 (commonF n L)) ∧ Below w.heap.size w w' := by
  obtain ⟨h4, h16⟩ := hn
  have e1 : (decide (4 ≤ n) && decide (n ≤ 16)) = true := by simp [h4, h16]
  obtain ⟨M, hM⟩ : ∃ M : Nat, M = min n.toNat len := ⟨_, rfl⟩
  have hMe : (min n (len : Int)).toNat = M := by omega
  have hMl : M ≤ len := by omega
  have hM16 : M ≤ 16 := by omega
  have htk : L.take n.toNat = L.take M := by
    rw [hM]
    rcases Nat.le_total n.toNat len with h | h
    · rw [Nat.min_eq_left h]
    · rw [Nat.min_eq_right h, List.take_of_length_le (by rw [hrd.1]; exact h), List.take_of_length_le (by rw [hrd.1]; exact Nat.le_refl _)]
  have hcF : commonF n L = if ((agesOf (L.take M)).length : Int) < n - 1 then -1 else medI (agesOf (L.take M)) := by
    unfold commonF
    rw [if_pos ⟨h4, h16⟩, htk]
  have hlen := agesOf_len (L.take M)
  rw [List.length_take] at hlen
  have hR := rdHs_take hrd hMl
  have hall : ∀ x ∈ agesOf (L.take M), 0 ≤ x ∧ x ≤ 1099511627776 := fun x hx => agesOf_ok hx
  have HE := Lib.hid (each_any S w w.heap.size [] a M cap (L.take M) (w.alloc (.cells #[.slice none 0 0] 80)) hR (AgV.start w) (by simp; omega))
  rw [List.nil_append] at HE
  generalize agesOf (L.take M) = xs at hcF hlen hall HE
  rw [hcF]
  have HA := Lib.hid hall
  clear hcF hR hrd htk hM hall
  unfold maxLen at hm2
  by_cases hfew : (xs.length : Int) < n - 1
  · rw [if_pos hfew]
    go_enter Try.func12, Try.ntmps12
    go_wp2_with fail
    refine (agmay_any _ _).mono ?_
    rintro e w' ⟨rfl, rfl⟩
    go_wp2_with fail
    refine HE.out.mono ?_
    rintro e w2 ⟨rfl, v, q1, q2, q3, q4⟩
    have d0 : w2.cell? ⟨w.heap.size, 0, none⟩ = some v := q1.cell 0
    have HB := Lib.hid q3
    obtain ⟨va, vc, rfl⟩ := own_slice q2
    clear q1 q2 q3 q4 HE
    go_wp2_with fail
    go_ret
    exact ⟨rfl, HB.out⟩
  · rw [if_neg hfew]
    go_enter Try.func12, Try.ntmps12
    go_wp2_with fail
    refine (agmay_any _ _).mono ?_
    rintro e w' ⟨rfl, rfl⟩
    go_wp2_with fail
    refine HE.out.mono ?_
    rintro e w2 ⟨rfl, v, q1, q2, q3, q4⟩
    obtain ⟨g, cp, rfl, hbg, hgl, hncap, hcm, -, hH⟩ := Lib.holds_of_ownsRow q2 (own_nn q2 (by omega))
    have d0 : w2.cell? ⟨w.heap.size, 0, none⟩ = some (.slice (some ⟨g, 0, none⟩) xs.length cp) := q1.cell 0
    have hne := own_not q2 q1 (by decide)
    have hne : w.heap.size ≠ g := fun e => hne (by rw [e]; rfl)
    have HS := Lib.hid (sort_some g 0 cp xs w2 hH hgl (by omega))
    have HH := Lib.hid (And.intro q1 (And.intro q3 (And.intro hH (And.intro hbg (And.intro hgl hne)))))
    clear q1 q2 q3 q4 HE hH hbg hgl hne hcm
    go_wp2_with fail
    refine HS.out.mono ?_
    rintro e w3 ⟨rfl, nn, os, hw3⟩
    have hH3 : Holds (Value.int .i64) w3 g 0 (srt xs).toArray := by
      subst hw3
      exact holds_grow _ _ os g 0 _ (by simpa [putRow, mapBlock, Sort.ahead] using HH.out.2.2.2.2.1) (holds_putRow _ _ g 0 _ _ (holds_ahead _ w2 nn g 0 _ HH.out.2.2.1) (by simp [srt_len]))
    have hgr : w2.grownBy w3 (some g) := by subst hw3; exact grownBy_sortedI _
    have hB3 : Below w.heap.size w w3 := HH.out.2.1.grown hgr HH.out.2.1.size (fun j hj => by cases hj; exact HH.out.2.2.2.1)
    have hb3 : Blk w3 w.heap.size 80 #[.slice (some ⟨g, 0, none⟩) xs.length cp] := (hgr.block _ HH.out.1.lt (by simp; exact fun e => HH.out.2.2.2.2.2 e)).trans HH.out.1
    have d3 : w3.cell? ⟨w.heap.size, 0, none⟩ = some (.slice (some ⟨g, 0, none⟩) xs.length cp) := hb3.cell 0
    obtain ⟨I, hI⟩ : ∃ I : Nat, I = (xs.length - 1) / 2 := ⟨_, rfl⟩
    have hI1 : ((xs.length : Int) - 1) / 2 = (I : Int) := by omega
    have hI2 : I < xs.length := by omega
    have c3 : w3.cell? ⟨g, I, none⟩ = some (.int .i64 (medI xs)) := by
      have h1 := (hH3 I (by simp [srt_len]; exact hI2)).1
      rw [Nat.zero_add] at h1
      rw [h1, getElem!_pos _ I (by simp [srt_len]; exact hI2)]
      have h2 := medI_at (l := xs) (by omega)
      rw [← hI] at h2
      have h3 := (List.getElem?_eq_some_iff.1 h2).2
      simp [h3]
    have HF := Lib.hid (And.intro hB3 hI)
    clear hw3 HS hH3 hgr hB3 hb3 d0 hI
    go_wp2_with fail
    go_ret
    exact ⟨rfl, HF.out.1⟩
theorem common_any (S : Nat → Prop) (n : Int) (a : Option Addr) (len cap : Nat) (L : List Hd) (w : World) (hrd : RdHs S w a len L) (hm1 : len ≤ cap) (hm2 : cap ≤ maxLen) :
    Calls Try.prog 12 #[.int .i64 n, .slice a len cap] w fun e w' => e = .returned (.int .i64 (commonF n L)) ∧ Below w.heap.size w w' := by
  by_cases h : 4 ≤ n ∧ n ≤ 16
  · exact common_in S n h a len cap L w hrd hm1 hm2
  · have e1 : (decide (4 ≤ n) && decide (n ≤ 16)) = false := by simp; omega
    have e2 : commonF n L = -1 := by unfold commonF; rw [if_neg h]
    rw [e2]
    clear h
    go_enter Try.func12, Try.ntmps12
    go_wp2_with fail
    refine (agmay_any _ _).mono ?_
    rintro e w' ⟨rfl, rfl⟩
    go_wp2_with fail
    go_ret
    exact ⟨rfl, Below.refl _ _⟩
end Go.Proofs.Ytlfpchkoeipcdaa
