/-
  slices.Sort at []int64's named type, laid off the shelf: its contract. ages.each, ages.Common. A node's tick, call by call; rows that are laid while other blocks turn. Start.Step: its state between two nodes.
-/
import Derived.Shelf.SortM.Plain
import Derived.Shelf.SortM.SortNone
import Derived.Ground.SlgmProg
import Derived.Test.YtbdklfcgcmdgaaaGb49
import Derived.Test.YtbdklfcgcmdgaaaProg
import Derived.Lib.OwnBridge
import Derived.Sort.Grow
import Derived.Sort.OwnSortedInts
import Derived.Test.YtbdklfcgcmdgaaaGb51
import Derived.Test.YtbdklfcgcmdgaaaGb43
import Derived.Test.YtbdklfcgcmdgaaaGb45
namespace Go.Proofs.Ytbdklfcgcmdgaaa
open Go.Shelf Go.Sort Go.RowKit
set_option linter.unusedVariables false
set_option linter.unusedSimpArgs false

def sortA_ren : Go.Shelf.Ren := ⟨fun | 5 => 95 | 8 => 104 | 7 => 103 | 19 => 114 | 20 => 115 | 10 => 105 | 11 => 106 | 12 => 107 | 13 => 108 | 14 => 109 | 15 => 110 | 16 => 111 | 17 => 112 | 18 => 113 | 30 => 116 | 31 => 117 | 32 => 118 | 33 => 119 | 34 => 120 | 35 => 121 | 40 => 122 | n => n, fun | 23 => 203 | 25 => 2 | 3 => 3 | 32 => 215 | 22 => 173 | 0 => 0 | 44 => 38 | 46 => 228 | 4 => 4 | 36 => 219 | 35 => 218 | 41 => 224 | 5 => 5 | 9 => 9 | 53 => 229 | 57 => 233 | 63 => 235 | 64 => 236 | n => n, fun | n => n⟩
theorem sortA : Go.Proofs.SlLaysM.n5 Try.prog sortA_ren := {
  mixed := by kernel_rfl,
  f5 := ⟨Try.f95.name, by decide, Try.func95.trans (congrArg some (by kernel_rfl))⟩,
  f7 := ⟨Try.f103.name, by decide, Try.func103.trans (congrArg some (by kernel_rfl))⟩,
  f8 := Try.func104.trans (congrArg some (by kernel_rfl)),
  f10 := ⟨Try.f105.name, by decide, Try.func105.trans (congrArg some (by kernel_rfl))⟩,
  f11 := ⟨Try.f106.name, by decide, Try.func106.trans (congrArg some (by kernel_rfl))⟩,
  f12 := ⟨Try.f107.name, by decide, Try.func107.trans (congrArg some (by kernel_rfl))⟩,
  f13 := ⟨Try.f108.name, by decide, Try.func108.trans (congrArg some (by kernel_rfl))⟩,
  f14 := ⟨Try.f109.name, by decide, Try.func109.trans (congrArg some (by kernel_rfl))⟩,
  f15 := ⟨Try.f110.name, by decide, Try.func110.trans (congrArg some (by kernel_rfl))⟩,
  f16 := ⟨Try.f111.name, by decide, Try.func111.trans (congrArg some (by kernel_rfl))⟩,
  f17 := ⟨Try.f112.name, by decide, Try.func112.trans (congrArg some (by kernel_rfl))⟩,
  f18 := ⟨Try.f113.name, by decide, Try.func113.trans (congrArg some (by kernel_rfl))⟩,
  f19 := Try.func114.trans (congrArg some (by kernel_rfl)),
  f20 := Try.func115.trans (congrArg some (by kernel_rfl)),
  f30 := ⟨Try.f116.name, by decide, Try.func116.trans (congrArg some (by kernel_rfl))⟩,
  f31 := Try.func117.trans (congrArg some (by kernel_rfl)),
  f32 := Try.func118.trans (congrArg some (by kernel_rfl)),
  f33 := ⟨Try.f119.name, by decide, Try.func119.trans (congrArg some (by kernel_rfl))⟩,
  f34 := ⟨Try.f120.name, by decide, Try.func120.trans (congrArg some (by kernel_rfl))⟩,
  f35 := ⟨Try.f121.name, by decide, Try.func121.trans (congrArg some (by kernel_rfl))⟩,
  f40 := ⟨Try.f122.name, by decide, Try.func122.trans (congrArg some (by kernel_rfl))⟩,
  t0 := Try.underlying0,
  a0 := Try.isAgg0,
  z0 := Try.sizeOf0,
  v0 := Try.zeroValue0,
  t3 := Try.underlying3,
  a3 := Try.isAgg3,
  z3 := Try.sizeOf3,
  v3 := Try.zeroValue3,
  t4 := Try.underlying4,
  a4 := Try.isAgg4,
  z4 := Try.sizeOf4,
  v4 := Try.zeroValue4,
  t5 := Try.underlying5,
  a5 := Try.isAgg5,
  z5 := Try.sizeOf5,
  v5 := Try.zeroValue5,
  t9 := Try.underlying9,
  a9 := Try.isAgg9,
  z9 := Try.sizeOf9,
  v9 := Try.zeroValue9,
  t22 := Try.underlying173,
  a22 := Try.isAgg173,
  z22 := Try.sizeOf173,
  v22 := Try.zeroValue173,
  t23 := Try.underlying203,
  a23 := Try.isAgg203,
  z23 := Try.sizeOf203,
  v23 := Try.zeroValue203,
  t25 := Try.underlying2,
  a25 := Try.isAgg2,
  z25 := Try.sizeOf2,
  v25 := Try.zeroValue2,
  t32 := Try.underlying215,
  a32 := Try.isAgg215,
  z32 := Try.sizeOf215,
  v32 := Try.zeroValue215,
  t35 := Try.underlying218,
  a35 := Try.isAgg218,
  z35 := Try.sizeOf218,
  v35 := Try.zeroValue218,
  t36 := Try.underlying219,
  a36 := Try.isAgg219,
  z36 := Try.sizeOf219,
  v36 := Try.zeroValue219,
  t41 := Try.underlying224,
  a41 := Try.isAgg224,
  z41 := Try.sizeOf224,
  v41 := Try.zeroValue224,
  t44 := Try.underlying38,
  a44 := Try.isAgg38,
  z44 := Try.sizeOf38,
  v44 := Try.zeroValue38,
  t46 := Try.underlying228,
  a46 := Try.isAgg228,
  z46 := Try.sizeOf228,
  v46 := Try.zeroValue228,
  t53 := Try.underlying229,
  a53 := Try.isAgg229,
  z53 := Try.sizeOf229,
  v53 := Try.zeroValue229,
  t57 := Try.underlying233,
  a57 := Try.isAgg233,
  z57 := Try.sizeOf233,
  v57 := Try.zeroValue233,
  t63 := Try.underlying235,
  a63 := Try.isAgg235,
  z63 := Try.sizeOf235,
  v63 := Try.zeroValue235,
  t64 := Try.underlying236,
  a64 := Try.isAgg236,
  z64 := Try.sizeOf236,
  v64 := Try.zeroValue236 }
theorem sort_some (blk off cap : Nat) (zs : List Int) (w : World) (hH : Holds (Value.int .i64) w blk off zs.toArray) (hblk : blk < w.heap.size) (hsz : zs.length < 4611686018427387904) :
    Calls Try.prog 95 #[.slice (some ⟨blk, off, none⟩) zs.length cap] w fun e w' => e = .returned (.tuple #[]) ∧ ∃ n os, w' = grow (Go.Sort.putRow (Value.int .i64) (Sort.ahead w n) blk off (srt zs).toArray) os := AnyM.slices_Sort_int sortA blk off cap zs w hH hblk hsz
theorem sort_none (p : Option Addr) (cap : Nat) (w : World) : Calls Try.prog 95 #[.slice p 0 cap] w fun e w' => e = .returned (.tuple #[]) ∧ w' = w := AnyM.slices_Sort_int_none sortA p cap w
end Go.Proofs.Ytbdklfcgcmdgaaa
namespace Go.Proofs.Ytbdklfcgcmdgaaa
open Go.RowKit Go.Sort
set_option linter.unusedVariables false
set_option linter.unusedSimpArgs false

set_option maxRecDepth 100000 in
set_option maxHeartbeats 1000000 in
theorem each_any (S : Nat → Prop) (W : World) (g : Nat) (xs : List Int) (a : Option Addr) (len cap : Nat) (L : List Hd) (w : World) (hrd : RdHs S W a len L) (hv : AgV W g xs w) (hx : xs.length + len ≤ 1000) :
    Calls Try.prog 93 #[.slice a len cap, .func (.func 94) #[.pointer (some ⟨g, 0, none⟩)] #[]] w fun e w' => e = .returned (.tuple #[]) ∧ AgV W g (xs ++ agesOf L) w' := by
  have HR := Lib.hid hrd
  have HV := Lib.hid hv
  clear hrd hv
  go_enter Try.func93, Try.ntmps93
  go_wp2_with fail
  go_loopw [8] (fun i wr => ∃ k : Nat, k ≤ len ∧ i = .int .i64 k ∧ AgV W g (xs ++ agesOf (L.take k)) wr) (fun i _ => len - (intOf i).toNat)
  case atStart => exact ⟨0, by omega, rfl, by simpa [agesOf] using HV.out⟩
  case round =>
    obtain ⟨k, hk, rfl, hr⟩ := hrel
    by_cases hlt : k < len
    · obtain ⟨b, off, is, n, r, rfl, hS, hbw, hlk, hok, hlr, hlc1, h1, h2, h3, h4, h5, h6, h7, h8⟩ := HR.out.at_ k hlt
      obtain ⟨v, q1, q2, q3, q4⟩ := id hr
      have r1 := row_below q3 (p := ⟨b, off + k * 56, none⟩) hbw 56
      have g1 : hasRow wr ⟨b, off + k * 56, none⟩ 56 = true := r1.1.trans h1
      have g2 : rowOf wr ⟨b, off + k * 56, none⟩ 56 = Hd.vals ⟨is, .int .i64 n :: r⟩ := r1.2.trans h2
      have hvl := Hd.vals_len (h := ⟨is, .int .i64 n :: r⟩) hok
      have hvc := hd_cell1 (h := ⟨is, .int .i64 n :: r⟩) hok
      have hal : (xs ++ agesOf (L.take k)).length ≤ 1000 := by
        have := agesOf_len (L.take k)
        rw [List.length_take] at this
        rw [List.length_append]; omega
      have HC := Lib.hid (add_any W g (xs ++ agesOf (L.take k)) ⟨is, .int .i64 n :: r⟩ hok (wr.alloc (.cells (Hd.vals ⟨is, .int .i64 n :: r⟩).toArray 114)) (hr.below ((Below.refl _ _).alloc (Nat.le_refl _) _)) hal)
      have HK := Lib.hid (agesOf_succ hlk)
      have hvt := List.take_of_length_le (Nat.le_of_eq hvl)
      clear r1 h1 h2 h3 h4 h5 h6 hr q1 q2 q3 q4 hlk hlr hlc1 hal
      generalize Hd.vals ⟨is, .int .i64 n :: r⟩ = y at *
      go_wp2_with fail
      refine HC.out.mono ?_
      rintro e w3 ⟨rfl, hv3⟩
      have H3 := Lib.hid hv3
      clear hv3 HC
      go_wp2_with fail
      refine ⟨⟨k + 1, by omega, by go_num, ?_⟩, by simp [intOf]; omega⟩
      rw [HK.out, ← List.append_assoc]
      exact H3.out
    · have hkl : k = len := by omega
      subst hkl
      have H := Lib.hid hr
      clear hr
      go_wp2_with fail
      go_end0
      have h1 := H.out
      rw [List.take_of_length_le (by rw [HR.out.1]; omega)] at h1
      exact ⟨rfl, h1⟩

set_option maxRecDepth 100000 in
set_option maxHeartbeats 1000000 in
theorem common_in (S : Nat → Prop) (n : Int) (hn : 4 ≤ n ∧ n ≤ 16) (a : Option Addr) (len cap : Nat) (L : List Hd) (w : World) (hrd : RdHs S w a len L) (hm1 : len ≤ cap) (hm2 : cap ≤ maxLen) :
    Calls Try.prog 74 #[.int .i64 n, .slice a len cap] w fun e w' => e = .returned (.int .i64 (commonF n L)) ∧ Below w.heap.size w w' := by
  obtain ⟨h4, h16⟩ := hn
  have e1 : (decide (4 ≤ n) && decide (n ≤ 16)) = true := by simp [h4, h16]
  obtain ⟨M, hM⟩ : ∃ M : Nat, M = min n.toNat len := ⟨_, rfl⟩
  have hMe : (min n (len : Int)).toNat = M := by omega
  have hMl : M ≤ len := by omega
  have hM16 : M ≤ 16 := by omega
  have htk : L.take n.toNat = L.take M := by
    rw [hM]
    rcases Nat.le_total n.toNat len with h | h
    · rw [Nat.min_eq_left h]
    · rw [Nat.min_eq_right h, List.take_of_length_le (by rw [hrd.1]; exact h), List.take_of_length_le (by rw [hrd.1]; exact Nat.le_refl _)]
  have hcF : commonF n L = if ((agesOf (L.take M)).length : Int) < n - 1 then -1 else medI (agesOf (L.take M)) := by
    unfold commonF
    rw [if_pos ⟨h4, h16⟩, htk]
  have hlen := agesOf_len (L.take M)
  rw [List.length_take] at hlen
  have hR := rdHs_take hrd hMl
  have hall : ∀ x ∈ agesOf (L.take M), 0 ≤ x ∧ x ≤ 1099511627776 := fun x hx => agesOf_ok hx
  have HE := Lib.hid (each_any S w w.heap.size [] a M cap (L.take M) (w.alloc (.cells #[.slice none 0 0] 203)) hR (AgV.start w) (by simp; omega))
  rw [List.nil_append] at HE
  generalize agesOf (L.take M) = xs at hcF hlen hall HE
  rw [hcF]
  have HA := Lib.hid hall
  clear hcF hR hrd htk hM hall
  unfold maxLen at hm2
  by_cases hfew : (xs.length : Int) < n - 1
  · rw [if_pos hfew]
    go_enter Try.func74, Try.ntmps74
    go_wp2_with fail
    refine (agmay_any _ _).mono ?_
    rintro e w' ⟨rfl, rfl⟩
    go_wp2_with fail
    refine HE.out.mono ?_
    rintro e w2 ⟨rfl, v, q1, q2, q3, q4⟩
    have d0 : w2.cell? ⟨w.heap.size, 0, none⟩ = some v := q1.cell 0
    have HB := Lib.hid q3
    obtain ⟨va, vc, rfl⟩ := own_slice q2
    clear q1 q2 q3 q4 HE
    go_wp2_with fail
    go_ret
    exact ⟨rfl, HB.out⟩
  · rw [if_neg hfew]
    go_enter Try.func74, Try.ntmps74
    go_wp2_with fail
    refine (agmay_any _ _).mono ?_
    rintro e w' ⟨rfl, rfl⟩
    go_wp2_with fail
    refine HE.out.mono ?_
    rintro e w2 ⟨rfl, v, q1, q2, q3, q4⟩
    obtain ⟨g, cp, rfl, hbg, hgl, hncap, hcm, -, hH⟩ := Lib.holds_of_ownsRow q2 (own_nn q2 (by omega))
    have d0 : w2.cell? ⟨w.heap.size, 0, none⟩ = some (.slice (some ⟨g, 0, none⟩) xs.length cp) := q1.cell 0
    have hne := own_not q2 q1 (by decide)
    have hne : w.heap.size ≠ g := fun e => hne (by rw [e]; rfl)
    have HS := Lib.hid (sort_some g 0 cp xs w2 hH hgl (by omega))
    have HH := Lib.hid (And.intro q1 (And.intro q3 (And.intro hH (And.intro hbg (And.intro hgl hne)))))
    clear q1 q2 q3 q4 HE hH hbg hgl hne hcm
    go_wp2_with fail
    refine HS.out.mono ?_
    rintro e w3 ⟨rfl, nn, os, hw3⟩
    have hH3 : Holds (Value.int .i64) w3 g 0 (srt xs).toArray := by
      subst hw3
      exact holds_grow _ _ os g 0 _ (by simpa [putRow, mapBlock, Sort.ahead] using HH.out.2.2.2.2.1) (holds_putRow _ _ g 0 _ _ (holds_ahead _ w2 nn g 0 _ HH.out.2.2.1) (by simp [srt_len]))
    have hgr : w2.grownBy w3 (some g) := by subst hw3; exact grownBy_sortedI _
    have hB3 : Below w.heap.size w w3 := HH.out.2.1.grown hgr HH.out.2.1.size (fun j hj => by cases hj; exact HH.out.2.2.2.1)
    have hb3 : Blk w3 w.heap.size 203 #[.slice (some ⟨g, 0, none⟩) xs.length cp] := (hgr.block _ HH.out.1.lt (by simp; exact fun e => HH.out.2.2.2.2.2 e)).trans HH.out.1
    have d3 : w3.cell? ⟨w.heap.size, 0, none⟩ = some (.slice (some ⟨g, 0, none⟩) xs.length cp) := hb3.cell 0
    obtain ⟨I, hI⟩ : ∃ I : Nat, I = (xs.length - 1) / 2 := ⟨_, rfl⟩
    have hI1 : ((xs.length : Int) - 1) / 2 = (I : Int) := by omega
    have hI2 : I < xs.length := by omega
    have c3 : w3.cell? ⟨g, I, none⟩ = some (.int .i64 (medI xs)) := by
      have h1 := (hH3 I (by simp [srt_len]; exact hI2)).1
      rw [Nat.zero_add] at h1
      rw [h1, getElem!_pos _ I (by simp [srt_len]; exact hI2)]
      have h2 := medI_at (l := xs) (by omega)
      rw [← hI] at h2
      have h3 := (List.getElem?_eq_some_iff.1 h2).2
      simp [h3]
    have HF := Lib.hid (And.intro hB3 hI)
    clear hw3 HS hH3 hgr hB3 hb3 d0 hI
    go_wp2_with fail
    go_ret
    exact ⟨rfl, HF.out.1⟩
theorem common_any (S : Nat → Prop) (n : Int) (a : Option Addr) (len cap : Nat) (L : List Hd) (w : World) (hrd : RdHs S w a len L) (hm1 : len ≤ cap) (hm2 : cap ≤ maxLen) :
    Calls Try.prog 74 #[.int .i64 n, .slice a len cap] w fun e w' => e = .returned (.int .i64 (commonF n L)) ∧ Below w.heap.size w w' := by
  by_cases h : 4 ≤ n ∧ n ≤ 16
  · exact common_in S n h a len cap L w hrd hm1 hm2
  · have e1 : (decide (4 ≤ n) && decide (n ≤ 16)) = false := by simp; omega
    have e2 : commonF n L = -1 := by unfold commonF; rw [if_neg h]
    rw [e2]
    clear h
    go_enter Try.func74, Try.ntmps74
    go_wp2_with fail
    refine (agmay_any _ _).mono ?_
    rintro e w' ⟨rfl, rfl⟩
    go_wp2_with fail
    go_ret
    exact ⟨rfl, Below.refl _ _⟩
end Go.Proofs.Ytbdklfcgcmdgaaa
namespace Go.Proofs.Ytbdklfcgcmdgaaa
open Go.RowKit
set_option linter.unusedVariables false
set_option linter.unusedSimpArgs false

/-! ### rows being put in place, whatever else turns -/
def OwnJ (E : World) (g : Nat) (S : Nat → Prop) (h : Nat → Rw) (N i : Nat) (wr : World) : Prop :=
  ∃ ps : List (Rw × Value), ps.length = N ∧ (∀ s, s < N → ∃ tv, ps[s]? = some (if s < i then h s else rw0, tv)) ∧ HB E g S ps wr
section
variable {E : World} {g : Nat} {S S' : Nat → Prop} {h : Nat → Rw} {N i : Nat} {wr w' : World}
theorem OwnJ.start (W : World) (hS : ¬ S W.heap.size) (h : Nat → Rw) (N : Nat) : OwnJ (cutW W 0) W.heap.size S h N 0 (W.alloc (.cells (zrep rowZ N).toArray 54)) := by
  have hz : (cutW W 0).heap.size = 0 := cutW_size (Nat.zero_le _)
  refine ⟨List.replicate N (rw0, .slice none 0 0), by simp, fun s hs => ⟨.slice none 0 0, by simp [List.getElem?_replicate, hs]⟩, ⟨[], ?_⟩, fun p hp => ?_, by rw [hz]; exact Nat.zero_le _, hS, by rw [hz]; exact (cutW_below (Nat.zero_le _)).trans (((Below.refl W.heap.size W).alloc (Nat.le_refl _) _).mono (Nat.zero_le _))⟩
  · rw [List.append_nil, flatP_rep]; exact Blk.new _ _ _
  · obtain ⟨-, rfl⟩ := List.mem_replicate.1 hp
    exact ⟨rw0_ok', rw0_row' _ _⟩
theorem OwnJ.chg {T : Nat → Prop} (hE : E.heap.size = 0) (hh : OwnJ E g S h N i wr) (hc : Chg T wr w') (h1 : ¬ T g) (h2 : ∀ b, S b → ¬ T b) : OwnJ E g S h N i w' := by
  obtain ⟨ps, p1, p2, p3⟩ := hh
  obtain ⟨rest, hb⟩ := p3.b
  exact ⟨ps, p1, p2, ⟨rest, hb.chg hc h1⟩, fun p hp => ⟨(p3.ps p hp).1, (p3.ps p hp).2.keep hc.size fun b hb hl => hc.block b hl (h2 b hb)⟩, p3.lt, p3.no, p3.bel.trans (hc.below (by omega) fun b _ => by omega)⟩
theorem OwnJ.below (hE : E.heap.size = 0) (hh : OwnJ E g S h N i wr) (hb : Below wr.heap.size wr w') : OwnJ E g S h N i w' := hh.chg hE (Chg.of_below hb fun _ => False) (fun h => h) fun _ _ h => h
theorem OwnJ.mono (hh : OwnJ E g S h N i wr) (hs : ∀ b, b < wr.heap.size → S b → S' b) (hg : ¬ S' g) : OwnJ E g S' h N i wr := by
  obtain ⟨ps, p1, p2, p3⟩ := hh
  refine ⟨ps, p1, p2, p3.b, fun p hp => ⟨(p3.ps p hp).1, ?_⟩, p3.lt, hg, p3.bel⟩
  obtain ⟨x, m, cap, e, h1, h2, h3⟩ := (p3.ps p hp).2
  exact ⟨x, m, cap, e, h1.mono hs, h2, h3⟩
theorem OwnJ.skip (hh : OwnJ E g S h N i wr) (hr : h i = rw0) : OwnJ E g S h N (i + 1) wr := by
  obtain ⟨ps, p1, p2, p3⟩ := hh
  refine ⟨ps, p1, fun s hs => ?_, p3⟩
  obtain ⟨tv, e⟩ := p2 s hs
  refine ⟨tv, ?_⟩
  rw [e]
  by_cases hsi : s = i
  · subst hsi; rw [if_neg (by omega), if_pos (by omega), hr]
  · by_cases hlt : s < i
    · rw [if_pos hlt, if_pos (by omega)]
    · rw [if_neg hlt, if_neg (by omega)]
theorem OwnJ.step (hh : OwnJ E g S h N i wr) (hi : i < N) (hr : (h i).ok) {tv : Value} (ht : RowR S wr (h i) tv) :
    canPut wr ⟨g, i * 57, none⟩ 57 = true ∧ OwnJ E g S h N (i + 1) (putRow wr ⟨g, i * 57, none⟩ ((h i).vals tv)) := by
  obtain ⟨ps, h1, h2, h3⟩ := hh
  obtain ⟨c1, c2⟩ := h3.set_ (i := i) (by omega) hr ht
  refine ⟨c1, ps.set i (h i, tv), by simpa using h1, fun s hs => ?_, c2⟩
  by_cases hsi : s = i
  · subst hsi
    exact ⟨tv, by rw [List.getElem?_set, if_pos rfl, if_pos (by omega), if_pos (by omega)]⟩
  · obtain ⟨tv', e⟩ := h2 s hs
    refine ⟨tv', by rw [List.getElem?_set, if_neg (fun e => hsi e.symm), e]; congr 2; by_cases hlt : s < i; rw [if_pos hlt, if_pos (by omega)]; rw [if_neg hlt, if_neg (by omega)]⟩
theorem OwnJ.rd (hh : OwnJ E g S h N N wr) : RdRs (fun b => b = g ∨ S b) wr (some ⟨g, 0, none⟩) N (tab N h) := by
  obtain ⟨ps, h1, h2, h3⟩ := hh
  have := h3.rd
  rw [h1] at this
  have e : ps.map Prod.fst = tab N h := tab_ext (by simp [h1]) fun s hs => by
    obtain ⟨tv, e⟩ := h2 s hs
    rw [List.getElem?_map, e, if_pos hs]
    rfl
  rwa [e] at this
theorem OwnJ.lt (hh : OwnJ E g S h N i wr) : g < wr.heap.size := by
  obtain ⟨ps, -, -, h3⟩ := hh
  obtain ⟨rest, hb⟩ := h3.b
  exact hb.lt
theorem OwnJ.canPut_ (hh : OwnJ E g S h N i wr) (hi : i < N) : canPut wr ⟨g, i * 57, none⟩ 57 = true := by
  obtain ⟨ps, h1, h2, h3⟩ := hh
  exact (h3.set_ (i := i) (by omega) rw0_ok' (rw0_row' _ _)).1
end
/-! ### a node's tick, call by call -/
section
variable {base n : Nat} {I : Nat → Prop} {wq w w' : World} {boot : Int} {P : NdP} {cs : Array Value} {mk : Bool} {L : List Int} {long : Int}
theorem ndw_power {x : NdM} (h : NdW base n I wq boot P cs (x.s, x.left, x.cold) mk L long w) (hs : x.s = 0 ∨ x.s = 1 ∨ x.s = 2) (hb0 : 0 ≤ boot) (hb1 : boot ≤ 4096) (hl0 : 0 ≤ x.left) (hl1 : x.left ≤ boot) (hc0 : 0 ≤ x.cold) (hc1 : x.cold ≤ 1099511627776) (p : Bool) :
    Calls Try.prog 71 #[.pointer (some ⟨P.p, 0, none⟩), .bool p] w fun e w' => e = .returned (.tuple #[.int .u8 (pwM boot x p).1, .int .i64 (coldM (pwM boot x p))]) ∧ NdW base n I wq boot P cs (pwM boot x p) mk L long w' ∧ Chg (· = P.p) w w' := by
  have key : ∀ e w', StepPost P.p boot x.s x.left x.cold p e w w' → e = .returned (.tuple #[.int .u8 (pwM boot x p).1, .int .i64 (coldM (pwM boot x p))]) ∧ NdW base n I wq boot P cs (pwM boot x p) mk L long w' ∧ Chg (· = P.p) w w' := by
    rintro e w' ⟨s', l', c', hp, rfl, hb, hc⟩
    have e1 : pwM boot x p = (s', l', c') := by
      unfold pwM
      rw [hp]
    rw [e1]
    exact ⟨rfl, h.power (q' := (s', l', c')) hb hc, hc⟩
  cases p with
  | false => exact (step_off P.p boot x.s x.left x.cold w h.pw).mono key
  | true => exact (step_on P.p boot x.s x.left x.cold w hs hb0 hb1 hl0 (by omega) (by omega) hc1 h.pw).mono key
/-- a vector that was agreed on -/
def AgV18 (base n : Nat) (A : List Hd) (v : Value) (w : World) : Prop := ∃ g, v = .slice (some ⟨g, 0, none⟩) n n ∧ Blk w g 114 (flatH A).toArray ∧ base ≤ g
theorem AgV18.below {B : Nat} {A : List Hd} {v : Value} (h : AgV18 B n A v w) (hb : Below w.heap.size w w') : AgV18 B n A v w' := by
  obtain ⟨g, h1, h2, h3⟩ := h
  exact ⟨g, h1, h2.below hb h2.lt, h3⟩
theorem AgV18.rd {B : Nat} {A : List Hd} {v : Value} (h : AgV18 B n A v w) (hok : ∀ x ∈ A, x.ok) (hl : A.length = n) : ∃ g, v = .slice (some ⟨g, 0, none⟩) n n ∧ RdHs (· = g) w (some ⟨g, 0, none⟩) n A := by
  obtain ⟨g, h1, h2, h3⟩ := h
  refine ⟨g, h1, ?_⟩
  have := RdHs.of_blk (r := []) (by simpa using h2) hok
  rwa [hl] at this
theorem AgV18.set {B : Nat} {A : List Hd} {v : Value} (h : AgV18 B n A v w) {q : Int × Int × Int} (hn : NdW base n I wq boot P cs q mk L long w) (k : Nat) (u : Value) : AgV18 B n A v (w.setCell ⟨P.g, k, none⟩ u) := by
  obtain ⟨g, h1, h2, h3⟩ := h
  exact ⟨g, h1, h2.chg ((Chg.refl (· = P.g) _).set_at k u) (Blk.ne_ h2 hn.node (by decide)), h3⟩
theorem ndw_common {A : List Hd} {B : Nat} {v : Value} (h4 : 4 ≤ n) (h16 : n ≤ 16) (hA : AgV18 B n A v w) (hok : ∀ x ∈ A, x.ok) (hl : A.length = n) :
    Calls Try.prog 74 #[.int .i64 n, v] w fun e w' => e = .returned (.int .i64 (commonF n A)) ∧ Below w.heap.size w w' := by
  obtain ⟨g, rfl, hr⟩ := hA.rd hok hl
  exact common_any (· = g) n (some ⟨g, 0, none⟩) n n A w hr (Nat.le_refl _) (by simp only [maxLen]; omega)
theorem ndw_clock {A : List Hd} {B : Nat} {v : Value} {q : Int × Int × Int} (h4 : 4 ≤ n) (h16 : n ≤ 16) (h : NdW base n I wq boot P cs q true L long w) (hA : AgV18 B n A v w) (hL : ∀ a ∈ L, -1 ≤ a ∧ a ≤ 1099511627776) (hlen : L.length ≤ 2 * n) (hB : base ≤ w.heap.size) (common cold : Int) (h0 : -1 ≤ common ∧ common ≤ 1099511627776) :
    Calls Try.prog 75 #[.pointer (some ⟨P.c, 0, none⟩), .int .i64 common, .int .i64 cold] w fun e w' => e = .returned (.tuple #[.int .i64 (ownF n common cold), .int .i64 (showF (lastN (2 * n) (L ++ [ownF n common cold])))]) ∧ (∃ v', NdW base n I wq boot { P with v := v' } cs q true (lastN (2 * n) (L ++ [ownF n common cold])) long w') ∧ AgV18 B n A v w' ∧ w.heap.size ≤ w'.heap.size := by
  obtain ⟨h1, h2⟩ := h.made rfl
  refine (ckstep_any base P.c n h4 h16 P.v L hL hlen common cold (by omega) w h1 hB).mono ?_
  rintro e w' ⟨rfl, ⟨v', hr, hv⟩, hc⟩
  obtain ⟨g, e1, e2, e3⟩ := hA
  refine ⟨rfl, ⟨v', h.clock hr hv hc⟩, ⟨g, e1, e2.chg hc ?_, e3⟩, hc.size⟩
  rintro (hh | hh)
  · exact Blk.ne_ h1.1 e2 (by decide) hh.symm
  · exact h1.2.not_ e2 (by decide) hh.symm
theorem ndw_clique {A : List Hd} {B : Nat} {v : Value} {q : Int × Int × Int} (h4 : 4 ≤ n) (h16 : n ≤ 16) (h : NdW base n I wq boot P cs q true L long w) (hA : AgV18 B n A v w) (hok : ∀ x ∈ A, x.ok) (hl : A.length = n) (common : Int) (h0 : 0 ≤ long) (h1 : long ≤ 2 * n) :
    Calls Try.prog 76 #[.pointer (some ⟨P.q, 0, none⟩), v, .int .i64 common] w fun e w' => e = .returned (.bool (cqOn long (2 * n) (evenF n A common) == 2 * n)) ∧ NdW base n I wq boot P cs q true L (cqOn long (2 * n) (evenF n A common)) w' ∧ Chg (· = P.q) w w' := by
  obtain ⟨k1, k2⟩ := h.made rfl
  obtain ⟨g, rfl, hr⟩ := hA.rd hok hl
  refine (cqstep_any (· = g) P.q long (2 * n) n common (some ⟨g, 0, none⟩) n n A w k2 (by omega) (by omega) h0 (by omega) (by omega) (by omega) hr (Nat.le_refl _) (by simp only [maxLen]; omega)).mono ?_
  rintro e w' ⟨rfl, hb, hc⟩
  exact ⟨rfl, h.clique hb hc, hc⟩
end
end Go.Proofs.Ytbdklfcgcmdgaaa
namespace Go.Proofs.Ytbdklfcgcmdgaaa
open Go.RowKit
set_option linter.unusedVariables false
set_option linter.unusedSimpArgs false

/-- nodes below i have turned, rows below k are laid -/
structure StI (base N : Nat) (boot : Nat → Int) (nt : Nat → Nat) (w5 : World) (sg rg gl cap : Nat) (T : Int) (E : World) (og : Nat) (own : Nat → Rw) (nd : Nat → NdM) (k m : Nat) (nt' : Nat → Nat) (Q : Nat → NdP) (wq : World) : Prop where
  st : StAt base N nt' wq sg rg gl cap T boot nd Q
  lo : ∀ b, b < w5.heap.size → nt' b = nt b
  c : Chg (fun b => (1 ≤ nt b ∧ nt b ≤ N) ∨ b = og) w5 wq
  o : OwnJ E og (fun b => og < b ∧ b < m ∧ nt' b = 99) own N k wq
  le : m ≤ wq.heap.size
  og : nt og = 99 ∧ og < w5.heap.size
  e : E.heap.size = 0
section
variable {base N : Nat} {boot : Nat → Int} {nt : Nat → Nat} {w5 : World} {sg rg gl cap : Nat} {T : Int} {E : World} {og : Nat} {own : Nat → Rw} {nd nd' : Nat → NdM} {i k m : Nat} {nt' : Nat → Nat} {Q : Nat → NdP} {wq w' : World}
theorem StI.below (h : StI base N boot nt w5 sg rg gl cap T E og own nd k m nt' Q wq) (hb : Below wq.heap.size wq w') : StI base N boot nt w5 sg rg gl cap T E og own nd k m nt' Q w' :=
  ⟨h.st.below hb, h.lo, h.c.trans (Chg.of_below hb _), h.o.below h.e hb, Nat.le_trans h.le hb.size, h.og, h.e⟩
/-- a store into a block of nobody's, new since -/
theorem StI.put_ (h : StI base N boot nt w5 sg rg gl cap T E og own nd k m nt' Q wq) {g : Nat} (hc : Chg (· = g) wq w') (hg : w5.heap.size ≤ g) (hn : nt' g = 99) (hm : m ≤ g) : StI base N boot nt w5 sg rg gl cap T E og own nd k m nt' Q w' :=
  ⟨h.st.chg hc (fun b e => by rw [e]; exact hn), h.lo, h.c.trans' hc (fun b hb e => by omega), h.o.chg h.e hc (by have := h.og.2; omega) (fun b hb e => by have := hb.2.1; omega), Nat.le_trans h.le hc.size, h.og, h.e⟩
theorem StI.skip (h : StI base N boot nt w5 sg rg gl cap T E og own nd k m nt' Q wq) (hr : own k = rw0) : StI base N boot nt w5 sg rg gl cap T E og own nd (k + 1) m nt' Q wq :=
  ⟨h.st, h.lo, h.c, h.o.skip hr, h.le, h.og, h.e⟩
/-- a row is laid -/
theorem StI.row (h : StI base N boot nt w5 sg rg gl cap T E og own nd k m nt' Q wq) (hk : k < N) (hr : (own k).ok) {tv : Value} (hm : m ≤ w5.heap.size ∨ True) {m' : Nat} (hmm : m ≤ m') (hml : m' ≤ wq.heap.size) (ht : RowR (fun b => og < b ∧ b < m' ∧ nt' b = 99) wq (own k) tv) :
    canPut wq ⟨og, k * 57, none⟩ 57 = true ∧ StI base N boot nt w5 sg rg gl cap T E og own nd (k + 1) m' nt' Q (putRow wq ⟨og, k * 57, none⟩ ((own k).vals tv)) := by
  have hno : nt' og = 99 := by rw [h.lo og h.og.2]; exact h.og.1
  have ho := h.o.mono (S' := fun b => og < b ∧ b < m' ∧ nt' b = 99) (fun b _ hb => ⟨hb.1, by omega, hb.2.2⟩) (fun hh => by omega)
  obtain ⟨c1, c2⟩ := ho.step hk hr ht
  have hc : Chg (· = og) wq (putRow wq ⟨og, k * 57, none⟩ ((own k).vals tv)) := (Chg.refl (· = og) wq).put (p := ⟨og, k * 57, none⟩) (.inl rfl) _
  exact ⟨c1, h.st.chg hc (fun b e => by rw [e]; exact hno), h.lo, h.c.trans' hc (fun b hb e => .inr e), c2, Nat.le_trans hml hc.size, h.og, h.e⟩
/-- a node has turned -/
theorem StI.turn (h : StI base N boot nt w5 sg rg gl cap T E og own nd k m nt' Q wq) (hi : i < N) {P : NdP} {cs : Array Value} {q : Int × Int × Int} {mk : Bool} {L : List Int} {long : Int} (hn : NdW base N (fun b => nt' b = i + 1) wq (boot i) P cs q mk L long w') {x : NdM}
    (hg : P.g = (Q i).g) (e1 : cs = ndCells x P) (e2 : q = (x.s, x.left, x.cold)) (e3 : x.ck ≠ [] → mk = true ∧ L = x.ck ∧ long = x.long) (he : nd' i = x) (ho : ∀ j, j < N → j ≠ i → nd' j = nd j) :
    ∃ nt'' Q', StI base N boot nt w5 sg rg gl cap T E og own nd' k m nt'' Q' w' ∧ ∀ b, w'.heap.size ≤ b → nt'' b = 99 := by
  have h16 := h.st.len.2.2
  have hle := h.le
  have hs5 := h.c.size
  have hst := h.st.turn hi hn.c (hn.done e1 e2 e3) hg he ho
  have hno : nt' og = 99 := by rw [h.lo og h.og.2]; exact h.og.1
  have hlt : ∀ b, nt' b = i + 1 → b < wq.heap.size := fun b hb => by
    rcases Nat.lt_or_ge b wq.heap.size with h1 | h1
    · exact h1
    · rw [h.st.hi b h1] at hb; omega
  refine ⟨_, _, ⟨hst, fun b hb => by rw [tagR_lo (by omega)]; exact h.lo b hb, h.c.trans' hn.c (fun b hb e => .inl (by rw [← h.lo b hb, e]; omega)), ?_, Nat.le_trans hle hn.c.size, h.og, h.e⟩, hst.hi⟩
  refine (h.o.mono (S' := fun b => og < b ∧ b < m ∧ tagR nt' wq.heap.size w'.heap.size (i + 1) b = 99) (fun b hb hS => ⟨hS.1, hS.2.1, by rw [tagR_lo hb]; exact hS.2.2⟩) (fun hh => by omega)).chg h.e hn.c (by show ¬ nt' og = i + 1; omega) fun b hS e => ?_
  have e' : nt' b = i + 1 := e
  have := hS.2.2
  rw [tagR_lo (hlt b e'), e'] at this
  omega
end
/-- a clock that is not there has a clique that does not run -/
theorem ck_nil {N : Nat} {F : FltM} {boot : Nat → Int} {on : Nat → Nat → Bool} {cell : Nat → Nat → List Value} {t i : Nat} (h4 : 4 ≤ N) (h : (ndT N F boot on cell t i).ck = []) : (ndT N F boot on cell t i).long = 0 := by
  cases t with
  | zero => rfl
  | succ t =>
    rw [ndT_succ] at h ⊢
    unfold NdM.step at h ⊢
    by_cases ho : on t i = true
    · rw [if_pos ho] at h
      have : (lastN (2 * N) ((ndT N F boot on cell t i).ck ++ [ageM N (boot i) (on t i) (agT N F boot on cell t i) (ndT N F boot on cell t i)])).length = 0 := by
        have h2 : ckN N (boot i) (on t i) (agT N F boot on cell t i) (ndT N F boot on cell t i) = [] := h
        unfold ckN at h2
        rw [h2]; rfl
      unfold lastN at this
      simp at this
      omega
    · rw [if_neg ho]
theorem ck_range {N : Nat} {F : FltM} {boot : Nat → Int} {on : Nat → Nat → Bool} {cell : Nat → Nat → List Value} (t i : Nat) : ∀ a ∈ (ndT N F boot on cell t i).ck, -1 ≤ a ∧ a ≤ 1099511627776 := by
  induction t with
  | zero => intro a ha; cases ha
  | succ t ih =>
    intro a ha
    rw [ndT_succ] at ha
    unfold NdM.step at ha
    by_cases ho : on t i = true
    · rw [if_pos ho] at ha
      have h2 : a ∈ ckN N (boot i) (on t i) (agT N F boot on cell t i) (ndT N F boot on cell t i) := ha
      unfold ckN lastN at h2
      have := List.mem_of_mem_drop h2
      rcases List.mem_append.1 this with h | h
      · exact ih a h
      · rw [List.mem_singleton.1 h]; exact ownF_range _ _ _
    · rw [if_neg ho] at ha; cases ha
end Go.Proofs.Ytbdklfcgcmdgaaa
