/-
  slices.Sort at []int64's named type, laid off the shelf: its contract. ages.each, ages.Common.
-/
import Derived.Shelf.SortM.Plain
import Derived.Shelf.SortM.SortNone
import Derived.Ground.SlgmProg
import Derived.Test.YtnckfjmaochnkaaGreatDoorGd22
import Derived.Test.YtnckfjmaochnkaaGreatDoorProg
import Derived.Test.YtnckfjmaochnkaaGreatDoorGd23
import Derived.Lib.OwnBridge
import Derived.Sort.Grow
import Derived.Sort.OwnSortedInts
namespace Go.Proofs.YtnckfjmaochnkaaGreatDoor
open Go.Shelf Go.Sort Go.RowKit
set_option linter.unusedVariables false
set_option linter.unusedSimpArgs false

def sortA_ren : Go.Shelf.Ren := ⟨fun | 5 => 47 | 8 => 84 | 7 => 83 | 19 => 146 | 20 => 147 | 10 => 137 | 11 => 138 | 12 => 139 | 13 => 140 | 14 => 141 | 15 => 142 | 16 => 143 | 17 => 144 | 18 => 145 | 30 => 188 | 31 => 189 | 32 => 190 | 33 => 191 | 34 => 192 | 35 => 193 | 40 => 227 | n => n, fun | 23 => 156 | 25 => 2 | 3 => 3 | 32 => 221 | 22 => 155 | 0 => 0 | 44 => 38 | 46 => 293 | 4 => 4 | 36 => 284 | 35 => 283 | 41 => 289 | 5 => 5 | 9 => 9 | 53 => 342 | 57 => 346 | 63 => 379 | 64 => 380 | n => n, fun | n => n⟩
theorem sortA : Go.Proofs.SlLaysM.n5 Tryz.prog sortA_ren := {
  mixed := by kernel_rfl,
  f5 := ⟨Tryz.f47.name, by decide, Tryz.func47.trans (congrArg some (by kernel_rfl))⟩,
  f7 := ⟨Tryz.f83.name, by decide, Tryz.func83.trans (congrArg some (by kernel_rfl))⟩,
  f8 := Tryz.func84.trans (congrArg some (by kernel_rfl)),
  f10 := ⟨Tryz.f137.name, by decide, Tryz.func137.trans (congrArg some (by kernel_rfl))⟩,
  f11 := ⟨Tryz.f138.name, by decide, Tryz.func138.trans (congrArg some (by kernel_rfl))⟩,
  f12 := ⟨Tryz.f139.name, by decide, Tryz.func139.trans (congrArg some (by kernel_rfl))⟩,
  f13 := ⟨Tryz.f140.name, by decide, Tryz.func140.trans (congrArg some (by kernel_rfl))⟩,
  f14 := ⟨Tryz.f141.name, by decide, Tryz.func141.trans (congrArg some (by kernel_rfl))⟩,
  f15 := ⟨Tryz.f142.name, by decide, Tryz.func142.trans (congrArg some (by kernel_rfl))⟩,
  f16 := ⟨Tryz.f143.name, by decide, Tryz.func143.trans (congrArg some (by kernel_rfl))⟩,
  f17 := ⟨Tryz.f144.name, by decide, Tryz.func144.trans (congrArg some (by kernel_rfl))⟩,
  f18 := ⟨Tryz.f145.name, by decide, Tryz.func145.trans (congrArg some (by kernel_rfl))⟩,
  f19 := Tryz.func146.trans (congrArg some (by kernel_rfl)),
  f20 := Tryz.func147.trans (congrArg some (by kernel_rfl)),
  f30 := ⟨Tryz.f188.name, by decide, Tryz.func188.trans (congrArg some (by kernel_rfl))⟩,
  f31 := Tryz.func189.trans (congrArg some (by kernel_rfl)),
  f32 := Tryz.func190.trans (congrArg some (by kernel_rfl)),
  f33 := ⟨Tryz.f191.name, by decide, Tryz.func191.trans (congrArg some (by kernel_rfl))⟩,
  f34 := ⟨Tryz.f192.name, by decide, Tryz.func192.trans (congrArg some (by kernel_rfl))⟩,
  f35 := ⟨Tryz.f193.name, by decide, Tryz.func193.trans (congrArg some (by kernel_rfl))⟩,
  f40 := ⟨Tryz.f227.name, by decide, Tryz.func227.trans (congrArg some (by kernel_rfl))⟩,
  t0 := Tryz.underlying0,
  a0 := Tryz.isAgg0,
  z0 := Tryz.sizeOf0,
  v0 := Tryz.zeroValue0,
  t3 := Tryz.underlying3,
  a3 := Tryz.isAgg3,
  z3 := Tryz.sizeOf3,
  v3 := Tryz.zeroValue3,
  t4 := Tryz.underlying4,
  a4 := Tryz.isAgg4,
  z4 := Tryz.sizeOf4,
  v4 := Tryz.zeroValue4,
  t5 := Tryz.underlying5,
  a5 := Tryz.isAgg5,
  z5 := Tryz.sizeOf5,
  v5 := Tryz.zeroValue5,
  t9 := Tryz.underlying9,
  a9 := Tryz.isAgg9,
  z9 := Tryz.sizeOf9,
  v9 := Tryz.zeroValue9,
  t22 := Tryz.underlying155,
  a22 := Tryz.isAgg155,
  z22 := Tryz.sizeOf155,
  v22 := Tryz.zeroValue155,
  t23 := Tryz.underlying156,
  a23 := Tryz.isAgg156,
  z23 := Tryz.sizeOf156,
  v23 := Tryz.zeroValue156,
  t25 := Tryz.underlying2,
  a25 := Tryz.isAgg2,
  z25 := Tryz.sizeOf2,
  v25 := Tryz.zeroValue2,
  t32 := Tryz.underlying221,
  a32 := Tryz.isAgg221,
  z32 := Tryz.sizeOf221,
  v32 := Tryz.zeroValue221,
  t35 := Tryz.underlying283,
  a35 := Tryz.isAgg283,
  z35 := Tryz.sizeOf283,
  v35 := Tryz.zeroValue283,
  t36 := Tryz.underlying284,
  a36 := Tryz.isAgg284,
  z36 := Tryz.sizeOf284,
  v36 := Tryz.zeroValue284,
  t41 := Tryz.underlying289,
  a41 := Tryz.isAgg289,
  z41 := Tryz.sizeOf289,
  v41 := Tryz.zeroValue289,
  t44 := Tryz.underlying38,
  a44 := Tryz.isAgg38,
  z44 := Tryz.sizeOf38,
  v44 := Tryz.zeroValue38,
  t46 := Tryz.underlying293,
  a46 := Tryz.isAgg293,
  z46 := Tryz.sizeOf293,
  v46 := Tryz.zeroValue293,
  t53 := Tryz.underlying342,
  a53 := Tryz.isAgg342,
  z53 := Tryz.sizeOf342,
  v53 := Tryz.zeroValue342,
  t57 := Tryz.underlying346,
  a57 := Tryz.isAgg346,
  z57 := Tryz.sizeOf346,
  v57 := Tryz.zeroValue346,
  t63 := Tryz.underlying379,
  a63 := Tryz.isAgg379,
  z63 := Tryz.sizeOf379,
  v63 := Tryz.zeroValue379,
  t64 := Tryz.underlying380,
  a64 := Tryz.isAgg380,
  z64 := Tryz.sizeOf380,
  v64 := Tryz.zeroValue380 }
theorem sort_some (blk off cap : Nat) (zs : List Int) (w : World) (hH : Holds (Value.int .i64) w blk off zs.toArray) (hblk : blk < w.heap.size) (hsz : zs.length < 4611686018427387904) :
    Calls Tryz.prog 47 #[.slice (some ⟨blk, off, none⟩) zs.length cap] w fun e w' => e = .returned (.tuple #[]) ∧ ∃ n os, w' = grow (Go.Sort.putRow (Value.int .i64) (Sort.ahead w n) blk off (srt zs).toArray) os := AnyM.slices_Sort_int sortA blk off cap zs w hH hblk hsz
theorem sort_none (p : Option Addr) (cap : Nat) (w : World) : Calls Tryz.prog 47 #[.slice p 0 cap] w fun e w' => e = .returned (.tuple #[]) ∧ w' = w := AnyM.slices_Sort_int_none sortA p cap w
end Go.Proofs.YtnckfjmaochnkaaGreatDoor
namespace Go.Proofs.YtnckfjmaochnkaaGreatDoor
open Go.RowKit Go.Sort
set_option linter.unusedVariables false
set_option linter.unusedSimpArgs false

set_option maxRecDepth 100000 in
set_option maxHeartbeats 1000000 in
theorem each_any (S : Nat → Prop) (W : World) (g : Nat) (xs : List Int) (a : Option Addr) (len cap : Nat) (L : List Hd) (w : World) (hrd : RdHs S W a len L) (hv : AgV W g xs w) (hx : xs.length + len ≤ 1000) :
    Calls Tryz.prog 45 #[.slice a len cap, .func (.func 46) #[.pointer (some ⟨g, 0, none⟩)] #[]] w fun e w' => e = .returned (.tuple #[]) ∧ AgV W g (xs ++ agesOf L) w' := by
  have HR := Lib.hid hrd
  have HV := Lib.hid hv
  clear hrd hv
  go_enter Tryz.func45, Tryz.ntmps45
  go_wp2_with fail
  go_loopw [8] (fun i wr => ∃ k : Nat, k ≤ len ∧ i = .int .i64 k ∧ AgV W g (xs ++ agesOf (L.take k)) wr) (fun i _ => len - (intOf i).toNat)
  case atStart => exact ⟨0, by omega, rfl, by simpa [agesOf] using HV.out⟩
  case round =>
    obtain ⟨k, hk, rfl, hr⟩ := hrel
    by_cases hlt : k < len
    · obtain ⟨b, off, is, n, r, rfl, hS, hbw, hlk, hok, hlr, hlc1, h1, h2, h3, h4, h5, h6, h7, h8⟩ := HR.out.at_ k hlt
      obtain ⟨v, q1, q2, q3, q4⟩ := id hr
      have r1 := row_below q3 (p := ⟨b, off + k * 56, none⟩) hbw 56
      have g1 : hasRow wr ⟨b, off + k * 56, none⟩ 56 = true := r1.1.trans h1
      have g2 : rowOf wr ⟨b, off + k * 56, none⟩ 56 = Hd.vals ⟨is, .int .i64 n :: r⟩ := r1.2.trans h2
      have hvl := Hd.vals_len (h := ⟨is, .int .i64 n :: r⟩) hok
      have hvc := hd_cell1 (h := ⟨is, .int .i64 n :: r⟩) hok
      have hal : (xs ++ agesOf (L.take k)).length ≤ 1000 := by
        have := agesOf_len (L.take k)
        rw [List.length_take] at this
        rw [List.length_append]; omega
      have HC := Lib.hid (add_any W g (xs ++ agesOf (L.take k)) ⟨is, .int .i64 n :: r⟩ hok (wr.alloc (.cells (Hd.vals ⟨is, .int .i64 n :: r⟩).toArray 152)) (hr.below ((Below.refl _ _).alloc (Nat.le_refl _) _)) hal)
      have HK := Lib.hid (agesOf_succ hlk)
      have hvt := List.take_of_length_le (Nat.le_of_eq hvl)
      clear r1 h1 h2 h3 h4 h5 h6 hr q1 q2 q3 q4 hlk hlr hlc1 hal
      generalize Hd.vals ⟨is, .int .i64 n :: r⟩ = y at *
      go_wp2_with fail
      refine HC.out.mono ?_
      rintro e w3 ⟨rfl, hv3⟩
      have H3 := Lib.hid hv3
      clear hv3 HC
      go_wp2_with fail
      refine ⟨⟨k + 1, by omega, by go_num, ?_⟩, by simp [intOf]; omega⟩
      rw [HK.out, ← List.append_assoc]
      exact H3.out
    · have hkl : k = len := by omega
      subst hkl
      have H := Lib.hid hr
      clear hr
      go_wp2_with fail
      go_end0
      have h1 := H.out
      rw [List.take_of_length_le (by rw [HR.out.1]; omega)] at h1
      exact ⟨rfl, h1⟩

set_option maxRecDepth 100000 in
set_option maxHeartbeats 1000000 in
theorem common_in (S : Nat → Prop) (n : Int) (hn : 4 ≤ n ∧ n ≤ 16) (a : Option Addr) (len cap : Nat) (L : List Hd) (w : World) (hrd : RdHs S w a len L) (hm1 : len ≤ cap) (hm2 : cap ≤ maxLen) :
    Calls Tryz.prog 18 #[.int .i64 n, .slice a len cap] w fun e w' => e = .returned (.int .i64 (commonF n L)) ∧ Below w.heap.size w w' := by
  obtain ⟨h4, h16⟩ := hn
  have e1 : (decide (4 ≤ n) && decide (n ≤ 16)) = true := by simp [h4, h16]
  obtain ⟨M, hM⟩ : ∃ M : Nat, M = min n.toNat len := ⟨_, rfl⟩
  have hMe : (min n (len : Int)).toNat = M := by omega
  have hMl : M ≤ len := by omega
  have hM16 : M ≤ 16 := by omega
  have htk : L.take n.toNat = L.take M := by
    rw [hM]
    rcases Nat.le_total n.toNat len with h | h
    · rw [Nat.min_eq_left h]
    · rw [Nat.min_eq_right h, List.take_of_length_le (by rw [hrd.1]; exact h), List.take_of_length_le (by rw [hrd.1]; exact Nat.le_refl _)]
  have hcF : commonF n L = if ((agesOf (L.take M)).length : Int) < n - 1 then -1 else medI (agesOf (L.take M)) := by
    unfold commonF
    rw [if_pos ⟨h4, h16⟩, htk]
  have hlen := agesOf_len (L.take M)
  rw [List.length_take] at hlen
  have hR := rdHs_take hrd hMl
  have hall : ∀ x ∈ agesOf (L.take M), 0 ≤ x ∧ x ≤ 1099511627776 := fun x hx => agesOf_ok hx
  have HE := Lib.hid (each_any S w w.heap.size [] a M cap (L.take M) (w.alloc (.cells #[.slice none 0 0] 156)) hR (AgV.start w) (by simp; omega))
  rw [List.nil_append] at HE
  generalize agesOf (L.take M) = xs at hcF hlen hall HE
  rw [hcF]
  have HA := Lib.hid hall
  clear hcF hR hrd htk hM hall
  unfold maxLen at hm2
  by_cases hfew : (xs.length : Int) < n - 1
  · rw [if_pos hfew]
    go_enter Tryz.func18, Tryz.ntmps18
    go_wp2_with fail
    refine (agmay_any _ _).mono ?_
    rintro e w' ⟨rfl, rfl⟩
    go_wp2_with fail
    refine HE.out.mono ?_
    rintro e w2 ⟨rfl, v, q1, q2, q3, q4⟩
    have d0 : w2.cell? ⟨w.heap.size, 0, none⟩ = some v := q1.cell 0
    have HB := Lib.hid q3
    obtain ⟨va, vc, rfl⟩ := own_slice q2
    clear q1 q2 q3 q4 HE
    go_wp2_with fail
    go_ret
    exact ⟨rfl, HB.out⟩
  · rw [if_neg hfew]
    go_enter Tryz.func18, Tryz.ntmps18
    go_wp2_with fail
    refine (agmay_any _ _).mono ?_
    rintro e w' ⟨rfl, rfl⟩
    go_wp2_with fail
    refine HE.out.mono ?_
    rintro e w2 ⟨rfl, v, q1, q2, q3, q4⟩
    obtain ⟨g, cp, rfl, hbg, hgl, hncap, hcm, -, hH⟩ := Lib.holds_of_ownsRow q2 (own_nn q2 (by omega))
    have d0 : w2.cell? ⟨w.heap.size, 0, none⟩ = some (.slice (some ⟨g, 0, none⟩) xs.length cp) := q1.cell 0
    have hne := own_not q2 q1 (by decide)
    have hne : w.heap.size ≠ g := fun e => hne (by rw [e]; rfl)
    have HS := Lib.hid (sort_some g 0 cp xs w2 hH hgl (by omega))
    have HH := Lib.hid (And.intro q1 (And.intro q3 (And.intro hH (And.intro hbg (And.intro hgl hne)))))
    clear q1 q2 q3 q4 HE hH hbg hgl hne hcm
    go_wp2_with fail
    refine HS.out.mono ?_
    rintro e w3 ⟨rfl, nn, os, hw3⟩
    have hH3 : Holds (Value.int .i64) w3 g 0 (srt xs).toArray := by
      subst hw3
      exact holds_grow _ _ os g 0 _ (by simpa [putRow, mapBlock, Sort.ahead] using HH.out.2.2.2.2.1) (holds_putRow _ _ g 0 _ _ (holds_ahead _ w2 nn g 0 _ HH.out.2.2.1) (by simp [srt_len]))
    have hgr : w2.grownBy w3 (some g) := by subst hw3; exact grownBy_sortedI _
    have hB3 : Below w.heap.size w w3 := HH.out.2.1.grown hgr HH.out.2.1.size (fun j hj => by cases hj; exact HH.out.2.2.2.1)
    have hb3 : Blk w3 w.heap.size 156 #[.slice (some ⟨g, 0, none⟩) xs.length cp] := (hgr.block _ HH.out.1.lt (by simp; exact fun e => HH.out.2.2.2.2.2 e)).trans HH.out.1
    have d3 : w3.cell? ⟨w.heap.size, 0, none⟩ = some (.slice (some ⟨g, 0, none⟩) xs.length cp) := hb3.cell 0
    obtain ⟨I, hI⟩ : ∃ I : Nat, I = (xs.length - 1) / 2 := ⟨_, rfl⟩
    have hI1 : ((xs.length : Int) - 1) / 2 = (I : Int) := by omega
    have hI2 : I < xs.length := by omega
    have c3 : w3.cell? ⟨g, I, none⟩ = some (.int .i64 (medI xs)) := by
      have h1 := (hH3 I (by simp [srt_len]; exact hI2)).1
      rw [Nat.zero_add] at h1
      rw [h1, getElem!_pos _ I (by simp [srt_len]; exact hI2)]
      have h2 := medI_at (l := xs) (by omega)
      rw [← hI] at h2
      have h3 := (List.getElem?_eq_some_iff.1 h2).2
      simp [h3]
    have HF := Lib.hid (And.intro hB3 hI)
    clear hw3 HS hH3 hgr hB3 hb3 d0 hI
    go_wp2_with fail
    go_ret
    exact ⟨rfl, HF.out.1⟩
theorem common_any (S : Nat → Prop) (n : Int) (a : Option Addr) (len cap : Nat) (L : List Hd) (w : World) (hrd : RdHs S w a len L) (hm1 : len ≤ cap) (hm2 : cap ≤ maxLen) :
    Calls Tryz.prog 18 #[.int .i64 n, .slice a len cap] w fun e w' => e = .returned (.int .i64 (commonF n L)) ∧ Below w.heap.size w w' := by
  by_cases h : 4 ≤ n ∧ n ≤ 16
  · exact common_in S n h a len cap L w hrd hm1 hm2
  · have e1 : (decide (4 ≤ n) && decide (n ≤ 16)) = false := by simp; omega
    have e2 : commonF n L = -1 := by unfold commonF; rw [if_neg h]
    rw [e2]
    clear h
    go_enter Tryz.func18, Tryz.ntmps18
    go_wp2_with fail
    refine (agmay_any _ _).mono ?_
    rintro e w' ⟨rfl, rfl⟩
    go_wp2_with fail
    go_ret
    exact ⟨rfl, Below.refl _ _⟩
end Go.Proofs.YtnckfjmaochnkaaGreatDoor
