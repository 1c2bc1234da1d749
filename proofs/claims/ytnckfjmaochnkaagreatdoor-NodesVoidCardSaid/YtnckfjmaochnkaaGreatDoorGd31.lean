/-
  Configs (chapter 4): is none of some twice there? Configs (chapter 4): the rules that ask one thing.
-/
import Derived.Sort.OwnSortedInts
import Derived.Shelf.Slices.CompactI
import Derived.Test.YtnckfjmaochnkaaGreatDoorGd30
namespace Go.Proofs.YtnckfjmaochnkaaGreatDoor
open Go.Shelf Go.RowKit
open Go.Sort (Holds grow)
set_option linter.unusedVariables false
set_option linter.unusedSimpArgs false

theorem appendSeq_any (Bs : Nat) (sv : Value) (zs : List Int) (hlen : zs.length ≤ 1000000) (w : World) (hBs : Bs < w.heap.size) (hc0 : w.cell? ⟨Bs, 0, none⟩ = some sv) (hI : IntsB w.heap.size w sv zs) :
    Calls Tryz.prog 237 #[.slice none 0 0, .func (.func 226) #[] #[.pointer (some ⟨Bs, 0, none⟩)]] w fun e W' => ∃ v, e = .returned v ∧ W'.ownsRow w.heap.size 3 1 v zs.length (ints zs) ∧ Below w.heap.size w W' :=
  (callsIn_wide (n := 5)).1 (appendSeq_in Fence.wide 5 trivial trivial rfl (by omega) Bs sv zs hlen w hBs hc0 hI)
theorem RdZ.intsB {S : Nat → Prop} {w : World} {a : Option Addr} {len cap : Nat} {zs : List Int} (h : RdZ S w a len zs) : IntsB w.heap.size w (.slice a len cap) zs := by
  by_cases h0 : len = 0
  · exact .inl ⟨a, cap, by rw [h0], List.eq_nil_of_length_eq_zero (by rw [h.1, h0])⟩
  · obtain ⟨b, off, z, rfl, hS, hb, hz, hc⟩ := h.at_ (k := 0) (by omega)
    refine .inr ⟨b, off, cap, by rw [h.1], hb, fun j hj => ?_⟩
    obtain ⟨b2, off2, z2, e2, _, _, hz2, hc2⟩ := h.at_ (k := j) (by rw [← h.1]; exact hj)
    cases e2
    rw [hz2]
    exact hc2
theorem values_any (a : Option Addr) (len cap : Nat) (w : World) : Calls Tryz.prog 177 #[.slice a len cap] w fun e w' => e = .returned (.func (.func 226) #[] #[.pointer (some ⟨w.heap.size, 0, none⟩)]) ∧ w' = w.alloc (.cells #[.slice a len cap] 23) := by
  have hmf : ∀ (fn : Fn) (first cap : Array Value) (w : World), (Instr.makeFunc fn first cap).run Tryz.prog w = .ok (.func fn first cap) w := fun _ _ _ _ => rfl
  go_enter Tryz.func177, Tryz.ntmps177
  go_wp2
  go_ret
  exact ⟨rfl, rfl⟩
theorem collect_any (Bs : Nat) (sv : Value) (zs : List Int) (hlen : zs.length ≤ 1000000) (w : World) (hBs : Bs < w.heap.size) (hc0 : w.cell? ⟨Bs, 0, none⟩ = some sv) (hI : IntsB w.heap.size w sv zs) :
    Calls Tryz.prog 201 #[.func (.func 226) #[] #[.pointer (some ⟨Bs, 0, none⟩)]] w fun e W' => ∃ v, e = .returned v ∧ W'.ownsRow w.heap.size 3 1 v zs.length (ints zs) ∧ Below w.heap.size w W' := by
  have H := Lib.hid (appendSeq_any Bs sv zs hlen w hBs hc0 hI)
  clear hc0 hI
  go_enter Tryz.func201, Tryz.ntmps201
  go_wp2_with fail
  · (with_reducible refine H.out.mono ?_)
    rintro e W ⟨v, rfl, hr, hb⟩
    go_wp2_with fail
    go_ret
    exact ⟨v, rfl, hr, hb⟩
theorem grownBy_put {w : World} {g n : Nat} (d : Array Int) : w.grownBy (Go.Sort.putRow (Value.int .i64) (Sort.ahead w n) g 0 d) (some g) := by
  refine ⟨rfl, rfl, rfl, by simp [Go.Sort.putRow, Go.Sort.mapBlock, Sort.ahead], fun k hk hne => ?_⟩
  have : g ≠ k := fun e => hne (by rw [e])
  simp [Go.Sort.putRow, Go.Sort.mapBlock, Sort.ahead, Array.getElem?_modify, this]
theorem sorted1_any (Bs : Nat) (sv : Value) (zs : List Int) (hlen : zs.length ≤ 1000000) (w : World) (hBs : Bs < w.heap.size) (hc0 : w.cell? ⟨Bs, 0, none⟩ = some sv) (hI : IntsB w.heap.size w sv zs) :
    Calls Tryz.prog 176 #[.func (.func 226) #[] #[.pointer (some ⟨Bs, 0, none⟩)]] w fun e W' => ∃ v, e = .returned v ∧ W'.ownsRow w.heap.size 3 1 v zs.length (ints (srtI zs)) ∧ Below w.heap.size w W' := by
  have H := Lib.hid (collect_any Bs sv zs hlen w hBs hc0 hI)
  clear hc0 hI
  go_enter Tryz.func176, Tryz.ntmps176
  go_wp2_with fail
  · (with_reducible refine H.out.mono ?_)
    rintro e W ⟨v, rfl, hr, hb⟩
    rcases hr.2 with ⟨rfl, hn⟩ | ⟨g, cap, cur, rfl, hg, hgb, hn, hcap, hsz, htk⟩
    · have hz : zs = [] := List.eq_nil_of_length_eq_zero hn
      subst hz
      have HS := Lib.hid (sorti_none none 0 W)
      go_wp2_with fail
      · (with_reducible refine HS.out.mono ?_)
        rintro e W2 ⟨rfl, rfl⟩
        go_wp2_with fail
        go_ret
        exact ⟨_, rfl, by simpa [srtI] using hr, hb⟩
    · have hH : Holds (Value.int .i64) W g 0 zs.toArray := holds_of_blockI hgb (by simpa [ints] using htk)
      have HS := Lib.hid (sorti_some g 0 cap zs W hH (Array.getElem?_eq_some_iff.1 hgb).1 (by omega))
      clear hH
      go_wp2_with fail
      · (with_reducible refine HS.out.mono ?_)
        rintro e W2 ⟨rfl, n, os, rfl⟩
        go_wp2_with fail
        go_ret
        exact ⟨_, rfl, ownsRow_sortedI (srtI_len zs) hg hgb hn hcap hsz, hb.grown (grownBy_sortedI _) hb.size (by intro k hk; cases hk; exact hg)⟩
def comp_ren : Go.Shelf.Ren := ⟨fun | 20 => 178 | n => n, fun | 22 => 23 | 3 => 3 | 0 => 0 | 4 => 4 | n => n, fun | n => n⟩
theorem compL : Lays2.n20 Tryz.prog comp_ren := {
  mixed := by kernel_rfl,
  f20 := Tryz.func178.trans (congrArg some (by kernel_rfl)),
  t0 := Tryz.underlying0,
  a0 := Tryz.isAgg0,
  z0 := Tryz.sizeOf0,
  v0 := Tryz.zeroValue0,
  t3 := Tryz.underlying3,
  a3 := Tryz.isAgg3,
  z3 := Tryz.sizeOf3,
  v3 := Tryz.zeroValue3,
  t4 := Tryz.underlying4,
  a4 := Tryz.isAgg4,
  z4 := Tryz.sizeOf4,
  v4 := Tryz.zeroValue4,
  t22 := Tryz.underlying23,
  a22 := Tryz.isAgg23,
  z22 := Tryz.sizeOf23,
  v22 := Tryz.zeroValue23,
  i3 := infoInt }
theorem compact_some (blk off cap : Nat) (zs : List Int) (w : World) (hH : Holds (Value.int .i64) w blk off zs.toArray) (hsz : zs.length ≤ 9223372036854775807) (hcap : zs.length ≤ cap) :
    Calls Tryz.prog 178 #[.slice (some ⟨blk, off, none⟩) zs.length cap] w fun e w' => e = .returned (.slice (some ⟨blk, off, none⟩) (Lib.compact zs).length cap) ∧ ∃ q, w' = Go.Sort.putRow (Value.int .i64) (Sort.ahead w q) blk off (Lib.compact zs ++ List.replicate (zs.length - (Lib.compact zs).length) 0).toArray := Any.slices_Compact_int compL blk off cap zs w hH hsz hcap
theorem compact_none (a : Option Addr) (cap : Nat) (w : World) : Calls Tryz.prog 178 #[.slice a 0 cap] w fun e w' => e = .returned (.slice a 0 cap) ∧ w' = w := Any.slices_Compact_int_empty compL a cap w
/-- the ints, sorted, with none of them twice in a row -/
def singleB (l : List Int) : Bool := (Lib.compact (srtI l)).length == l.length
theorem single_any (S : Nat → Prop) (a : Option Addr) (len cap : Nat) (zs : List Int) (hlen : len ≤ 1000000) (w : World) (h : RdZ S w a len zs) :
    Calls Tryz.prog 117 #[.slice a len cap] w fun e W' => e = .returned (.bool (singleB zs)) ∧ Below w.heap.size w W' := by
  have hl : zs.length ≤ 1000000 := by rw [h.1]; exact hlen
  have HV := Lib.hid (values_any a len cap w)
  have hB0 : Below w.heap.size w (w.alloc (.cells #[.slice a len cap] 23)) := (Below.refl _ w).alloc (Nat.le_refl _) _
  have HS := Lib.hid (sorted1_any w.heap.size (.slice a len cap) zs hl (w.alloc (.cells #[.slice a len cap] 23)) (by simp) ((Blk.new w _ _).cell 0) (by have := (h.intsB (cap := cap)).below hB0; rcases this with ⟨a, c, e, hz⟩ | ⟨b, o, c, e, hb, hc⟩; exact .inl ⟨a, c, e, hz⟩; exact .inr ⟨b, o, c, e, by simp; omega, hc⟩))
  clear h
  go_enter Tryz.func117, Tryz.ntmps117
  go_wp2_with fail
  · (with_reducible refine HV.out.mono ?_)
    rintro e W ⟨rfl, rfl⟩
    go_wp2_with fail
    · (with_reducible refine HS.out.mono ?_)
      rintro e W ⟨v, rfl, hr, hb⟩
      have hbw := hB0.trans (hb.mono (by simp))
      rcases hr.2 with ⟨rfl, hn⟩ | ⟨g, cap', cur, rfl, hg, hgb, hn, hcap, hsz, htk⟩
      · have hz : zs = [] := List.eq_nil_of_length_eq_zero hn
        subst hz
        have HC := Lib.hid (compact_none none 0 W)
        go_wp2_with fail
        · (with_reducible refine HC.out.mono ?_)
          rintro e W2 ⟨rfl, rfl⟩
          go_wp2_with fail
          go_ret
          have h0 : singleB [] = true := by simp [singleB, srtI, Lib.compact, Lib.compactUpTo]
          exact ⟨by rw [h0]; rfl, hbw⟩
      · have hH : Holds (Value.int .i64) W g 0 (srtI zs).toArray := holds_of_blockI hgb (by rw [srtI_len]; simpa [ints] using htk)
        have HC := Lib.hid (compact_some g 0 cap' (srtI zs) W hH (by rw [srtI_len]; omega) (by rw [srtI_len]; exact hn))
        rw [srtI_len] at HC
        clear hH
        go_wp2_with fail
        · (with_reducible refine HC.out.mono ?_)
          rintro e W2 ⟨rfl, q, rfl⟩
          go_wp2_with fail
          go_ret
          refine ⟨?_, hbw.grown (grownBy_put _) hbw.size (by intro k hk; cases hk; simp at hg; omega)⟩
          simp [singleB]
          rw [Bool.eq_iff_iff]
          simp only [beq_iff_eq]
          omega
end Go.Proofs.YtnckfjmaochnkaaGreatDoor
namespace Go.Proofs.YtnckfjmaochnkaaGreatDoor
open Go.RowKit
set_option linter.unusedVariables false
set_option linter.unusedSimpArgs false

/-- a rule says e of a config, and touches nothing -/
def RuS (e : Int) (w : World) (r : Ending) (w' : World) : Prop := r = .returned (.int .i64 e) ∧ Below w.heap.size w w'
set_option maxRecDepth 100000 in
set_option maxHeartbeats 1000000 in
theorem r1_any (A : CfA) (c : Cfg) (w : World) : Calls Tryz.prog 110 #[.agg (cfV A c).toArray] w (RuS (withE c.N 4 16) w) := by
  obtain ⟨pa, pn, pc, sa, sn, sc, ba, bn, bc, ta, tn, tc⟩ := A
  obtain ⟨cv, hcv⟩ : ∃ cv, cv = cfV ⟨pa, pn, pc, sa, sn, sc, ba, bn, bc, ta, tn, tc⟩ c := ⟨_, rfl⟩
  rw [← hcv]
  have HCV := Lib.hid hcv
  clear hcv
  go_enter Tryz.func110, Tryz.ntmps110
  go_upto_region 1 with fail
  have HB0 : Hid (Below w.heap.size w (w.alloc (.cells cv.toArray 26)) ∧ Blk (w.alloc (.cells cv.toArray 26)) w.heap.size 26 cv.toArray) := Lib.hid ⟨(Below.refl _ _).alloc (Nat.le_refl _) _, Blk.new _ _ _⟩
  generalize w.alloc (.cells cv.toArray 26) = w0 at HB0 ⊢
  rw [HCV.out] at HB0
  obtain ⟨c0, c1, c2, c3, c4, c5, c6, c7, c8⟩ := cfV_cells HB0.out.2
  have c0 : w0.cell? ⟨w.heap.size, 0, none⟩ = some (.int .i64 c.N) := c0
  have c1 : w0.cell? ⟨w.heap.size, 1, none⟩ = some (.slice pa pn pc) := c1
  have c2 : w0.cell? ⟨w.heap.size, 2, none⟩ = some (.slice sa sn sc) := c2
  have c3 : w0.cell? ⟨w.heap.size, 3, none⟩ = some (.int .i64 c.lo) := c3
  have c4 : w0.cell? ⟨w.heap.size, 4, none⟩ = some (.slice ba bn bc) := c4
  have c5 : w0.cell? ⟨w.heap.size, 5, none⟩ = some (.slice ta tn tc) := c5
  have c6 : w0.cell? ⟨w.heap.size, 6, none⟩ = some (.int .i64 c.mi) := c6
  have c7 : w0.cell? ⟨w.heap.size, 7, none⟩ = some (.int .i64 c.go) := c7
  have c8 : w0.cell? ⟨w.heap.size, 8, none⟩ = some (.int .i64 c.fr) := c8
  have HW := Lib.hid (within_any c.N 4 16 w0)
  go_wp2_with fail
  (with_reducible refine HW.out.mono ?_)
  rintro e w' ⟨rfl, rfl⟩
  go_wp2_with fail
  go_ret
  exact ⟨rfl, HB0.out.1⟩
set_option maxRecDepth 100000 in
set_option maxHeartbeats 1000000 in
theorem r2_any (A : CfA) (c : Cfg) (w : World) : Calls Tryz.prog 112 #[.agg (cfV A c).toArray] w (RuS (withE A.pn 2 8) w) := by
  obtain ⟨pa, pn, pc, sa, sn, sc, ba, bn, bc, ta, tn, tc⟩ := A
  obtain ⟨cv, hcv⟩ : ∃ cv, cv = cfV ⟨pa, pn, pc, sa, sn, sc, ba, bn, bc, ta, tn, tc⟩ c := ⟨_, rfl⟩
  rw [← hcv]
  have HCV := Lib.hid hcv
  clear hcv
  go_enter Tryz.func112, Tryz.ntmps112
  go_upto_region 1 with fail
  have HB0 : Hid (Below w.heap.size w (w.alloc (.cells cv.toArray 26)) ∧ Blk (w.alloc (.cells cv.toArray 26)) w.heap.size 26 cv.toArray) := Lib.hid ⟨(Below.refl _ _).alloc (Nat.le_refl _) _, Blk.new _ _ _⟩
  generalize w.alloc (.cells cv.toArray 26) = w0 at HB0 ⊢
  rw [HCV.out] at HB0
  obtain ⟨c0, c1, c2, c3, c4, c5, c6, c7, c8⟩ := cfV_cells HB0.out.2
  have c0 : w0.cell? ⟨w.heap.size, 0, none⟩ = some (.int .i64 c.N) := c0
  have c1 : w0.cell? ⟨w.heap.size, 1, none⟩ = some (.slice pa pn pc) := c1
  have c2 : w0.cell? ⟨w.heap.size, 2, none⟩ = some (.slice sa sn sc) := c2
  have c3 : w0.cell? ⟨w.heap.size, 3, none⟩ = some (.int .i64 c.lo) := c3
  have c4 : w0.cell? ⟨w.heap.size, 4, none⟩ = some (.slice ba bn bc) := c4
  have c5 : w0.cell? ⟨w.heap.size, 5, none⟩ = some (.slice ta tn tc) := c5
  have c6 : w0.cell? ⟨w.heap.size, 6, none⟩ = some (.int .i64 c.mi) := c6
  have c7 : w0.cell? ⟨w.heap.size, 7, none⟩ = some (.int .i64 c.go) := c7
  have c8 : w0.cell? ⟨w.heap.size, 8, none⟩ = some (.int .i64 c.fr) := c8
  have HW := Lib.hid (within_any pn 2 8 w0)
  go_wp2_with fail
  (with_reducible refine HW.out.mono ?_)
  rintro e w' ⟨rfl, rfl⟩
  go_wp2_with fail
  go_ret
  exact ⟨rfl, HB0.out.1⟩
set_option maxRecDepth 100000 in
set_option maxHeartbeats 1000000 in
theorem r4_any (A : CfA) (c : Cfg) (w : World) : Calls Tryz.prog 118 #[.agg (cfV A c).toArray] w (RuS (withE A.sn 1 16) w) := by
  obtain ⟨pa, pn, pc, sa, sn, sc, ba, bn, bc, ta, tn, tc⟩ := A
  obtain ⟨cv, hcv⟩ : ∃ cv, cv = cfV ⟨pa, pn, pc, sa, sn, sc, ba, bn, bc, ta, tn, tc⟩ c := ⟨_, rfl⟩
  rw [← hcv]
  have HCV := Lib.hid hcv
  clear hcv
  go_enter Tryz.func118, Tryz.ntmps118
  go_upto_region 1 with fail
  have HB0 : Hid (Below w.heap.size w (w.alloc (.cells cv.toArray 26)) ∧ Blk (w.alloc (.cells cv.toArray 26)) w.heap.size 26 cv.toArray) := Lib.hid ⟨(Below.refl _ _).alloc (Nat.le_refl _) _, Blk.new _ _ _⟩
  generalize w.alloc (.cells cv.toArray 26) = w0 at HB0 ⊢
  rw [HCV.out] at HB0
  obtain ⟨c0, c1, c2, c3, c4, c5, c6, c7, c8⟩ := cfV_cells HB0.out.2
  have c0 : w0.cell? ⟨w.heap.size, 0, none⟩ = some (.int .i64 c.N) := c0
  have c1 : w0.cell? ⟨w.heap.size, 1, none⟩ = some (.slice pa pn pc) := c1
  have c2 : w0.cell? ⟨w.heap.size, 2, none⟩ = some (.slice sa sn sc) := c2
  have c3 : w0.cell? ⟨w.heap.size, 3, none⟩ = some (.int .i64 c.lo) := c3
  have c4 : w0.cell? ⟨w.heap.size, 4, none⟩ = some (.slice ba bn bc) := c4
  have c5 : w0.cell? ⟨w.heap.size, 5, none⟩ = some (.slice ta tn tc) := c5
  have c6 : w0.cell? ⟨w.heap.size, 6, none⟩ = some (.int .i64 c.mi) := c6
  have c7 : w0.cell? ⟨w.heap.size, 7, none⟩ = some (.int .i64 c.go) := c7
  have c8 : w0.cell? ⟨w.heap.size, 8, none⟩ = some (.int .i64 c.fr) := c8
  have HW := Lib.hid (within_any sn 1 16 w0)
  go_wp2_with fail
  (with_reducible refine HW.out.mono ?_)
  rintro e w' ⟨rfl, rfl⟩
  go_wp2_with fail
  go_ret
  exact ⟨rfl, HB0.out.1⟩
set_option maxRecDepth 100000 in
set_option maxHeartbeats 1000000 in
theorem r8_any (A : CfA) (c : Cfg) (w : World) : Calls Tryz.prog 125 #[.agg (cfV A c).toArray] w (RuS (withE A.tn 0 8) w) := by
  obtain ⟨pa, pn, pc, sa, sn, sc, ba, bn, bc, ta, tn, tc⟩ := A
  obtain ⟨cv, hcv⟩ : ∃ cv, cv = cfV ⟨pa, pn, pc, sa, sn, sc, ba, bn, bc, ta, tn, tc⟩ c := ⟨_, rfl⟩
  rw [← hcv]
  have HCV := Lib.hid hcv
  clear hcv
  go_enter Tryz.func125, Tryz.ntmps125
  go_upto_region 1 with fail
  have HB0 : Hid (Below w.heap.size w (w.alloc (.cells cv.toArray 26)) ∧ Blk (w.alloc (.cells cv.toArray 26)) w.heap.size 26 cv.toArray) := Lib.hid ⟨(Below.refl _ _).alloc (Nat.le_refl _) _, Blk.new _ _ _⟩
  generalize w.alloc (.cells cv.toArray 26) = w0 at HB0 ⊢
  rw [HCV.out] at HB0
  obtain ⟨c0, c1, c2, c3, c4, c5, c6, c7, c8⟩ := cfV_cells HB0.out.2
  have c0 : w0.cell? ⟨w.heap.size, 0, none⟩ = some (.int .i64 c.N) := c0
  have c1 : w0.cell? ⟨w.heap.size, 1, none⟩ = some (.slice pa pn pc) := c1
  have c2 : w0.cell? ⟨w.heap.size, 2, none⟩ = some (.slice sa sn sc) := c2
  have c3 : w0.cell? ⟨w.heap.size, 3, none⟩ = some (.int .i64 c.lo) := c3
  have c4 : w0.cell? ⟨w.heap.size, 4, none⟩ = some (.slice ba bn bc) := c4
  have c5 : w0.cell? ⟨w.heap.size, 5, none⟩ = some (.slice ta tn tc) := c5
  have c6 : w0.cell? ⟨w.heap.size, 6, none⟩ = some (.int .i64 c.mi) := c6
  have c7 : w0.cell? ⟨w.heap.size, 7, none⟩ = some (.int .i64 c.go) := c7
  have c8 : w0.cell? ⟨w.heap.size, 8, none⟩ = some (.int .i64 c.fr) := c8
  have HW := Lib.hid (within_any tn 0 8 w0)
  go_wp2_with fail
  (with_reducible refine HW.out.mono ?_)
  rintro e w' ⟨rfl, rfl⟩
  go_wp2_with fail
  go_ret
  exact ⟨rfl, HB0.out.1⟩
end Go.Proofs.YtnckfjmaochnkaaGreatDoor
