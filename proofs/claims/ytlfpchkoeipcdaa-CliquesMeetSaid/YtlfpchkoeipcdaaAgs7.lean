/-
  The examples of the ages' chapter.
-/
import Derived.Test.YtlfpchkoeipcdaaAgs3
import Derived.Test.YtlfpchkoeipcdaaAgs5
namespace Go.Proofs.Ytlfpchkoeipcdaa
open Go.RowKit
set_option linter.unusedVariables false
set_option linter.unusedSimpArgs false

def vecH (n : Int) : Hd := if 0 ≤ n then hdAge n else hd0
theorem vecH_ok {n : Int} (h0 : -9223372036854775808 ≤ n) (h1 : n ≤ 9223372036854775807) : (vecH n).ok := by
  unfold vecH
  split
  · exact hdAge_ok h0 h1
  · exact hd0_ok

set_option maxRecDepth 100000 in
set_option maxHeartbeats 1000000 in
theorem agvector_any (a : Option Addr) (len cap : Nat) (ns : List Int) (w : World) (hrd : Rd1 w a len (ns.map (Value.int .i64))) (hns : ∀ n ∈ ns, -9223372036854775808 ≤ n ∧ n ≤ 9223372036854775807) (hlen : len ≤ 1000) :
    Calls Try.prog 27 #[.slice a len cap] w (NewHs w (ns.map vecH)) := by
  have HR := Lib.hid hrd
  have HN := Lib.hid hns
  clear hrd hns
  have hlr := len_cellR
  have hcc := cellR_cell1
  have hzl := len_heldZ
  have hz1 : heldZ.all cell1 = true := by kernel_rfl
  have HO := Lib.hid (OwnHs.nil w 46 w (Below.refl _ _))
  go_enter Try.func27, Try.ntmps27
  go_wp2_with fail
  go_loopw [3, 4] (fun v i wr => ∃ k : Nat, k ≤ len ∧ i = .int .i64 k ∧ OwnHs w 46 v ((ns.map vecH).take k) wr) (fun _ i _ => len - (intOf i).toNat)
  case atStart => exact ⟨0, by omega, rfl, HO.out⟩
  case round =>
    obtain ⟨k, hk, rfl, ho⟩ := hrel
    have hln : ns.length = len := by simpa using HR.out.1
    by_cases hlt : k < len
    · have hv : ns[k]? = some (ns[k]'(by omega)) := List.getElem?_eq_getElem _
      generalize hq : ns[k]'(by omega) = q at hv
      obtain ⟨b, off, rfl, hc⟩ := HR.out.2 k (.int .i64 q) (by rw [List.getElem?_map, hv]; rfl)
      have hbw := World.block_lt_of_cell? w _ hc
      have hbl := ho.2.2
      have g3 : wr.cell? ⟨b, off + k, none⟩ = some (.int .i64 q) := (hbl.cell (p := ⟨b, off + k, none⟩) hbw).trans hc
      have hqb := HN.out q (List.mem_of_getElem? hv)
      have hbr : b < wr.heap.size := Nat.lt_of_lt_of_le hbw hbl.size
      have HO := Lib.hid ho
      have hbase := hbl.size
      have hl1 : ((ns.map vecH).take k).length = k := by rw [List.length_take, List.length_map]; omega
      have HL1 := Lib.hid hl1
      have hpush : ∀ (y : Hd) (v1 : Value) (w1 wm : World), y = vecH q → Below wr.heap.size wr wm → w1.ownsRow w.heap.size 46 56 v1 (((ns.map vecH).take k).length + 1) (((ns.map vecH).take k).flatMap Hd.vals ++ y.vals) → wm.grownBy w1 u3.ownBlock → OwnHs w 46 v1 ((ns.map vecH).take (k + 1)) w1 := fun y v1 w1 wm hy hB ho1 hg => by
        rw [List.take_add_one, List.getElem?_map, hv]
        subst hy
        exact HO.out.push (vecH q) (vecH_ok hqb.1 hqb.2) rfl ho1 (HO.out.2.2.trans (hB.mono hbase)) hg
      have HP := Lib.hid hpush
      clear ho hbl hc hq hv hln hl1 hpush
      by_cases hq0 : 0 ≤ q
      · have bb : Blk (wr.alloc (.cells (Value.bool true :: Value.int .i64 q :: cellR).toArray 46)) wr.heap.size 46 (Value.bool true :: Value.int .i64 q :: cellR).toArray := Blk.new _ _ _
        have bB : Below wr.heap.size wr (wr.alloc (.cells (Value.bool true :: Value.int .i64 q :: cellR).toArray 46)) := (Below.refl _ _).alloc (Nat.le_refl _) _
        have hown := own_block HO.out.1 (w' := wr.alloc (.cells (Value.bool true :: Value.int .i64 q :: cellR).toArray 46)) (fun q hq => bB.block q (HO.out.1.lt q hq).2)
        have HPP := Lib.hid (fun v1 w1 wm' => HP.out (hdAge q) v1 w1 wm' (by simp [vecH, hq0]))
        have hyl : (Value.bool true :: Value.int .i64 q :: cellR).length = 56 := by simp [hlr]
        have hyc : (Value.bool true :: Value.int .i64 q :: cellR).all cell1 = true := by simp [hcc, hz1, cell1]
        go_upto_region 8 with fail
        generalize wr.alloc (.cells (Value.bool true :: Value.int .i64 q :: cellR).toArray 46) = wm at bb bB hown ⊢
        obtain ⟨r1, r2, -⟩ := bb.whole hyl
        have HBB := Lib.hid (And.intro hown bB)
        have hbm := bB.size
        clear bb bB hown
        go_wp2_with (at_builtin; refine wpList_app app_held (by rfl) (.tmp 24) (.tmp 26) (by rfl) w.heap.size _ _ _ (by rfl) (HBB.out.1.alloc _) ⟨wm.heap.size, 0, none⟩ 1 1 (Value.bool true :: Value.int .i64 q :: cellR) (by rfl) (by simp [hlr]) (hasRow_new wm _ _ 0 56 (by simp [hlr])) ((rowOf_new wm _ _ 0 56 (by simp [hlr])).trans (List.take_of_length_le (by simp [hlr]))) hyc (by rw [HL1.out]; omega) (by simp; omega) ?_; intro v1 w1 hown1 hgrow; have HG := Lib.hid (And.intro hown1 hgrow); clear hown1 hgrow)
        refine ⟨⟨k + 1, by omega, by go_num, HPP.out v1 w1 _ (HBB.out.2.alloc hbm _) HG.out.1 HG.out.2⟩, by simp [intOf]; omega⟩
      · have bb : Blk (wr.alloc (.cells (heldZ).toArray 46)) wr.heap.size 46 (heldZ).toArray := Blk.new _ _ _
        have bB : Below wr.heap.size wr (wr.alloc (.cells (heldZ).toArray 46)) := (Below.refl _ _).alloc (Nat.le_refl _) _
        have hown := own_block HO.out.1 (w' := wr.alloc (.cells (heldZ).toArray 46)) (fun q hq => bB.block q (HO.out.1.lt q hq).2)
        have HPP := Lib.hid (fun v1 w1 wm' => HP.out hd0 v1 w1 wm' (by simp [vecH, hq0]))
        have hyl : (heldZ).length = 56 := hzl
        have hyc : (heldZ).all cell1 = true := hz1
        go_upto_region 8 with fail
        generalize wr.alloc (.cells (heldZ).toArray 46) = wm at bb bB hown ⊢
        obtain ⟨r1, r2, -⟩ := bb.whole hyl
        have HBB := Lib.hid (And.intro hown bB)
        have hbm := bB.size
        clear bb bB hown
        go_wp2_with (at_builtin; refine wpList_app app_held (by rfl) (.tmp 24) (.tmp 26) (by rfl) w.heap.size _ _ _ (by rfl) (HBB.out.1.alloc _) ⟨wm.heap.size, 0, none⟩ 1 1 (heldZ) (by rfl) (by simp [hzl]) (hasRow_new wm _ _ 0 56 (by simp [hzl])) ((rowOf_new wm _ _ 0 56 (by simp [hzl])).trans (List.take_of_length_le (by simp [hzl]))) hyc (by rw [HL1.out]; omega) (by simp; omega) ?_; intro v1 w1 hown1 hgrow; have HG := Lib.hid (And.intro hown1 hgrow); clear hown1 hgrow)
        refine ⟨⟨k + 1, by omega, by go_num, HPP.out v1 w1 _ (HBB.out.2.alloc hbm _) HG.out.1 HG.out.2⟩, by simp [intOf]; omega⟩
    · have : k = len := by omega
      subst this
      rw [List.take_of_length_le (by rw [List.length_map]; omega)] at ho
      have HO := Lib.hid ho
      clear ho
      go_wp2_with fail
      go_ret
      exact HO.out.new
end Go.Proofs.Ytlfpchkoeipcdaa
