/-
  sennitlaw15.said, walked.
-/
import Derived.Test.YtphbmnjkhgfnoaaAgr9
namespace Go.Proofs.Ytphbmnjkhgfnoaa
open Go.RowKit
set_option linter.unusedVariables false
set_option linter.unusedSimpArgs false

set_option maxRecDepth 100000 in
set_option maxHeartbeats 2000000 in
theorem said4_any (age : Int) (h0 : 0 ≤ age) (h1 : age ≤ 100) (w : World) :
    Calls Try.prog 55 #[.int .i64 4, .int .i64 0, .int .i64 age] w (RowPost (sdR age) w) := by
  have hok := sdR_ok h0 h1
  have hho := sdH_ok h0 h1
  have hhl := Hd.vals_len hho
  have hhc := Hd.cell1 hho
  have hm4 : madeOk (.int .i64 4) (.int .i64 4) = true := by decide
  have hv4 : lenV (.int .i64 4) = 4 := by decide
  have HK := Lib.hid (And.intro hok hho)
  clear hok hho
  go_enter Try.func55, Try.ntmps55
  go_upto_region 2 with fail
  have b0 : Blk (((w.alloc (.cells rowZ.toArray 62)).alloc (.cells (zrep heldZ 4).toArray 60)).alloc (.cells (Value.bool true :: (cellZ ++ [Value.slice (some ⟨w.heap.size + 1, 0, none⟩) 4 4])).toArray 62)) w.heap.size 62 rowZ.toArray := ((Blk.new _ _ _).alloc _).alloc _
  have b1 : Blk (((w.alloc (.cells rowZ.toArray 62)).alloc (.cells (zrep heldZ 4).toArray 60)).alloc (.cells (Value.bool true :: (cellZ ++ [Value.slice (some ⟨w.heap.size + 1, 0, none⟩) 4 4])).toArray 62)) (w.heap.size + 1) 60 (zrep heldZ 4).toArray := (new1 _ _ _ _).alloc _
  have b2 : Blk (((w.alloc (.cells rowZ.toArray 62)).alloc (.cells (zrep heldZ 4).toArray 60)).alloc (.cells (Value.bool true :: (cellZ ++ [Value.slice (some ⟨w.heap.size + 1, 0, none⟩) 4 4])).toArray 62)) (w.heap.size + 1 + 1) 62 (Value.bool true :: (cellZ ++ [Value.slice (some ⟨w.heap.size + 1, 0, none⟩) 4 4])).toArray := new2 _ _ _ _ _
  have bB : Below w.heap.size w (((w.alloc (.cells rowZ.toArray 62)).alloc (.cells (zrep heldZ 4).toArray 60)).alloc (.cells (Value.bool true :: (cellZ ++ [Value.slice (some ⟨w.heap.size + 1, 0, none⟩) 4 4])).toArray 62)) := (((Below.refl _ _).alloc (Nat.le_refl _) _).alloc (by simp) _).alloc (by simp; omega) _
  generalize (((w.alloc (.cells rowZ.toArray 62)).alloc (.cells (zrep heldZ 4).toArray 60)).alloc (.cells (Value.bool true :: (cellZ ++ [Value.slice (some ⟨w.heap.size + 1, 0, none⟩) 4 4])).toArray 62)) = w0 at b0 b1 b2 bB ⊢
  have hzc := len_cellZ
  have hrl : (Value.bool true :: (cellZ ++ [Value.slice (some ⟨w.heap.size + 1, 0, none⟩) 4 4])).length = 57 := by simp [hzc]
  have hrc : (Value.bool true :: (cellZ ++ [Value.slice (some ⟨w.heap.size + 1, 0, none⟩) 4 4])).all cell1 = true := by
    have := cellZ_cell1
    simp [List.all_append, cell1] at this ⊢; exact this
  have f56 : w0.cell? ⟨w.heap.size + 1 + 1, 56, none⟩ = some (.slice (some ⟨w.heap.size + 1, 0, none⟩) 4 4) := by rw [b2.cell]; simp [List.getElem?_append, hzc]
  have b1' : Blk w0 (w.heap.size + 1) 60 (flatH (List.replicate 4 hd0)).toArray := by rw [← flatH_rep]; exact b1
  have hro : ∀ x ∈ List.replicate 4 hd0, x.ok := fun x hx => by rw [List.eq_of_mem_replicate hx]; exact hd0_ok
  have hp1 : canPut w0 ⟨w.heap.size + 1, 0, none⟩ 56 = true := by
    obtain ⟨-, -, -, -, h5⟩ := b1'.rules
    rw [h5, len_flatH hro]; simp
  have hb1n : Blk (putRow w0 ⟨w.heap.size + 1, 0, none⟩ (sdH age).vals) (w.heap.size + 1) 60 (flatH [sdH age, hd0, hd0, hd0]).toArray := by
    have h2 := b1'.put 0 (sdH age).vals
    have h3 := flatH_set hro (k := 0) (by simp) (sdH age) HK.out.2
    have h4 : (List.replicate 4 hd0).set 0 (sdH age) = [sdH age, hd0, hd0, hd0] := rfl
    rw [h4] at h3
    rw [← h3]; exact h2
  have hpo : ∀ (l : List Value) (b : Nat), b ≠ w.heap.size + 1 → (putRow w0 ⟨w.heap.size + 1, 0, none⟩ l).heap[b]? = w0.heap[b]? := fun l b hb => putRow_other _ _ _ _ hb
  have b0n : Blk (putRow w0 ⟨w.heap.size + 1, 0, none⟩ (sdH age).vals) w.heap.size 62 rowZ.toArray := (hpo _ _ (by omega)).trans b0
  have b2n : Blk (putRow w0 ⟨w.heap.size + 1, 0, none⟩ (sdH age).vals) (w.heap.size + 1 + 1) 62 (Value.bool true :: (cellZ ++ [Value.slice (some ⟨w.heap.size + 1, 0, none⟩) 4 4])).toArray := (hpo _ _ (by omega)).trans b2
  have bBn := Below.put bB (p := ⟨w.heap.size + 1, 0, none⟩) (Nat.le_succ _) (sdH age).vals
  have hvals : (sdH age).vals = Value.bool true :: Value.int .i64 age :: cellR := rfl
  generalize hw1 : putRow w0 ⟨w.heap.size + 1, 0, none⟩ (sdH age).vals = w1 at hb1n b0n b2n bBn
  rw [hvals] at hw1 hhc hhl
  obtain ⟨q1, q2, -⟩ := b2n.whole (n := 57) hrl
  obtain ⟨-, -, q3⟩ := b0n.whole (n := 57) len_rowZ
  obtain ⟨p1, p2, -⟩ := (b0n.put_all (l := Value.bool true :: (cellZ ++ [Value.slice (some ⟨w.heap.size + 1, 0, none⟩) 4 4])) (by rw [len_rowZ, hrl])).whole (n := 57) hrl
  have hfin : RowPost (sdR age) w (.returned (.agg ((sdR age).vals (.slice (some ⟨w.heap.size + 1, 0, none⟩) 4 4)).toArray)) (putRow w1 ⟨w.heap.size, 0, none⟩ (Value.bool true :: (cellZ ++ [Value.slice (some ⟨w.heap.size + 1, 0, none⟩) 4 4]))) := by
    refine ⟨_, rfl, ⟨_, 4, 4, rfl, ?_, Nat.le_refl _, by simp [maxLen]⟩, Below.put bBn (p := ⟨w.heap.size, 0, none⟩) (Nat.le_refl _) _⟩
    have h3 : Blk (putRow w1 ⟨w.heap.size, 0, none⟩ (Value.bool true :: (cellZ ++ [Value.slice (some ⟨w.heap.size + 1, 0, none⟩) 4 4]))) (w.heap.size + 1) 60 (flatH [sdH age, hd0, hd0, hd0] ++ []).toArray := by
      rw [List.append_nil]
      exact (putRow_other _ _ _ _ (by show w.heap.size + 1 ≠ _; simp)).trans hb1n
    exact (RdHs.of_blk h3 HK.out.1.2).mono (fun b _ h => by omega)
  have HP := Lib.hid (And.intro p1 (And.intro p2 hfin))
  clear b0 b1 b2 bB b1' hro hb1n hpo b0n b2n bBn p1 p2 hfin hvals
  go_wp2_with fail
  try simp only [Exit.inBlock, Exit.then]
  first | refine bodyPost_ret (ret_row (n := 57) rfl (by kernel_rfl) _ _ _ rfl ?_) rfl ?_ | refine bodyPost_end (ret_row (n := 57) rfl (by kernel_rfl) _ _ _ rfl ?_) rfl ?_
  · exact HP.out.1
  · rw [HP.out.2.1]; exact HP.out.2.2
end Go.Proofs.Ytphbmnjkhgfnoaa
