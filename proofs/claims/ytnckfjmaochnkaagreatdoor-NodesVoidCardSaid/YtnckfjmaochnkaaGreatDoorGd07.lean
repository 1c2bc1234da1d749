/-
  words.Plain.
-/
import Derived.Test.YtnckfjmaochnkaaGreatDoorGd06
namespace Go.Proofs.YtnckfjmaochnkaaGreatDoor
open Go.RowKit
set_option linter.unusedVariables false
set_option linter.unusedSimpArgs false

/-- a row with its table, in a world -/
def RowR (S : Nat → Prop) (w : World) (r : Rw) (tv : Value) : Prop := ∃ x m cap, tv = .slice x m cap ∧ RdHs S w x m r.t ∧ m ≤ cap ∧ cap ≤ maxLen
def PlainPost (n : Int) (r : Rw) (w : World) (e : Ending) (w' : World) : Prop :=
  ∃ tv, e = .returned (.agg ((r.plain n).vals tv).toArray) ∧ RowR (w.heap.size ≤ ·) w' (r.plain n) tv ∧ Below w.heap.size w w'

/-- the table's room, up to its capacity, may be written -/
def RoomV (S : Nat → Prop) (w : World) (tv : Value) : Prop := ∀ x m cap, tv = .slice x m cap → ∀ k, k < cap → ∃ b off cur, x = some ⟨b, off, none⟩ ∧ S b ∧ w.heap[b]? = some (.cells cur 152 (0, 0)) ∧ off + k * 56 + 56 ≤ cur.size
theorem lt_of_some {w : World} {b : Nat} {o : Obj} (h : w.heap[b]? = some o) : b < w.heap.size := by
  rcases Nat.lt_or_ge b w.heap.size with hlt | hge
  · exact hlt
  · rw [Array.getElem?_eq_none hge] at h; cases h
theorem RoomV.keep {S : Nat → Prop} {w w' : World} {tv : Value} (h : RoomV S w tv) (hk : ∀ b, S b → b < w.heap.size → w'.heap[b]? = w.heap[b]?) : RoomV S w' tv := fun x m cap e k hlt => by
  obtain ⟨b, off, cur, h1, h2, h3, h4⟩ := h x m cap e k hlt
  exact ⟨b, off, cur, h1, h2, (hk b h2 (lt_of_some h3)).trans h3, h4⟩
theorem RoomV.mono {S S' : Nat → Prop} {w : World} {tv : Value} (h : RoomV S w tv) (hs : ∀ b, b < w.heap.size → S b → S' b) : RoomV S' w tv := fun x m cap e k hlt => by
  obtain ⟨b, off, cur, h1, h2, h3, h4⟩ := h x m cap e k hlt
  exact ⟨b, off, cur, h1, hs b (lt_of_some h3) h2, h3, h4⟩
theorem RoomV.nil (S : Nat → Prop) (w : World) : RoomV S w (.slice none 0 0) := fun x m cap e k hlt => by cases e; omega
theorem RoomV.of_blk {w : World} {g N : Nat} {cs : Array Value} (h : Blk w g 152 cs) (hs : N * 56 ≤ cs.size) (m : Nat) : RoomV (· = g) w (.slice (some ⟨g, 0, none⟩) m N) := fun x m' cap e k hlt => by
  cases e
  have : (k + 1) * 56 ≤ N * 56 := Nat.mul_le_mul_right _ hlt
  exact ⟨g, 0, cs, rfl, rfl, h, by omega⟩
/-- a row with its table, and the table's room -/
def RowX (S : Nat → Prop) (w : World) (r : Rw) (tv : Value) : Prop := RowR S w r tv ∧ RoomV S w tv
def PlainW (n : Int) (r : Rw) (w : World) (e : Ending) (w' : World) : Prop :=
  ∃ tv, e = .returned (.agg ((r.plain n).vals tv).toArray) ∧ RowX (w.heap.size ≤ ·) w' (r.plain n) tv ∧ Below w.heap.size w w'

theorem rowR_nil (S : Nat → Prop) (w : World) (r : Rw) (h : r.t = []) : RowR S w r (.slice none 0 0) := ⟨_, _, _, rfl, by rw [h]; exact ⟨rfl, by simp, by simp⟩, Nat.le_refl _, by simp⟩
theorem rowX_nil (S : Nat → Prop) (w : World) (r : Rw) (h : r.t = []) : RowX S w r (.slice none 0 0) := ⟨rowR_nil S w r h, RoomV.nil S w⟩

set_option maxRecDepth 100000 in
set_option maxHeartbeats 1000000 in
theorem plain_any (S : Nat → Prop) (n : Int) (r : Rw) (hr : r.ok) (tv : Value) (w : World) (ht : RowR S w r tv) :
    Calls Tryz.prog 67 #[.int .i64 n, .agg (r.vals tv).toArray] w (PlainW n r w) := by
  obtain ⟨x, m, cap, rfl, ht1, ht2, ht3⟩ := ht
  obtain ⟨is, c, t⟩ := r
  have hcl : c.length = 55 := (okL_len hr.1).trans len_cellK
  have hc1 := okL_cell1 hr.1
  have hnl : (nrm c).length = 55 := (okL_len (nrm_ok hr.1)).trans len_cellK
  have hn1 := okL_cell1 (nrm_ok hr.1)
  have hvl : (Rw.vals ⟨is, c, t⟩ (.slice x m cap)).length = 57 := Rw.len hr _
  have hB : ∀ (l z : List Value) (t t' : TypeId), Below w.heap.size w ((w.alloc (.cells l.toArray t)).alloc (.cells z.toArray t')) := said_frame w
  have HB := Lib.hid hB
  have HK := Lib.hid hr
  have HT := Lib.hid (And.intro ht1 (And.intro ht2 ht3))
  have hg : ∀ l : List Value, Blk ((w.alloc (.cells l.toArray 118)).alloc (.cells rowZ.toArray 118)) (w.heap.size + 1) 118 rowZ.toArray := fun l => by
    have := Blk.new (w.alloc (.cells l.toArray 118)) 118 rowZ.toArray
    have e : (w.alloc (.cells l.toArray 118)).heap.size = w.heap.size + 1 := by simp
    rwa [e] at this
  have HG := Lib.hid hg
  clear hB hr ht1 ht2 ht3 hg
  have bad : ∀ b : Bool, (is && mayN n) = b → b = false → Rw.plain n ⟨is, c, t⟩ = rw0 := fun b h1 h2 => by
    unfold Rw.plain; rw [if_neg (by simp only; rw [h1, h2]; simp)]
  have HBad := Lib.hid bad
  clear bad
  have ez : List.take 57 rowZ = rowZ := List.take_of_length_le (by rw [len_rowZ]; omega)
  cases is with
  | false =>
    have HP : Hid (Rw.plain n ⟨false, c, t⟩ = rw0) := Lib.hid (HBad.out false (by simp) rfl)
    simp only [Rw.vals] at hvl ⊢
    go_enter Tryz.func67, Tryz.ntmps67
    go_wp2_with fail
    try simp only [Exit.inBlock, Exit.then]
    first | refine bodyPost_ret (ret_row (n := 57) rfl (by kernel_rfl) _ _ _ rfl ?_) rfl ?_ | refine bodyPost_end (ret_row (n := 57) rfl (by kernel_rfl) _ _ _ rfl ?_) rfl ?_
    · simp [go_sem]
    · refine ⟨.slice none 0 0, ?_, ?_, HB.out _ _ _ _⟩
      · rw [HP.out, rw0_vals]; simp [go_sem, ez]
      · rw [HP.out]; exact rowX_nil _ _ _ rfl
  | true =>
    simp only [Rw.vals] at hvl ⊢
    cases hm : mayN n with
    | false =>
      have HP : Hid (Rw.plain n ⟨true, c, t⟩ = rw0) := Lib.hid (HBad.out false (by simp [hm]) rfl)
      go_enter Tryz.func67, Tryz.ntmps67
      go_wp2_with fail
      refine (may_any n _).mono ?_
      rintro e w' ⟨rfl, rfl⟩
      rw [hm]
      go_wp2_with fail
      try simp only [Exit.inBlock, Exit.then]
      first | refine bodyPost_ret (ret_row (n := 57) rfl (by kernel_rfl) _ _ _ rfl ?_) rfl ?_ | refine bodyPost_end (ret_row (n := 57) rfl (by kernel_rfl) _ _ _ rfl ?_) rfl ?_
      · simp [go_sem]
      · refine ⟨.slice none 0 0, ?_, ?_, HB.out _ _ _ _⟩
        · rw [HP.out, rw0_vals]; simp [go_sem, ez]
        · rw [HP.out]; exact rowX_nil _ _ _ rfl
    | true =>
      have hn : 0 ≤ n ∧ n ≤ 16 := by simpa [mayN] using hm
      obtain ⟨N, rfl⟩ : ∃ N : Nat, n = N := ⟨n.toNat, by omega⟩
      have HP : Hid (Rw.plain N ⟨true, c, t⟩ = ⟨true, nrm c, fillH N t⟩) := Lib.hid (by unfold Rw.plain; rw [if_pos (by simp [hm])]; rfl)
      go_enter Tryz.func67, Tryz.ntmps67
      go_wp2_with fail
      refine (may_any N _).mono ?_
      rintro e w' ⟨rfl, rfl⟩
      rw [hm]
      go_upto_region 3 with fail
      generalize hw0 : ((w.alloc (.cells (Value.bool true :: (c ++ [Value.slice x m cap])).toArray 118)).alloc (.cells rowZ.toArray 118)) = w0
      have hB0 : Below w.heap.size w w0 := by rw [← hw0]; exact HB.out _ _ _ _
      have hsz : w0.heap.size = w.heap.size + 1 + 1 := by rw [← hw0]; simp
      have hb0 : Blk w0 w.heap.size 118 (Value.bool true :: (c ++ [Value.slice x m cap])).toArray := by rw [← hw0]; exact (Blk.new _ _ _).alloc _
      have hb1 : Blk w0 (w.heap.size + 1) 118 rowZ.toArray := by rw [← hw0]; exact HG.out _
      have HF : Hid (∀ w' : World, Below w0.heap.size w0 w' → hasRow w' ⟨w.heap.size, 1, none⟩ 55 = true ∧ rowOf w' ⟨w.heap.size, 1, none⟩ 55 = c ∧ w'.cell? ⟨w.heap.size, 56, none⟩ = some (.slice x m cap) ∧ canPut w' ⟨w.heap.size + 1, 0, none⟩ 57 = true ∧
          RdHs S w' x m t ∧ Below w.heap.size w w' ∧ Blk w' (w.heap.size + 1) 118 rowZ.toArray) := Lib.hid fun w' h => by
        have hB' : Below w.heap.size w w' := hB0.trans (h.mono (by omega))
        have k1 := hb0.below h hb0.lt
        have k2 := hb1.below h hb1.lt
        obtain ⟨r1, -, r3, r4, -⟩ := k1.rules
        obtain ⟨-, -, q3⟩ := k2.whole len_rowZ
        refine ⟨by rw [r3, hvl]; rfl, ?_, ?_, q3, HT.out.1.below hB' (fun _ _ h => h), hB', k2⟩
        · rw [r4 _ _ (by omega)]; simp [← hcl]
        · rw [r1]; simp [List.getElem?_append, hcl]
      obtain ⟨f1, f2, f3, f4, -⟩ := HF.out w0 (Below.refl _ _)
      have hsc : w.heap.size + 1 < w0.heap.size := by omega
      clear hb0 hb1 hw0 hB0 hsz hn
      have hN16 : N ≤ 16 := by simp [mayN] at hm; omega
      clear hm
      go_region_law (first | (go_simp; go_at_call 106; refine (cellL_any c HK.out.1 _).mono ?_; rintro e w1 ⟨rfl, hb1⟩; obtain ⟨g1, g2, g3, g4, -⟩ := HF.out _ ((Below.refl _ _).drew.trans hb1); have HB1 := Lib.hid hb1; clear hb1) | (go_simp; go_at_call 107; refine (fillh_any S N hN16 x m cap t _ (HF.out _ ((Below.refl _ _).drew.trans HB1.out)).2.2.2.2.1 HT.out.2.1 HT.out.2.2).mono ?_; rintro e w2 ⟨rfl, hbk, hb2⟩; obtain ⟨k1, k2, k3, k4, -⟩ := HF.out _ ((Below.refl _ _).drew.trans (HB1.out.trans (hb2.mono HB1.out.size))); have HB2 := Lib.hid (And.intro hbk hb2); clear hbk hb2))
      all_goals go_wp2_with fail
      all_goals
        obtain ⟨-, -, -, -, -, hBw, hb⟩ := HF.out _ ((Below.refl _ _).drew.trans (HB1.out.trans (HB2.out.2.mono HB1.out.size)))
        have hpp : Blk (putRow w2 ⟨w.heap.size + 1, 0, none⟩ (Value.bool true :: (nrm c ++ [Value.slice (some ⟨w1.heap.size, 0, none⟩) N N]))) (w.heap.size + 1) 118 (Value.bool true :: (nrm c ++ [Value.slice (some ⟨w1.heap.size, 0, none⟩) N N])).toArray := hb.put_all (by rw [len_rowZ]; simp [hnl])
        obtain ⟨p1, p2, -⟩ := hpp.whole (n := 57) (by simp [hnl])
        try simp only [Exit.inBlock, Exit.then]
        first | refine bodyPost_ret (ret_row (n := 57) rfl (by kernel_rfl) _ _ _ rfl ?_) rfl ?_ | refine bodyPost_end (ret_row (n := 57) rfl (by kernel_rfl) _ _ _ rfl ?_) rfl ?_
        · exact p1
        · refine ⟨.slice (some ⟨w1.heap.size, 0, none⟩) N N, by rw [p2, HP.out]; rfl, ?_, Below.put hBw (by simp) _⟩
          rw [HP.out]
          have hok := fillH_ok (n := N) HK.out.2
          have hw1 : w0.heap.size ≤ w1.heap.size := HB1.out.size
          have hne : w1.heap.size ≠ w.heap.size + 1 := by omega
          have h3 := (HB2.out.1.far_put (p := ⟨w.heap.size + 1, 0, none⟩) hne (Value.bool true :: (nrm c ++ [Value.slice (some ⟨w1.heap.size, 0, none⟩) N N])))
          have h4 := RdHs.of_blk (r := []) (by rw [List.append_nil]; exact h3) hok
          rw [fillH_len] at h4
          exact ⟨⟨_, _, _, rfl, h4.mono (fun b _ h => by omega), Nat.le_refl _, by simp only [maxLen]; omega⟩, (RoomV.of_blk h3 (by simp [len_flatH hok, fillH_len]) N).mono (fun b _ h => by omega)⟩
end Go.Proofs.YtnckfjmaochnkaaGreatDoor
