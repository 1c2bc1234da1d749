/-
  sennitlaw16.lives: the examples hold.
-/
import Derived.Test.YtlfpchkoeipcdaaAgs7
namespace Go.Proofs.Ytlfpchkoeipcdaa
open Go.RowKit
set_option linter.unusedVariables false
set_option linter.unusedSimpArgs false

theorem below_on {B : Nat} {a b c : World} (h : Below B a b) (k : Below b.heap.size b c) (hB : B ≤ b.heap.size) : Below B a c := h.trans (k.mono hB)
theorem rd1_blk {w : World} {vs : List Value} {t : TypeId} {g : Nat} (h : Blk w g t vs.toArray) : Rd1 w (some ⟨g, 0, none⟩) vs.length vs :=
  ⟨rfl, fun k v hk => ⟨g, 0, rfl, by rw [Nat.zero_add, h.cell k]; simpa using hk⟩⟩
theorem com1 : commonF 4 ([5, 9, 7, 3].map vecH) = 5 := by
  have e : agesOf (([5, 9, 7, 3].map vecH).take 4) = [5, 9, 7, 3] := by decide
  unfold commonF
  rw [if_pos (by omega)]
  show (if ((agesOf (([5, 9, 7, 3].map vecH).take 4)).length : Int) < 4 - 1 then -1 else medI (agesOf (([5, 9, 7, 3].map vecH).take 4))) = 5
  rw [e, if_neg (by decide)]
  exact (medI_unique (by decide) (by decide) (by decide)).symm
theorem com2 : commonF 4 ([5, 9, 7, -1].map vecH) = 7 := by
  have e : agesOf (([5, 9, 7, -1].map vecH).take 4) = [5, 9, 7] := by decide
  unfold commonF
  rw [if_pos (by omega)]
  show (if ((agesOf (([5, 9, 7, -1].map vecH).take 4)).length : Int) < 4 - 1 then -1 else medI (agesOf (([5, 9, 7, -1].map vecH).take 4))) = 7
  rw [e, if_neg (by decide)]
  exact (medI_unique (by decide) (by decide) (by decide)).symm
theorem com3 : commonF 4 ([5, 9].map vecH) = -1 := by
  have e : agesOf (([5, 9].map vecH).take 4) = [5, 9] := by decide
  unfold commonF
  rw [if_pos (by omega)]
  show (if ((agesOf (([5, 9].map vecH).take 4)).length : Int) < 4 - 1 then -1 else medI (agesOf (([5, 9].map vecH).take 4))) = -1
  rw [e, if_pos (by decide)]

theorem below_chg {B : Nat} {S : Nat → Prop} {a b c : World} (h : Below B a b) (hc : Chg S b c) (hB : B ≤ b.heap.size) (hS : ∀ k, S k → B ≤ k) : Below B a c :=
  ⟨hc.os.trans h.os, hc.tape.trans h.tape, hc.output.trans h.output, Nat.le_trans h.size hc.size, fun k hk => (hc.block k (by omega) (fun hs => by have := hS k hs; omega)).trans (h.block k hk)⟩
/-- a vector, and its common age -/
theorem vec_common {w : World} {l : List Int} {cap : Nat} {v : Value} {w' : World} (h : NewHs w (l.map vecH) (.returned v) w') (hl : l.length = cap) : ∃ a c, v = .slice a cap c ∧ RdHs (w.heap.size ≤ ·) w' a cap (l.map vecH) ∧ cap ≤ c ∧ c ≤ maxLen ∧ Below w.heap.size w w' := by
  obtain ⟨a, c, he, h1, h2, h3, h4⟩ := h
  rw [List.length_map, hl] at he h1 h2
  injection he with he
  exact ⟨a, c, he, h1, h2, h3, h4⟩

set_option maxRecDepth 100000 in
set_option maxHeartbeats 4000000 in
theorem aglives_any (w : World) : Calls Try.prog 13 #[] w fun e w' => e = .returned (.bool true) ∧ Below w.heap.size w w' := by
  go_enter Try.func13, Try.ntmps13
  go_wp2_with fail
  refine (agnew_ok 4 _ (by omega) (by omega)).mono ?_
  rintro e w' ⟨rfl, rfl⟩
  have hF : ∀ w' : World, Below (w.alloc (.cells #[.int .i64 4, .slice none 0 0] 68)).heap.size (w.alloc (.cells #[.int .i64 4, .slice none 0 0] 68)) w' → CkR w.heap.size w.heap.size 4 (.slice none 0 0) [] w' ∧ Below w.heap.size w w' := fun w' h =>
    have hb : Blk (w.alloc (.cells #[.int .i64 4, .slice none 0 0] 68)) w.heap.size 68 #[.int .i64 4, .slice none 0 0] := Blk.new _ _ _
    ⟨⟨hb.below h hb.lt, .inl ⟨rfl, rfl⟩⟩, below_on ((Below.refl _ _).alloc (Nat.le_refl _) _) h (by simp)⟩
  have hs1 : (w.alloc (.cells #[.int .i64 4, .slice none 0 0] 68)).heap.size = w.heap.size + 1 := by simp
  generalize w.alloc (.cells #[.int .i64 4, .slice none 0 0] 68) = w1 at hF hs1 ⊢
  have HF := Lib.hid hF
  have HS1 := Lib.hid hs1
  clear hF hs1
  go_wp2_with fail
  refine (agvector_any _ 4 4 [5, 9, 7, 3] _ (rd1_blk (vs := [.int .i64 5, .int .i64 9, .int .i64 7, .int .i64 3]) (Blk.new w1 _ _)) (by decide) (by omega)).mono ?_
  rintro e w2 he
  obtain ⟨v, rfl⟩ : ∃ v, e = .returned v := by obtain ⟨a, c, h, -⟩ := he; exact ⟨_, h⟩
  obtain ⟨a, cc, rfl, hrd, k1, k2, hb⟩ := vec_common (l := [5, 9, 7, 3]) he rfl
  have HB2 : Hid (Below w1.heap.size w1 w2) := Lib.hid (below_on ((Below.refl _ _).alloc (Nat.le_refl _) _) hb (by simp))
  have HC := Lib.hid (common_any _ 4 a 4 cc _ w2 hrd k1 k2)
  rw [com1] at HC
  clear he hrd hb k1 k2
  go_wp2_with fail
  refine HC.out.mono ?_
  rintro e w3 ⟨rfl, hb⟩
  have HB3 := Lib.hid (below_on HB2.out hb HB2.out.size)
  clear hb HC
  go_wp2_with fail
  refine (agvector_any _ 4 4 [5, 9, 7, -1] _ (rd1_blk (vs := [.int .i64 5, .int .i64 9, .int .i64 7, .int .i64 (-1)]) (Blk.new w3 _ _)) (by decide) (by omega)).mono ?_
  rintro e w4 he
  obtain ⟨v, rfl⟩ : ∃ v, e = .returned v := by obtain ⟨a, c, h, -⟩ := he; exact ⟨_, h⟩
  obtain ⟨a, cc, rfl, hrd, k1, k2, hb⟩ := vec_common (l := [5, 9, 7, -1]) he rfl
  have HB4 : Hid (Below w1.heap.size w1 w4) := Lib.hid (below_on (HB3.out.alloc HB3.out.size _) hb (by have := HB3.out.size; simp; omega))
  have HC := Lib.hid (common_any _ 4 a 4 cc _ w4 hrd k1 k2)
  rw [com2] at HC
  clear he hrd hb k1 k2
  go_wp2_with fail
  refine HC.out.mono ?_
  rintro e w5 ⟨rfl, hb⟩
  have HB5 := Lib.hid (below_on HB4.out hb HB4.out.size)
  clear hb HC
  go_wp2_with fail
  refine (agvector_any _ 2 2 [5, 9] _ (rd1_blk (vs := [.int .i64 5, .int .i64 9]) (Blk.new w5 _ _)) (by decide) (by omega)).mono ?_
  rintro e w6 he
  obtain ⟨v, rfl⟩ : ∃ v, e = .returned v := by obtain ⟨a, c, h, -⟩ := he; exact ⟨_, h⟩
  obtain ⟨a, cc, rfl, hrd, k1, k2, hb⟩ := vec_common (l := [5, 9]) he rfl
  have HB6 : Hid (Below w1.heap.size w1 w6) := Lib.hid (below_on (HB5.out.alloc HB5.out.size _) hb (by have := HB5.out.size; simp; omega))
  have HC := Lib.hid (common_any _ 4 a 2 cc _ w6 hrd k1 k2)
  rw [com3] at HC
  clear he hrd hb k1 k2
  go_wp2_with fail
  refine HC.out.mono ?_
  rintro e w7 ⟨rfl, hb⟩
  have HB7 := Lib.hid (below_on HB6.out hb HB6.out.size)
  clear hb HC
  obtain ⟨hck, hbw⟩ := HF.out w7 HB7.out
  have HBW := Lib.hid hbw
  have HC := Lib.hid (ckstep_any w.heap.size w.heap.size 4 (by omega) (by omega) (.slice none 0 0) [] (by simp) (by simp) (-1) 3 (by omega) w7 hck hbw.size)
  clear hck hbw
  go_wp2_with fail
  refine HC.out.mono ?_
  rintro e w8 ⟨rfl, ⟨v8, hck, -⟩, hch⟩
  have e1 : ownF (4 : Nat) (-1) 3 = 3 := by decide
  have e2 : showF (lastN (2 * 4) ([] ++ [(3 : Int)])) = 3 := by decide
  rw [e1] at hck ⊢
  rw [e2]
  have hb8 : Below w.heap.size w w8 := below_chg HBW.out hch HBW.out.size (fun b h => by rcases h with rfl | h; exact Nat.le_refl _; cases h)
  have HB8 := Lib.hid hb8
  have HC := Lib.hid (ckstep_any w.heap.size w.heap.size 4 (by omega) (by omega) v8 [3] (by simp) (by simp) 2 4 (by omega) w8 hck hb8.size)
  have HL8 := Lib.hid hck.2.lt
  clear hck hch hb8
  go_wp2_with fail
  refine HC.out.mono ?_
  rintro e w9 ⟨rfl, ⟨v9, hck, -⟩, hch⟩
  have e3 : ownF (4 : Nat) 2 4 = 10 := by decide
  have e4 : showF (lastN (2 * 4) ([3] ++ [(10 : Int)])) = 10 := by decide
  rw [e3] at hck ⊢
  rw [e4]
  have hb9 : Below w.heap.size w w9 := below_chg HB8.out hch HB8.out.size (fun b h => by rcases h with rfl | h; exact Nat.le_refl _; exact (HL8.out b h.symm).1)
  have HB9 := Lib.hid hb9
  have HC := Lib.hid (ckstep_any w.heap.size w.heap.size 4 (by omega) (by omega) v9 [3, 10] (by simp) (by simp) (-1) 5 (by omega) w9 hck hb9.size)
  have HL9 := Lib.hid hck.2.lt
  clear hck hch hb9
  go_wp2_with fail
  refine HC.out.mono ?_
  rintro e w10 ⟨rfl, -, hch⟩
  have e5 : ownF (4 : Nat) (-1) 5 = 5 := by decide
  have e6 : showF (lastN (2 * 4) ([3, 10] ++ [(5 : Int)])) = 11 := by decide
  rw [e5, e6]
  have hb10 : Below w.heap.size w w10 := below_chg HB9.out hch HB9.out.size (fun b h => by rcases h with rfl | h; exact Nat.le_refl _; exact (HL9.out b h.symm).1)
  have HB10 := Lib.hid hb10
  clear hch hb10
  go_wp2_with fail
  go_ret
  exact ⟨rfl, HB10.out⟩
end Go.Proofs.Ytlfpchkoeipcdaa
