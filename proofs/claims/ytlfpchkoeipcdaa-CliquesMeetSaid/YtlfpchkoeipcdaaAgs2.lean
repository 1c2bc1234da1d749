/-
  ages: small functions; ages are added, one behind the other.
-/
import Derived.Test.YtlfpchkoeipcdaaAgs1
import Derived.Test.YtlfpchkoeipcdaaHds
import Derived.WalkSpells
import Derived.WalkLawsBesides
import Derived.Outline
import Derived.Deep.QuietTactic
import Derived.BigQuiet
import Derived.Deep.Light
import Derived.Deep.RegionLaw
import Derived.Deep.RegionHeld3
namespace Go.Proofs.Ytlfpchkoeipcdaa
open Go.RowKit
set_option linter.unusedVariables false
set_option linter.unusedSimpArgs false

theorem agmay_any (n : Int) (w : World) : Calls Try.prog 23 #[.int .i64 n] w fun e w' => e = .returned (.bool (decide (4 ≤ n) && decide (n ≤ 16))) ∧ w = w' := by
  by_cases h : 4 ≤ n
  all_goals
    go_enter Try.func23, Try.ntmps23
    go_wp2
    go_ret
    refine ⟨?_, rfl⟩
    first | (rw [show decide (4 ≤ n) = true from by simp; omega]; simp) | (rw [show decide (4 ≤ n) = false from by simp; omega]; simp)
theorem agis_any (n : Int) (w : World) : Calls Try.prog 29 #[.int .i64 n] w fun e w' => e = .returned (.bool (okI n)) ∧ w = w' := by
  by_cases h : 0 ≤ n
  all_goals
    go_enter Try.func29, Try.ntmps29
    go_wp2
    go_ret
    refine ⟨?_, rfl⟩
    first | (rw [okI, show decide (0 ≤ n) = true from by simp; omega]; simp) | (rw [okI, show decide (0 ≤ n) = false from by simp; omega]; simp)
theorem app_ages : AppOk Try.prog 80 2 1 := appOk_of Try.underlying80 (by kernel_rfl)

/-- ages so far: the variable's block, what it owns -/
def AgV (W : World) (g : Nat) (xs : List Int) (w : World) : Prop :=
  ∃ v, Blk w g 80 #[v] ∧ w.ownsRow W.heap.size 2 1 v xs.length (xs.map (Value.int .i64)) ∧ Below W.heap.size W w ∧ W.heap.size ≤ g
theorem AgV.start (W : World) : AgV W W.heap.size [] (W.alloc (.cells #[.slice none 0 0] 80)) :=
  ⟨_, Blk.new _ _ _, World.ownsRow_nil _ _ _ _, (Below.refl _ _).alloc (Nat.le_refl _) _, Nat.le_refl _⟩
theorem AgV.below {W : World} {g : Nat} {xs : List Int} {w w' : World} (h : AgV W g xs w) (hb : Below w.heap.size w w') : AgV W g xs w' := by
  obtain ⟨v, h1, h2, h3, h4⟩ := h
  exact ⟨v, h1.below hb h1.lt, own_block h2 (fun k hk => hb.block k (h2.lt k hk).2), below_trans h3 hb, h4⟩
where below_trans {W w w' : World} (h3 : Below W.heap.size W w) (hb : Below w.heap.size w w') : Below W.heap.size W w' := h3.trans (hb.mono h3.size)

theorem hd_cell1 {h : Hd} (hk : h.ok) : h.vals.all cell1 = true := by
  have := okL_cell1 hk
  simp only [Hd.vals, List.all_cons, this, Bool.and_true]; rfl
theorem rdHs_take {S : Nat → Prop} {w : World} {x : Option Addr} {m : Nat} {l : List Hd} (h : RdHs S w x m l) {k : Nat} (hk : k ≤ m) : RdHs S w x k (l.take k) :=
  ⟨by rw [List.length_take, h.1]; omega, fun y hy => h.2.1 y (List.mem_of_mem_take hy), fun j y hj => by
    rw [List.getElem?_take] at hj
    split at hj
    · exact h.2.2 j y hj
    · cases hj⟩
theorem own_slice {w : World} {base : Nat} {e : TypeId} {size : Nat} {v : Value} {n : Nat} {xs : List Value} (h : w.ownsRow base e size v n xs) : ∃ a cap, v = .slice a n cap := by
  rcases h.2 with ⟨rfl, rfl⟩ | ⟨g, cap, cur, rfl, -⟩
  · exact ⟨_, _, rfl⟩
  · exact ⟨_, _, rfl⟩
theorem own_nn {w : World} {base : Nat} {e : TypeId} {size : Nat} {v : Value} {n : Nat} {xs : List Value} (h : w.ownsRow base e size v n xs) (hn : 0 < n) : v ≠ .slice none 0 0 := by
  rcases h.2 with ⟨rfl, h0⟩ | ⟨g, cap, cur, rfl, -⟩
  · omega
  · simp
/-- what a boxed entry is good for -/
theorem blk_held {w : World} {g : Nat} {is : Bool} {n : Int} {r : List Value} (h : Blk w g 46 (Value.bool is :: .int .i64 n :: r).toArray) : w.cell? ⟨g, 0, none⟩ = some (.bool is) ∧ w.cell? ⟨g, 1, none⟩ = some (.int .i64 n) := by
  rw [h.cell, h.cell]; simp

set_option maxRecDepth 100000 in
set_option maxHeartbeats 1000000 in
theorem add_any (W : World) (g : Nat) (xs : List Int) (h : Hd) (hok : h.ok) (w : World) (hv : AgV W g xs w) (hx : xs.length ≤ 1000) :
    Calls Try.prog 25 #[.pointer (some ⟨g, 0, none⟩), .agg h.vals.toArray] w fun e w' => e = .returned (.tuple #[]) ∧ AgV W g (xs ++ oneAge h) w' := by
  obtain ⟨is, c⟩ := h
  obtain ⟨n, r, rfl, hn0, hn1⟩ := cell_age hok
  have hlr : r.length = 54 := by have := Hd.ok_len hok; simpa using this
  simp only [Hd.vals]
  have hbx : Blk (w.alloc (.cells (Value.bool is :: .int .i64 n :: r).toArray 46)) w.heap.size 46 (Value.bool is :: .int .i64 n :: r).toArray := Blk.new _ _ _
  have hv1 : AgV W g xs (w.alloc (.cells (Value.bool is :: .int .i64 n :: r).toArray 46)) := hv.below ((Below.refl _ _).alloc (Nat.le_refl _) _)
  have e1 : oneAge ⟨is, .int .i64 n :: r⟩ = if is && okI n then [n] else [] := by simp [oneAge, okAge, ageL]
  rw [e1]
  obtain ⟨hc0, hc1⟩ := blk_held hbx
  clear hv
  cases his : (is && okI n) with
  | false =>
    have HV := Lib.hid hv1
    clear hv1 hbx e1
    cases is with
    | false =>
      go_enter Try.func25, Try.ntmps25
      go_wp2_with fail
      generalize w.alloc (.cells (Value.bool false :: .int .i64 n :: r).toArray 46) = w1 at *
      go_end0
      exact ⟨rfl, by simpa using HV.out⟩
    | true =>
      have hn : okI n = false := by simpa using his
      go_enter Try.func25, Try.ntmps25
      go_wp2_with fail
      refine (agis_any n _).mono ?_
      rintro e w2 ⟨rfl, rfl⟩
      go_wp2_with fail
      go_end0
      exact ⟨rfl, by simpa using HV.out⟩
  | true =>
    obtain ⟨rfl, hn⟩ : is = true ∧ okI n = true := by simpa using his
    go_enter Try.func25, Try.ntmps25
    go_wp2_with fail
    refine (agis_any n _).mono ?_
    rintro e w2 ⟨rfl, rfl⟩
    obtain ⟨v, h1, h2, h3, h4⟩ := hv1
    have hsz : w.heap.size < (w.alloc (.cells (Value.bool true :: .int .i64 n :: r).toArray 46)).heap.size := hbx.lt
    generalize w.alloc (.cells (Value.bool true :: .int .i64 n :: r).toArray 46) = w1 at *
    have d0 : w1.cell? ⟨g, 0, none⟩ = some v := h1.cell 0
    have d1 : w1.frozen? ⟨g, 0, none⟩ = false := h1.frozen 0
    have hne := own_not h2 h1 (by decide)
    have hgl := h1.lt
    have hWl := h3.size
    have HH := Lib.hid (And.intro h1 (And.intro h2 (And.intro h3 (And.intro h4 (And.intro hne hbx)))))
    clear h1 h2 h3 h4 hne hbx his
    go_upto_region 2 with fail
    go_region_law (first
      | (refine step_app app_ages (by rfl) (.tmp 15) (.tmp 19) (by rfl) W.heap.size _ _ _ (by rfl) ((HH.out.2.1.alloc _).drew) ⟨w1.heap.size, 0, none⟩ 1 1 [.int .i64 n] (by rfl) (by simp)
            (hasRow_new w1 _ _ 0 1 (by simp)) ((rowOf_new w1 _ _ 0 1 (by simp)).trans rfl) (by simp [cell1]) (by omega) (by omega) (by simp; omega) ?_; intro gg cap' w3 hown1 hgrow; have HB1 : Hid (Blk w3 g 80 #[v]) := Lib.hid ((hgrow.block g (by simp; omega) (fun h => HH.out.2.2.2.2.1 h.symm)).trans ((HH.out.1.alloc _).drew)); have q0 : w3.cell? ⟨g, 0, none⟩ = some v := HB1.out.cell 0; have q1 : w3.frozen? ⟨g, 0, none⟩ = false := HB1.out.frozen 0))
    all_goals
      have HX : Hid (AgV W g (xs ++ [n]) (w3.setCell ⟨g, 0, none⟩ (.slice (some ⟨gg, 0, none⟩) (xs.length + 1) cap'))) := Lib.hid (by
        have hn1 := own_not hown1 HB1.out (by decide)
        have hb2 : Blk (w3.setCell ⟨g, 0, none⟩ (.slice (some ⟨gg, 0, none⟩) (xs.length + 1) cap')) g 80 #[.slice (some ⟨gg, 0, none⟩) (xs.length + 1) cap'] := by simpa using HB1.out.set_ 0 (.slice (some ⟨gg, 0, none⟩) (xs.length + 1) cap')
        have hB3 : Below W.heap.size W w3 := (HH.out.2.2.1.alloc hWl _).drew.grown hgrow (by simp; omega) (fun k hk => (HH.out.2.1.lt k hk).1)
        refine ⟨_, hb2, ?_, hB3.setCell (p := ⟨g, 0, none⟩) HH.out.2.2.2.1 _, HH.out.2.2.2.1⟩
        refine own_block ?_ (fun k hk => Below.heap_setCell _ _ _ _ (fun h => hn1 (by rw [hk, h])))
        simpa using hown1)
      clear hown1 hgrow HB1 q0 q1 d0 d1 hc0 hc1 HH
      go_wp2_with fail
      go_end0
      exact ⟨rfl, HX.out⟩
end Go.Proofs.Ytlfpchkoeipcdaa
