/-
  The power of a node, walked: its step.
-/
import Derived.Test.YtphbmnjkhgfnoaaRows
import Derived.Test.YtphbmnjkhgfnoaaBoot
import Derived.WalkKit
import Derived.WalkSpells
import Derived.WalkLawsBesides
import Derived.Outline
import Derived.Deep.QuietTactic
import Derived.BigQuiet
import Derived.Deep.Light
namespace Go.Proofs.Ytphbmnjkhgfnoaa
open Go.RowKit


def StepPost (g : Nat) (boot s left cold : Int) (p : Bool) (e : Ending) (w w' : World) : Prop :=
  ∃ s' l' c', (s', l', c') = (if p then pwOn boot s left cold else (0, left, cold)) ∧
    e = .returned (.tuple #[.int .u8 s', .int .i64 (if s' = 2 then c' else -1)]) ∧ Blk w' g 100 (pwCells boot s' l' c') ∧ Chg (· = g) w w'

theorem pwOn_s (boot s left cold : Int) : (pwOn boot s left cold).1 = 1 ∨ (pwOn boot s left cold).1 = 2 := by
  unfold pwOn; repeat' split
  all_goals simp

set_option maxHeartbeats 400000 in
theorem step_off (g : Nat) (boot s left cold : Int) (w : World)
    (hg : Blk w g 100 (pwCells boot s left cold)) :
    Calls Try.prog 37 #[.pointer (some ⟨g, 0, none⟩), .bool false] w fun e w' => StepPost g boot s left cold false e w w' := by
  have hc0 : w.cell? ⟨g, 0, none⟩ = some (.bool true) := hg.cell 0
  have hc2 : w.cell? ⟨g, 2, none⟩ = some (.int .u8 s) := hg.cell 2
  have hf : ∀ i, w.frozen? ⟨g, i, none⟩ = false := hg.frozen
  have HG := Lib.hid hg
  clear hg
  go_enter Try.func37, Try.ntmps37
  go_wp2
  go_ret2
  go_light
  exact ⟨0, left, cold, rfl, rfl, HG.out.set_ 2 (.int .u8 0), (Chg.refl _ _).set_at _ _⟩

set_option maxHeartbeats 400000 in
theorem step_on (g : Nat) (boot s left cold : Int) (w : World) (hs : s = 0 ∨ s = 1 ∨ s = 2) (hb0 : 0 ≤ boot) (hb1 : boot ≤ 4096) (hl0 : 0 ≤ left) (hl1 : left ≤ 4096)
    (h0 : -1 ≤ cold) (h1 : cold ≤ 1099511627776) (hg : Blk w g 100 (pwCells boot s left cold)) :
    Calls Try.prog 37 #[.pointer (some ⟨g, 0, none⟩), .bool true] w fun e w' => StepPost g boot s left cold true e w w' := by
  have hc0 : w.cell? ⟨g, 0, none⟩ = some (.bool true) := hg.cell 0
  have h12 := pwOn_s boot s left cold
  obtain ⟨s', l', c', hp⟩ : ∃ s' l' c', pwOn boot s left cold = (s', l', c') := ⟨_, _, _, rfl⟩
  have hon := on_any g boot s left cold w hs hb0 hb1 hl0 hl1 h0 h1 hg
  unfold OnPost at hon
  rw [hp] at hon h12
  have H := Lib.hid hon
  have HP := Lib.hid hp
  clear hon hp hg hs
  dsimp only at h12
  rcases h12 with rfl | rfl
  · go_enter Try.func37, Try.ntmps37
    go_wp2_with fail
    refine H.out.mono ?_
    rintro e w' ⟨rfl, hb, hc⟩
    have hd2 : w'.cell? ⟨g, 2, none⟩ = some (.int .u8 1) := hb.cell 2
    have HB := Lib.hid hb
    clear hb
    go_wp2
    go_ret2
    go_light
    exact ⟨1, l', c', HP.out.symm, rfl, HB.out, hc⟩
  · go_enter Try.func37, Try.ntmps37
    go_wp2_with fail
    refine H.out.mono ?_
    rintro e w' ⟨rfl, hb, hc⟩
    have hd2 : w'.cell? ⟨g, 2, none⟩ = some (.int .u8 2) := hb.cell 2
    have hd4 : w'.cell? ⟨g, 4, none⟩ = some (.int .i64 c') := hb.cell 4
    have HB := Lib.hid hb
    clear hb
    go_wp2
    go_quiet (fail)
    go_wp2
    go_ret2
    go_light
    exact ⟨2, l', c', HP.out.symm, rfl, HB.out, hc.drewN _⟩

/-- of a power that is not there, or that no call made: it is off -/
theorem step_nil (p : Bool) (w : World) :
    Calls Try.prog 37 #[.pointer none, .bool p] w fun e w' => e = .returned (.tuple #[.int .u8 0, .int .i64 (-1)]) ∧ w' = w := by
  go_enter Try.func37, Try.ntmps37
  go_wp2
  go_ret2
  exact ⟨rfl, rfl⟩

theorem step_unmade (g : Nat) (p : Bool) (w : World) (hc0 : w.cell? ⟨g, 0, none⟩ = some (.bool false)) :
    Calls Try.prog 37 #[.pointer (some ⟨g, 0, none⟩), .bool p] w fun e w' => e = .returned (.tuple #[.int .u8 0, .int .i64 (-1)]) ∧ w' = w := by
  go_enter Try.func37, Try.ntmps37
  go_wp2
  go_ret2
  exact ⟨rfl, rfl⟩

theorem new_ok (boot : Int) (w : World) (h0 : 0 ≤ boot) (h1 : boot ≤ 4096) :
    Calls Try.prog 35 #[.int .i64 boot] w fun e w' => e = .returned (.tuple #[.pointer (some ⟨w.heap.size, 0, none⟩), .int .i64 0]) ∧ w' = w.alloc (.cells (pwCells boot 0 0 0) 100) := by
  go_enter Try.func35, Try.ntmps35
  go_wp2
  go_ret2
  exact ⟨rfl, rfl⟩

theorem new_bad (boot : Int) (w : World) (h : boot < 0 ∨ 4096 < boot) :
    Calls Try.prog 35 #[.int .i64 boot] w fun e w' => e = .returned (.tuple #[.pointer none, .int .i64 1]) ∧ w' = w := by
  rcases h with h | h
  all_goals
    go_enter Try.func35, Try.ntmps35
    go_wp2
    go_ret2
    exact ⟨rfl, rfl⟩

theorem rnew_ok (boot : Int) (w : World) (h0 : 0 ≤ boot) (h1 : boot ≤ 4096) :
    Calls Try.prog 36 #[.int .i64 boot] w fun e w' => e = .returned (.tuple #[.pointer (some ⟨w.heap.size, 0, none⟩), .int .i64 0]) ∧ w' = w.alloc (.cells #[.int .i64 boot, .int .i64 0] 136) := by
  go_enter Try.func36, Try.ntmps36
  go_wp2
  go_ret2
  exact ⟨rfl, rfl⟩

theorem rnew_bad (boot : Int) (w : World) (h : boot < 0 ∨ 4096 < boot) :
    Calls Try.prog 36 #[.int .i64 boot] w fun e w' => e = .returned (.tuple #[.pointer none, .int .i64 1]) ∧ w' = w := by
  rcases h with h | h
  all_goals
    go_enter Try.func36, Try.ntmps36
    go_wp2
    go_ret2
    exact ⟨rfl, rfl⟩

theorem rstep_off (g : Nat) (boot run : Int) (w : World) (hg : Blk w g 136 #[.int .i64 boot, .int .i64 run]) :
    Calls Try.prog 38 #[.pointer (some ⟨g, 0, none⟩), .bool false] w fun e w' => e = .returned (.tuple #[.int .i64 0, .int .i64 (-1)]) ∧
      Blk w' g 136 #[.int .i64 boot, .int .i64 0] ∧ Chg (· = g) w w' := by
  have hc1 : w.cell? ⟨g, 1, none⟩ = some (.int .i64 run) := hg.cell 1
  have hf : ∀ i, w.frozen? ⟨g, i, none⟩ = false := hg.frozen
  have HG := Lib.hid hg
  clear hg
  go_enter Try.func38, Try.ntmps38
  go_wp2
  go_ret2
  go_light
  exact ⟨rfl, HG.out.set_ 1 _, (Chg.refl _ _).set_at _ _⟩

theorem rstep_on (g : Nat) (boot run : Int) (w : World) (hb0 : 0 ≤ boot) (hb1 : boot ≤ 4096) (hr0 : 0 ≤ run) (hr1 : run ≤ 100000) (hg : Blk w g 136 #[.int .i64 boot, .int .i64 run]) :
    Calls Try.prog 38 #[.pointer (some ⟨g, 0, none⟩), .bool true] w fun e w' =>
      e = .returned (.tuple (if run - boot < 0 then #[.int .i64 1, .int .i64 (-1)] else #[.int .i64 2, .int .i64 (run - boot)])) ∧
      Blk w' g 136 #[.int .i64 boot, .int .i64 (run + 1)] ∧ Chg (· = g) w w' := by
  have hc0 : w.cell? ⟨g, 0, none⟩ = some (.int .i64 boot) := hg.cell 0
  have hc1 : w.cell? ⟨g, 1, none⟩ = some (.int .i64 run) := hg.cell 1
  have hf : ∀ i, w.frozen? ⟨g, i, none⟩ = false := hg.frozen
  have HG := Lib.hid hg
  clear hg
  have e1 : run + 1 - 1 - boot = run - boot := by omega
  by_cases hlt : run - boot < 0
  all_goals
    go_enter Try.func38, Try.ntmps38
    go_wp2
    go_quiet (fail)
    go_wp2
    go_ret2
    go_light
    refine ⟨?_, HG.out.set_ 1 _, ((Chg.refl _ _).set_at _ _).drewN _⟩
    simp [hlt]
end Go.Proofs.Ytphbmnjkhgfnoaa
