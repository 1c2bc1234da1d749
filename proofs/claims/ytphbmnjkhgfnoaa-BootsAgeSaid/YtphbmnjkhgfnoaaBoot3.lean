/-
  The power of a node, walked: the examples and the laws.
-/
import Derived.Test.YtphbmnjkhgfnoaaRows
import Derived.Test.YtphbmnjkhgfnoaaBoot2
import Derived.WalkKit
import Derived.WalkSpells
import Derived.WalkLawsBesides
import Derived.Outline
import Derived.Deep.QuietTactic
import Derived.BigQuiet
import Derived.Deep.Light
namespace Go.Proofs.Ytphbmnjkhgfnoaa
open Go.RowKit



/-- the example's states -/
def exS (k : Nat) : Int := ([0, 1, 1, 2, 2, 0, 1] : List Int).getD k 0
def exL (k : Nat) : Int := ([0, 1, 0, 0, 0, 0, 1] : List Int).getD k 0
def exC (k : Nat) : Int := ([0, 0, 0, 0, 1, 1, 1] : List Int).getD k 0
def wS (k : Nat) : Int := ([1, 1, 2, 2, 0, 1] : List Int).getD k 0
def wC (k : Nat) : Int := ([-1, -1, 0, 1, -1, -1] : List Int).getD k 0

theorem ex_step : ∀ k, k < 6 → (exS (k+1), exL (k+1), exC (k+1)) = (if (k != 4) = true then pwOn 2 (exS k) (exL k) (exC k) else (0, exL k, exC k)) ∧ wS k = exS (k+1) ∧ wC k = (if exS (k+1) = 2 then exC (k+1) else -1) := by
  decide

def exSt : Array Value := #[.int .u8 1, .int .u8 1, .int .u8 2, .int .u8 2, .int .u8 0, .int .u8 1]
def exCo : Array Value := #[.int .i64 (-1), .int .i64 (-1), .int .i64 0, .int .i64 1, .int .i64 (-1), .int .i64 (-1)]
theorem exSt_at : ∀ k, k < 6 → exSt[k]? = some (.int .u8 (wS k)) := by
  intro k hk
  match k, hk with
  | 0, _ => rfl
  | 1, _ => rfl
  | 2, _ => rfl
  | 3, _ => rfl
  | 4, _ => rfl
  | 5, _ => rfl
theorem exCo_at : ∀ k, k < 6 → exCo[k]? = some (.int .i64 (wC k)) := by
  intro k hk
  match k, hk with
  | 0, _ => rfl
  | 1, _ => rfl
  | 2, _ => rfl
  | 3, _ => rfl
  | 4, _ => rfl
  | 5, _ => rfl
theorem ex_ok : ∀ k, k < 6 → (exS k = 0 ∨ exS k = 1 ∨ exS k = 2) ∧ 0 ≤ exL k ∧ exL k ≤ 4096 ∧ -1 ≤ exC k ∧ exC k ≤ 1099511627776 := by
  decide

def LivesRel (w : World) (k : Nat) (wr : World) : Prop :=
  Blk wr w.heap.size 100 (pwCells 2 (exS k) (exL k) (exC k)) ∧ Blk wr (w.heap.size + 1) 93 exSt ∧ Blk wr (w.heap.size + 1 + 1) 2 exCo ∧ Below w.heap.size w wr

theorem step_ex (w : World) (k : Nat) (hk : k < 6) (wr : World) (h : LivesRel w k wr) :
    Calls Try.prog 37 #[.pointer (some ⟨w.heap.size, 0, none⟩), .bool (k != 4)] wr fun e w' =>
      e = .returned (.tuple #[.int .u8 (wS k), .int .i64 (wC k)]) ∧ LivesRel w (k + 1) w' := by
  obtain ⟨h1, h2, h3, h4⟩ := h
  obtain ⟨e1, e2, e3⟩ := ex_step k hk
  obtain ⟨o1, o2, o3, o4, o5⟩ := ex_ok k hk
  have fin : ∀ p e w', StepPost w.heap.size 2 (exS k) (exL k) (exC k) p e wr w' → (exS (k+1), exL (k+1), exC (k+1)) = (if p = true then pwOn 2 (exS k) (exL k) (exC k) else (0, exL k, exC k)) →
      e = .returned (.tuple #[.int .u8 (wS k), .int .i64 (wC k)]) ∧ LivesRel w (k + 1) w' := by
    rintro p e w' ⟨s', l', c', hp, he, hb, hc⟩ hq
    rw [← hq] at hp
    simp only [Prod.mk.injEq] at hp
    obtain ⟨rfl, rfl, rfl⟩ := hp
    refine ⟨?_, hb, h2.chg hc (by omega), h3.chg hc (by omega), h4.trans (hc.below h4.size (fun k hk => by omega))⟩
    rw [he, e2, e3]
  by_cases h4' : k = 4
  · have : (k != 4) = false := by simp [h4']
    rw [this] at e1 ⊢
    exact (step_off _ _ _ _ _ _ h1).mono fun e w' h => fin false e w' h e1
  · have : (k != 4) = true := by simp [h4']
    rw [this] at e1 ⊢
    exact (step_on _ _ _ _ _ _ o1 (by omega) (by omega) o2 o3 o4 o5 h1).mono fun e w' h => fin true e w' h e1

set_option maxHeartbeats 400000 in
theorem lives_any (w : World) : Calls Try.prog 34 #[] w fun e w' => e = .returned (.bool true) ∧ Below w.heap.size w w' := by
  go_enter Try.func34, Try.ntmps34
  go_wp2_with fail
  refine (new_ok 2 _ (by omega) (by omega)).mono ?_
  rintro e w' ⟨rfl, rfl⟩
  go_wp2
  have hst : LivesRel w 0 (((w.alloc (.cells (pwCells 2 0 0 0) 100)).alloc (.cells exSt 93)).alloc (.cells exCo 2)) := by
    have e1 : (w.alloc (.cells (pwCells 2 0 0 0) 100)).heap.size = w.heap.size + 1 := by simp
    have e2 : ((w.alloc (.cells (pwCells 2 0 0 0) 100)).alloc (.cells exSt 93)).heap.size = w.heap.size + 1 + 1 := by simp
    refine ⟨((Blk.new _ _ _).alloc _).alloc _, ?_, ?_, (((Below.refl _ _).alloc (by simp) _).alloc (by simp) _).alloc (by simp; omega) _⟩
    · rw [← e1]; exact (Blk.new _ _ _).alloc _
    · rw [← e2]; exact Blk.new _ _ _
  have HS := Lib.hid hst
  clear hst
  go_loopw [5] (fun i wr => ∃ k : Nat, k ≤ 6 ∧ i = .int .i64 k ∧ LivesRel w k wr) (fun i _ => 6 - (intOf i).toNat)
  case atStart => exact ⟨0, by omega, rfl, HS.out⟩
  case round =>
    obtain ⟨k, hk, rfl, hr⟩ := hrel
    have hB := hr.2.2.2
    by_cases hlt : k < 6
    · have hs := step_ex w k hlt wr hr
      have c1 := exSt_at k hlt
      have c2 := exCo_at k hlt
      have H := Lib.hid (And.intro hs (And.intro c1 c2))
      clear hs c1 c2 hr hB
      have eb : (((k : Nat) : Int) != 4) = (k != 4) := by
        by_cases h : k = 4
        · subst h; rfl
        · rw [bne_iff_ne.2 h, bne_iff_ne.2 (by omega)]
      go_wp2_with fail
      refine H.out.1.mono ?_
      rintro e w' ⟨rfl, hr'⟩
      have d1 : w'.cell? ⟨w.heap.size + 1, k, none⟩ = some (.int .u8 (wS k)) := (hr'.2.1.cell k).trans H.out.2.1
      have d2 : w'.cell? ⟨w.heap.size + 1 + 1, k, none⟩ = some (.int .i64 (wC k)) := (hr'.2.2.1.cell k).trans H.out.2.2
      have HR := Lib.hid hr'
      clear hr'
      go_wp2
      exact ⟨⟨k + 1, by omega, by go_num, HR.out⟩, by simp [intOf]; omega⟩
    · have : k = 6 := by omega
      subst this
      clear hr
      have HB := Lib.hid hB
      clear hB
      go_wp2
      go_ret
      exact ⟨rfl, HB.out⟩

set_option maxHeartbeats 400000 in
theorem void_any (p : Bool) (w : World) : Calls Try.prog 9 #[.bool p] w fun e w' => e = .returned (.bool true) ∧ Below w.heap.size w w' := by
  go_enter Try.func9, Try.ntmps9
  go_wp2
  go_loopw [5] (fun i wr => ∃ k : Nat, k ≤ 2 ∧ i = .int .i64 k ∧ Blk wr w.heap.size 100 #[.bool false, .int .i64 0, .int .u8 0, .int .i64 0, .int .i64 0] ∧
    Blk wr (w.heap.size + 1) 87 #[.pointer none, .pointer (some ⟨w.heap.size, 0, none⟩)] ∧ Below w.heap.size w wr) (fun i _ => 2 - (intOf i).toNat)
  case atStart =>
    refine ⟨0, by omega, rfl, (Blk.new _ _ _).alloc _, ?_, ((Below.refl _ _).alloc (by simp) _).alloc (by simp) _⟩
    have e1 : (w.alloc (.cells #[.bool false, .int .i64 0, .int .u8 0, .int .i64 0, .int .i64 0] 100)).heap.size = w.heap.size + 1 := by simp
    rw [← e1]; exact Blk.new _ _ _
  case round =>
    obtain ⟨k, hk, rfl, hb1, hb2, hb⟩ := hrel
    have hc0 := hb1.cell 0
    have c0 := hb2.cell 0
    have c1 := hb2.cell 1
    have H := Lib.hid (And.intro hb1 (And.intro hb2 hb))
    clear hb1 hb2 hb
    by_cases h0 : k = 0
    · subst h0
      go_wp2_with fail
      refine (step_nil _ _).mono ?_
      rintro e w' ⟨rfl, rfl⟩
      go_wp2
      exact ⟨⟨1, by omega, by go_num, H.out⟩, by simp [intOf]⟩
    · by_cases h1 : k = 1
      · subst h1
        go_wp2_with fail
        refine (step_unmade _ _ _ hc0).mono ?_
        rintro e w' ⟨rfl, rfl⟩
        go_wp2
        exact ⟨⟨2, by omega, by go_num, H.out⟩, by simp [intOf]⟩
      · have : k = 2 := by omega
        subst this
        go_wp2_with fail
        refine (lives_any _).mono ?_
        rintro e w' ⟨rfl, hl⟩
        have HL := Lib.hid hl
        clear hl
        go_wp2
        go_ret
        exact ⟨rfl, H.out.2.2.trans (HL.out.mono H.out.2.2.size)⟩
end Go.Proofs.Ytphbmnjkhgfnoaa
