/-
  The power of a node, walked: the examples and the laws.
-/
import Derived.Test.YtphbmnjkhgfnoaaRows
import Derived.Test.YtphbmnjkhgfnoaaBoot3
import Derived.WalkKit
import Derived.WalkSpells
import Derived.WalkLawsBesides
import Derived.Outline
import Derived.Deep.QuietTactic
import Derived.BigQuiet
import Derived.Deep.Light
namespace Go.Proofs.Ytphbmnjkhgfnoaa
open Go.RowKit




/-- the program's power against the document's: how many ticks with power there were in a row -/
def PR (boot s left cold run : Int) : Prop :=
  0 ≤ run ∧ 0 ≤ left ∧ left ≤ 4096 ∧ -1 ≤ cold ∧ cold ≤ 1099511627776 ∧
  (s = 0 ∧ run = 0 ∨ s = 1 ∧ 1 ≤ run ∧ left = boot - run ∨ s = 2 ∧ boot < run ∧ cold = run - 1 - boot)

theorem PR.s {boot s left cold run : Int} (h : PR boot s left cold run) : s = 0 ∨ s = 1 ∨ s = 2 := by
  obtain ⟨_, _, _, _, _, h⟩ := h; omega

theorem pr_on {boot s left cold run s' l' c' : Int} (hb0 : 0 ≤ boot) (hb1 : boot ≤ 4096) (hr : run ≤ 100000) (h : PR boot s left cold run) (hp : (s', l', c') = pwOn boot s left cold) :
    PR boot s' l' c' (run + 1) ∧ (run - boot < 0 → s' = 1) ∧ (¬ run - boot < 0 → s' = 2 ∧ c' = run - boot) := by
  obtain ⟨h1, h2, h3, h4, h5, h⟩ := h
  unfold pwOn at hp
  have e0 : min (cold + 1) 1099511627776 = cold + 1 ∨ cold = 1099511627776 := by omega
  rcases h with ⟨rfl, rfl⟩ | ⟨rfl, h6, rfl⟩ | ⟨rfl, h6, h7⟩
  · by_cases hb : 0 < boot
    · simp [hb] at hp
      obtain ⟨rfl, rfl, rfl⟩ := hp
      unfold PR; omega
    · simp [show boot ≤ 0 by omega, show ¬ 0 < boot by omega] at hp
      obtain ⟨rfl, rfl, rfl⟩ := hp
      unfold PR; omega
  · by_cases hb : 0 < boot - run
    · simp [show run < boot by omega] at hp
      obtain ⟨rfl, rfl, rfl⟩ := hp
      unfold PR; omega
    · simp [show ¬ run < boot by omega] at hp
      obtain ⟨rfl, rfl, rfl⟩ := hp
      unfold PR; omega
  · simp at hp
    obtain ⟨rfl, rfl, rfl⟩ := hp
    unfold PR; omega

def PlayRel (w : World) (g1 g2 : Nat) (boot : Int) (k : Nat) (wr : World) : Prop :=
  w.heap.size ≤ g1 ∧ g1 < g2 ∧ ∃ s l c run : Int, PR boot s l c run ∧ run ≤ k ∧ Blk wr g1 100 (pwCells boot s l c) ∧ Blk wr g2 136 #[.int .i64 boot, .int .i64 run] ∧ Below w.heap.size w wr

theorem play_a (w : World) (g1 g2 : Nat) (boot : Int) (hb0 : 0 ≤ boot) (hb1 : boot ≤ 4096) (k : Nat) (hk : k ≤ 6000) (p : Bool) (wr : World) (h : PlayRel w g1 g2 boot k wr) :
    ∃ s' c' : Int, Calls Try.prog 37 #[.pointer (some ⟨g1, 0, none⟩), .bool p] wr fun e w' => e = .returned (.tuple #[.int .u8 s', .int .i64 c']) ∧ 0 ≤ s' ∧ s' ≤ 2 ∧ Below w.heap.size w w' ∧
      Calls Try.prog 38 #[.pointer (some ⟨g2, 0, none⟩), .bool p] w' fun e w'' => e = .returned (.tuple #[.int .i64 s', .int .i64 c']) ∧ PlayRel w g1 g2 boot (k + 1) w'' := by
  obtain ⟨hg1, hg2, s, l, c, run, hp, hr, b1, b2, hB⟩ := h
  have hS := hp.s
  have hp0 := hp
  obtain ⟨q1, q2, q3, q4, q5, _⟩ := hp0
  have below1 : ∀ w', Chg (· = g1) wr w' → Below w.heap.size w w' := fun w' hc => hB.trans (hc.below hB.size fun k hk => by omega)
  cases p with
  | false =>
    refine ⟨0, -1, (step_off g1 boot s l c wr b1).mono ?_⟩
    rintro e w' ⟨s', l', c', he, rfl, hb, hc⟩
    simp only [Bool.false_eq_true, if_false, Prod.mk.injEq] at he
    obtain ⟨rfl, rfl, rfl⟩ := he
    have hB' := below1 w' hc
    refine ⟨rfl, by omega, by omega, hB', (rstep_off g2 boot run w' (b2.chg hc (by omega))).mono ?_⟩
    rintro e w'' ⟨rfl, hb2, hc2⟩
    refine ⟨rfl, hg1, hg2, 0, l', c', 0, ⟨by omega, by omega, by omega, by omega, by omega, by omega⟩, by omega, hb.chg hc2 (by omega), hb2, hB'.trans (hc2.below hB'.size fun k hk => by omega)⟩
  | true =>
    obtain ⟨s', l', c', he⟩ : ∃ s' l' c', (s', l', c') = pwOn boot s l c := ⟨_, _, _, rfl⟩
    obtain ⟨hp', hlo, hhi⟩ := pr_on hb0 hb1 (by omega) hp he
    refine ⟨s', if s' = 2 then c' else -1, (step_on g1 boot s l c wr hS hb0 hb1 q2 q3 q4 q5 b1).mono ?_⟩
    rintro e w' ⟨s'', l'', c'', he2, rfl, hb, hc⟩
    simp only [if_true] at he2
    rw [← he] at he2
    simp only [Prod.mk.injEq] at he2
    obtain ⟨rfl, rfl, rfl⟩ := he2
    have hB' := below1 w' hc
    have hs' := hp'.s
    refine ⟨rfl, by omega, by omega, hB', (rstep_on g2 boot run w' hb0 hb1 q1 (by omega) (b2.chg hc (by omega))).mono ?_⟩
    rintro e w'' ⟨rfl, hb2, hc2⟩
    refine ⟨?_, hg1, hg2, _, _, _, run + 1, hp', by omega, hb.chg hc2 (by omega), hb2, hB'.trans (hc2.below hB'.size fun k hk => by omega)⟩
    by_cases hlt : run - boot < 0
    · rw [if_pos hlt, hlo hlt]; rfl
    · obtain ⟨h1, h2⟩ := hhi hlt
      rw [if_neg hlt, h1, h2]; rfl

def BPost (w : World) (e : Ending) (w' : World) : Prop := e = .returned (.bool true) ∧ Below w.heap.size w w'

theorem play_long (boot : Int) (a : Option Addr) (len cap : Nat) (w : World) (h : 6000 < len) (hm : len ≤ maxLen) :
    Calls Try.prog 8 #[.int .i64 boot, .slice a len cap] w (BPost w) := by
  unfold maxLen at hm
  go_enter Try.func8, Try.ntmps8
  go_wp2_with fail
  refine (lives_any _).mono ?_
  rintro e w' ⟨rfl, hl⟩
  go_wp2
  go_ret
  exact ⟨rfl, hl⟩

set_option maxHeartbeats 400000 in
theorem play_bad (boot : Int) (a : Option Addr) (len cap : Nat) (w : World) (h : len ≤ 6000) (hb : boot < 0 ∨ 4096 < boot) :
    Calls Try.prog 8 #[.int .i64 boot, .slice a len cap] w (BPost w) := by
  go_enter Try.func8, Try.ntmps8
  go_wp2_with fail
  refine (new_bad boot _ hb).mono ?_
  rintro e w' ⟨rfl, rfl⟩
  go_wp2_with fail
  refine (rnew_bad boot _ hb).mono ?_
  rintro e w' ⟨rfl, rfl⟩
  go_wp2_with fail
  refine (lives_any _).mono ?_
  rintro e w' ⟨rfl, hl⟩
  go_wp2
  go_ret
  exact ⟨rfl, hl⟩

set_option maxHeartbeats 400000 in
theorem play_ok (boot : Int) (a : Option Addr) (len cap : Nat) (bs : List Value) (w : World) (h : len ≤ 6000) (hb0 : 0 ≤ boot) (hb1 : boot ≤ 4096)
    (hrd : Rd1 w a len bs) (hbs : ∀ v ∈ bs, ∃ b, v = .bool b) :
    Calls Try.prog 8 #[.int .i64 boot, .slice a len cap] w (BPost w) := by
  have HR := Lib.hid (And.intro hrd hbs)
  clear hrd hbs
  go_enter Try.func8, Try.ntmps8
  go_wp2_with fail
  refine (new_ok boot _ hb0 hb1).mono ?_
  rintro e w' ⟨rfl, rfl⟩
  go_wp2_with fail
  refine (rnew_ok boot _ hb0 hb1).mono ?_
  rintro e w' ⟨rfl, rfl⟩
  go_wp2_with fail
  have hst : PlayRel w w.heap.size (w.heap.size + 1) boot 0 ((w.alloc (.cells (pwCells boot 0 0 0) 100)).alloc (.cells #[.int .i64 boot, .int .i64 0] 136)) := by
    have e1 : (w.alloc (.cells (pwCells boot 0 0 0) 100)).heap.size = w.heap.size + 1 := by simp
    refine ⟨by omega, by omega, 0, 0, 0, 0, ⟨by omega, by omega, by omega, by omega, by omega, by omega⟩, by omega, (Blk.new _ _ _).alloc _, ?_, ((Below.refl _ _).alloc (by simp) _).alloc (by simp) _⟩
    rw [← e1]; exact Blk.new _ _ _
  have HS := Lib.hid hst
  clear hst
  go_loopw [9] (fun i wr => ∃ k : Nat, k ≤ len ∧ i = .int .i64 k ∧ PlayRel w w.heap.size (w.heap.size + 1) boot k wr) (fun i _ => len - (intOf i).toNat)
  case atStart => exact ⟨0, by omega, rfl, HS.out⟩
  case round =>
    obtain ⟨k, hk, rfl, hr⟩ := hrel
    have hB := hr.2.2
    by_cases hlt : k < len
    · obtain ⟨_, _, _, _, _, _, _, _, hB'⟩ := hB
      have hv : bs[k]? = some (bs[k]'(by rw [HR.out.1.1]; exact hlt)) := List.getElem?_eq_getElem _
      obtain ⟨b, off, rfl, hc⟩ := HR.out.1.2 k _ hv
      obtain ⟨p, hp⟩ := HR.out.2 _ (List.mem_of_getElem? hv)
      rw [hp] at hc
      have hbl := World.block_lt_of_cell? w _ hc
      have hcr : wr.cell? ⟨b, off + k, none⟩ = some (.bool p) := (hB'.cell (p := ⟨b, off + k, none⟩) hbl).trans hc
      obtain ⟨s', c', hs⟩ := play_a w w.heap.size (w.heap.size + 1) boot hb0 hb1 k (by omega) p wr hr
      have H := Lib.hid (And.intro hs (And.intro hc hbl))
      clear hs hc hbl hr hv hp hB'
      go_wp2_with fail
      refine H.out.1.mono ?_
      rintro e w1 ⟨rfl, s0, s2, hB1, hs1⟩
      have hcr1 : w1.cell? ⟨b, off + k, none⟩ = some (.bool p) := (hB1.cell (p := ⟨b, off + k, none⟩) H.out.2.2).trans H.out.2.1
      have H1 := Lib.hid hs1
      clear hs1 hB1 hcr
      go_wp2_with fail
      refine H1.out.mono ?_
      rintro e w2 ⟨rfl, hr2⟩
      have H2 := Lib.hid hr2
      clear hr2
      go_wp2
      exact ⟨⟨k + 1, by omega, by go_num, H2.out⟩, by simp [intOf]; omega⟩
    · have : k = len := by omega
      subst this
      obtain ⟨_, _, _, _, _, _, _, _, hB'⟩ := hB
      have HB := Lib.hid hB'
      clear hr hB'
      go_wp2_with fail
      refine (lives_any _).mono ?_
      rintro e w' ⟨rfl, hl⟩
      have HL := Lib.hid hl
      clear hl
      go_wp2
      go_ret
      exact ⟨rfl, HB.out.trans (HL.out.mono HB.out.size)⟩

theorem play_any (boot : Int) (a : Option Addr) (len cap : Nat) (bs : List Value) (w : World) (hm : len ≤ maxLen) (hrd : Rd1 w a len bs) (hbs : ∀ v ∈ bs, ∃ b, v = .bool b) :
    Calls Try.prog 8 #[.int .i64 boot, .slice a len cap] w (BPost w) := by
  by_cases h : 6000 < len
  · exact play_long boot a len cap w h hm
  · by_cases hb : 0 ≤ boot ∧ boot ≤ 4096
    · exact play_ok boot a len cap bs w (by omega) hb.1 hb.2 hrd hbs
    · exact play_bad boot a len cap w (by omega) (by omega)
end Go.Proofs.Ytphbmnjkhgfnoaa
