/-
  The clique's laws, walked: CliquesVoid, CliquesPlay.
-/
import Derived.Test.YtphbmnjkhgfnoaaClq4
import Derived.Test.YtphbmnjkhgfnoaaClq6
import Derived.Test.YtphbmnjkhgfnoaaOpen
namespace Go.Proofs.Ytphbmnjkhgfnoaa
open Go.RowKit

/-- how many were even in a row, at the end -/
def runT (bs : List Bool) : Nat := (bs.reverse.takeWhile id).length
theorem runT_snoc (bs : List Bool) (b : Bool) : runT (bs ++ [b]) = if b then runT bs + 1 else 0 := by
  cases b <;> simp [runT]
theorem take_all_iff : ∀ (l : List Bool) (m : Nat), (m ≤ l.length ∧ (l.take m).all id = true) ↔ m ≤ (l.takeWhile id).length
  | l, 0 => by simp
  | [], m + 1 => by simp
  | b :: l, m + 1 => by
    have ih := take_all_iff l m
    cases b
    · simp
    · simp at ih ⊢
      exact ih
theorem allEven_iff (m : Nat) (bs : List Bool) : allEven m bs = decide (m ≤ runT bs) := by
  have := take_all_iff bs.reverse m
  unfold allEven runT
  rw [List.length_reverse] at this
  by_cases h : m ≤ (bs.reverse.takeWhile id).length
  · obtain ⟨h1, h2⟩ := this.2 h
    rw [decide_eq_true h1, h2, decide_eq_true h]; rfl
  · rw [decide_eq_false h, Bool.eq_false_iff]
    intro hh
    simp only [Bool.and_eq_true, decide_eq_true_eq] at hh
    exact h (this.1 hh)
theorem cqOn_run (bs : List Bool) (b : Bool) (N : Nat) (hN : 1 ≤ N) : cqOn (min (runT bs) N : Nat) N b = (min (runT (bs ++ [b])) N : Nat) := by
  rw [runT_snoc]
  cases b
  · simp [cqOn]
  · simp [cqOn]; omega
theorem cqOn_sure (bs : List Bool) (b : Bool) (N : Nat) (hN : 1 ≤ N) : (cqOn (min (runT bs) N : Nat) N b == (N : Int)) = allEven N (bs ++ [b]) := by
  rw [cqOn_run bs b N hN, allEven_iff]
  by_cases h : N ≤ runT (bs ++ [b])
  · rw [decide_eq_true h, Nat.min_eq_right h]; simp
  · rw [decide_eq_false h, Nat.min_eq_left (by omega)]; simp; omega

def CPost (w : World) (e : Ending) (w' : World) : Prop := e = .returned (.bool true) ∧ Below w.heap.size w w'

set_option maxRecDepth 100000 in
theorem cvoid_any (a : Option Addr) (len cap : Nat) (c : Int) (w : World) : Calls Try.prog 6 #[.agg #[.slice a len cap, .int .i64 c]] w (CPost w) := by
  go_enter Try.func6, Try.ntmps6
  go_wp2_with fail
  refine (cqstep_unmade _ _ _ _ ?_).mono ?_
  · simp [World.cell?_alloc_new]
  rintro e w' ⟨rfl, rfl⟩
  go_wp2_with fail
  refine (cqstep_nil _ _ _).mono ?_
  rintro e w' ⟨rfl, rfl⟩
  go_wp2_with fail
  refine (clives_any _).mono ?_
  rintro e w' ⟨rfl, hl⟩
  have HL := Lib.hid hl
  clear hl
  go_wp2
  go_ret
  refine ⟨rfl, (((Below.refl _ _).alloc (Nat.le_refl _) _).alloc (by simp) _).trans (HL.out.mono (by simp; omega))⟩

/-- a tick that is read -/
def RdTick (w : World) (a : Option Addr) (len : Nat) : Prop :=
  ∀ k, k < len → ∃ b off x m cap c l, a = some ⟨b, off, none⟩ ∧ b < w.heap.size ∧ w.cell? ⟨b, off + k * 2, none⟩ = some (.slice x m cap) ∧ w.cell? ⟨b, off + k * 2 + 1, none⟩ = some (.int .i64 c) ∧ RdHs (· < w.heap.size) w x m l ∧ m ≤ cap ∧ cap ≤ maxLen

def PlayC (W : World) (g1 g2 : Nat) (N : Nat) (bs : List Bool) (wr : World) : Prop :=
  W.heap.size ≤ g1 ∧ g1 < g2 ∧ Blk wr g1 83 (cqCells (min (runT bs) (2 * N) : Nat) (2 * N : Nat) N) ∧ (∃ v, RcRel W g2 N v bs wr) ∧ Below W.heap.size W wr

theorem cplay_step (W : World) (g1 g2 N : Nat) (h4 : 4 ≤ N) (h16 : N ≤ 16) (bs : List Bool) (hbs : bs.length ≤ 1000) (x : Option Addr) (m cap : Nat) (c : Int) (l : List Hd) (wr : World) (h : PlayC W g1 g2 N bs wr)
    (hrd : RdHs (· < W.heap.size) wr x m l) (hmc : m ≤ cap) (hcm : cap ≤ maxLen) :
    Calls Try.prog 32 #[.pointer (some ⟨g1, 0, none⟩), .slice x m cap, .int .i64 c] wr fun e w1 => e = .returned (.bool (allEven (2 * N) (bs ++ [evenF N l c]))) ∧ Below W.heap.size W w1 ∧ Chg (· = g1) wr w1 ∧
      ∀ (x' : Option Addr) (cap' : Nat) (S' : Nat → Prop), m ≤ 100 → RdHs S' w1 x' m l →
        Calls Try.prog 33 #[.pointer (some ⟨g2, 0, none⟩), .slice x' m cap', .int .i64 c] w1 fun e w2 => e = .returned (.bool (allEven (2 * N) (bs ++ [evenF N l c]))) ∧ PlayC W g1 g2 N (bs ++ [evenF N l c]) w2 := by
  obtain ⟨hg1, hg2, hb1, ⟨v, hrc⟩, hB⟩ := h
  refine (cqstep_any _ g1 _ (2 * N : Nat) N c x m cap l wr hb1 (by omega) (by omega) (by omega) (by omega) (by omega) (by omega) hrd hmc hcm).mono ?_
  rintro e w1 ⟨rfl, hb1', hc1⟩
  rw [cqOn_sure bs _ (2 * N) (by omega)]
  rw [cqOn_run bs _ (2 * N) (by omega)] at hb1'
  have hB1 : Below W.heap.size W w1 := hB.trans (hc1.below hB.size fun k hk => by omega)
  refine ⟨rfl, hB1, hc1, fun x' cap' S' hm hrd' => ?_⟩
  have hrc1 : RcRel W g2 N v bs w1 := ⟨hrc.1.chg hc1 (by omega), own_block hrc.2 (fun k hk => hc1.block k (hrc.2.lt k hk).2 (fun h => own_not hrc.2 hb1 (by decide) (by rw [hk, h])))⟩
  refine (rcq_step W S' g2 N c v bs x' m cap' l w1 (by omega) (by omega) hrc1 (by omega) hB1.size hrd' (by omega)).mono ?_
  rintro e w2 ⟨rfl, ⟨v', hrc2⟩, hc2⟩
  have hne1 : ¬ (g1 = g2 ∨ some g1 = v.ownBlock) := by
    rintro (h | h)
    · omega
    · exact own_not hrc1.2 hb1' (by decide) h.symm
  refine ⟨by rw [Int.toNat_natCast], hg1, hg2, hb1'.chg hc2 hne1, ⟨v', hrc2⟩, hB1.trans (hc2.below hB1.size fun k hk => ?_)⟩
  rcases hk with rfl | hk
  · omega
  · exact (hrc1.2.lt k hk.symm).1
end Go.Proofs.Ytphbmnjkhgfnoaa
