
/-
  (*tracks.Lane).distance; laws for a lane's structs as rows of cells.
-/
import Derived.Test.YtbdklfcgcmdgaaaTrk2
import Derived.WalkSpells
import Derived.Deep.CutBlock
import Derived.Deep.DeepCutAuto
import Derived.Deep.QuietTactic
import Derived.BigQuiet
import Derived.Deep.RegionHeld3
import Derived.Deep.DrawnRows
namespace Go.Proofs.Ytbdklfcgcmdgaaa
open Go.RowKit
set_option linter.unusedVariables false
set_option linter.unusedSimpArgs false

theorem canPut_putL {w : World} {p : Addr} {l : List Value} (h : canPut w p l.length = true) (q : Addr) (n : Nat) : canPut (putRow w p l) q n = canPut w q n := by
  obtain ⟨pb, po, ps⟩ := p
  obtain ⟨qb, qo, qs⟩ := q
  by_cases e : qb = pb
  · subst e
    unfold canPut at h
    split at h
    · rename_i cur t hg
      simp only [Bool.and_eq_true, decide_eq_true_eq] at h
      have hp : (putRow w ⟨qb, po, ps⟩ l).heap[qb]? = some (.cells (cur.toList.take po ++ l ++ cur.toList.drop (po + l.length)).toArray t (0, 0)) := by
        have hb : Blk w qb t cur.toList.toArray := by unfold Blk; simpa using hg
        have := hb.put po l
        unfold Blk at this
        rw [← this]
        rfl
      unfold canPut
      simp only
      rw [hp, hg]
      have hle := h.2
      have : (cur.toList.take po ++ l ++ cur.toList.drop (po + l.length)).toArray.size = cur.size := by
        simp; omega
      simp only [this]
    · cases h
  · have : (putRow w ⟨pb, po, ps⟩ l).heap[qb]? = w.heap[qb]? := putRow_other _ _ _ _ e
    unfold canPut
    simp only
    rw [this]
theorem cell_put {w : World} {p q : Addr} {v : Value} {l : List Value} (h : w.cell? p = some v) (hne : p.block ≠ q.block) : (putRow w q l).cell? p = some v := (World.cell?_of_block (putRow_other _ _ _ _ hne)).trans h
theorem row_put {w : World} {p q : Addr} {n : Nat} {l : List Value} (hne : p.block ≠ q.block) : hasRow (putRow w q l) p n = hasRow w p n ∧ rowOf (putRow w q l) p n = rowOf w p n := row_block (putRow_other _ _ _ _ hne)

/-! ### structs of a lane -/
theorem ag_side : aggOf Try.prog 146 2 = true := by kernel_rfl
theorem ag_mom : aggOf Try.prog 149 4 = true := by kernel_rfl
theorem ag_lane : aggOf Try.prog 83 5 = true := by kernel_rfl

section
variable (ρ : Operand → Value) (d : Option Tmp) (x y : Operand) (ty : TypeId) (s : String) (af : Array Edge) (g : Option (Nat × Bool)) (w : World)
@[go_sem ↓] theorem ld_side (h : hasRowV w 2 (ρ x) = true) :
    (execOp ρ { dst := d, op := .load 146 x, type := ty, pos := s, after := af, guard := g }).run Try.prog w = .ok (.value (.agg (rowV w 2 (ρ x)).toArray)) w := exec_load ag_side ρ d x ty s af g w h
@[go_sem ↓] theorem ld_mom (h : hasRowV w 4 (ρ x) = true) :
    (execOp ρ { dst := d, op := .load 149 x, type := ty, pos := s, after := af, guard := g }).run Try.prog w = .ok (.value (.agg (rowV w 4 (ρ x)).toArray)) w := exec_load ag_mom ρ d x ty s af g w h
@[go_sem ↓] theorem st_side (h1 : okAgg 2 (ρ y) = true) (h2 : canPutV w 2 (ρ x) = true) :
    (execOp ρ { dst := d, op := .store 146 x y, type := ty, pos := s, after := af, guard := g }).run Try.prog w = .ok .skip (putV w (ρ x) (ρ y)) := exec_store ag_side ρ d x y ty s af g w h1 h2
@[go_sem ↓] theorem st_mom (h1 : okAgg 4 (ρ y) = true) (h2 : canPutV w 4 (ρ x) = true) :
    (execOp ρ { dst := d, op := .store 149 x y, type := ty, pos := s, after := af, guard := g }).run Try.prog w = .ok .skip (putV w (ρ x) (ρ y)) := exec_store ag_mom ρ d x y ty s af g w h1 h2
end

@[go_sem ↓] theorem fld_word (v : Value) (w : World) : (Instr.field 34 (.agg #[v]) 0).run Try.prog w = .ok v w := by
  have hA := run_isAggB w ⟨_, Try.underlying32⟩
  have hg : isAggB Try.prog 32 = false := by kernel_rfl
  rw [hg] at hA
  unfold Instr.field
  simp only [Sem.run_bind, run_underlying Try.underlying34, Result.andThen_ok]
  simp [part, hA, asAgg]
@[go_sem ↓] theorem fld_side0 (a b : Value) (w : World) : (Instr.field 146 (.agg #[a, b]) 0).run Try.prog w = .ok a w := (by kernel_rfl)
@[go_sem ↓] theorem fld_side1 (a b : Value) (w : World) : (Instr.field 146 (.agg #[a, b]) 1).run Try.prog w = .ok b w := (by kernel_rfl)
@[go_sem ↓] theorem idx_mom0 (a b c d : Value) (w : World) : (Instr.index 149 (.agg #[a, b, c, d]) (.int .i64 0)).run Try.prog w = .ok (.agg #[a, b]) w := (by kernel_rfl)
@[go_sem ↓] theorem idx_mom1 (a b c d : Value) (w : World) : (Instr.index 149 (.agg #[a, b, c, d]) (.int .i64 1)).run Try.prog w = .ok (.agg #[c, d]) w := (by kernel_rfl)

set_option maxRecDepth 100000 in
set_option maxHeartbeats 400000 in
theorem distance_any (p n me way s : Nat) (w : World) (hn : w.cell? ⟨p, 0, none⟩ = some (.int .i64 n)) (hme : w.cell? ⟨p, 1, none⟩ = some (.int .i64 me)) (h4 : 4 ≤ n) (h16 : n ≤ 16) (hm : me < n) (hs : s < n) :
    Calls Try.prog 79 #[.pointer (some ⟨p, 0, none⟩), .int .i64 way, .int .i64 s] w fun e w' => e = .returned (.int .i64 (distM n me way s)) ∧ ∃ k, w' = w.drewN k := by
  have hn0 : ¬ (n : Int) = 0 := by omega
  unfold distM
  by_cases hw : way = 0
  · rw [if_pos hw]
    have hwb : ((way : Int) == 0) = true := by simp; omega
    have he : Hid (((me : Int) - s + n).tmod n = ((me + n - s) % n : Nat)) := Lib.hid (by rw [Int.tmod_eq_emod_of_nonneg (by omega)]; rw [show (me : Int) - s + n = ((me + n - s : Nat) : Int) from by omega]; norm_cast)
    have he2 : Hid (((me : Int) - s + n) % n = ((me + n - s) % n : Nat)) := Lib.hid (by rw [show (me : Int) - s + n = ((me + n - s : Nat) : Int) from by omega]; norm_cast)
    clear hw
    go_enter Try.func79, Try.ntmps79
    go_wp2
    go_quiet (fail)
    go_wp2
    go_ret
    exact ⟨by first | (rw [he.out]; rfl) | (rw [he2.out]; rfl), _, rfl⟩
  · rw [if_neg hw]
    have hwb : ((way : Int) == 0) = false := by simp; omega
    have he : Hid (((s : Int) - me + n).tmod n = ((s + n - me) % n : Nat)) := Lib.hid (by rw [Int.tmod_eq_emod_of_nonneg (by omega)]; rw [show (s : Int) - me + n = ((s + n - me : Nat) : Int) from by omega]; norm_cast)
    have he2 : Hid (((s : Int) - me + n) % n = ((s + n - me) % n : Nat)) := Lib.hid (by rw [show (s : Int) - me + n = ((s + n - me : Nat) : Int) from by omega]; norm_cast)
    clear hw
    go_enter Try.func79, Try.ntmps79
    go_wp2
    go_quiet (fail)
    go_wp2
    go_ret
    exact ⟨by first | (rw [he.out]; rfl) | (rw [he2.out]; rfl), _, rfl⟩
end Go.Proofs.Ytbdklfcgcmdgaaa
