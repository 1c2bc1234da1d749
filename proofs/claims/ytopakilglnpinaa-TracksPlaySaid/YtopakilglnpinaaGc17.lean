/-
  The reference's lane of chapter 14: where it lies; a distance, a track.
-/
import Derived.Test.YtopakilglnpinaaGc05
import Derived.Test.YtopakilglnpinaaGc10
import Derived.Test.YtopakilglnpinaaGc16
namespace Go.Proofs.Ytopakilglnpinaa
open Go.RowKit
set_option linter.unusedVariables false
set_option linter.unusedSimpArgs false

theorem ag_rword : aggOf Try.prog 63 1 = true := by kernel_rfl
section
variable (ρ : Operand → Value) (d : Option Tmp) (x y : Operand) (ty : TypeId) (s : String) (af : Array Edge) (g : Option (Nat × Bool)) (w : World)
@[go_sem ↓] theorem ld_rword (h : hasRowV w 1 (ρ x) = true) :
    (execOp ρ { dst := d, op := .load 63 x, type := ty, pos := s, after := af, guard := g }).run Try.prog w = .ok (.value (.agg (rowV w 1 (ρ x)).toArray)) w := exec_load ag_rword ρ d x ty s af g w h
@[go_sem ↓] theorem st_rword (h1 : okAgg 1 (ρ y) = true) (h2 : canPutV w 1 (ρ x) = true) :
    (execOp ρ { dst := d, op := .store 63 x y, type := ty, pos := s, after := af, guard := g }).run Try.prog w = .ok .skip (putV w (ρ x) (ρ y)) := exec_store ag_rword ρ d x y ty s af g w h1 h2
end
/-- the reference's lane, read: D are the blocks of rows and tables -/
structure RfRd (D : Nat → Prop) (w : World) (lb : Nat) (M : RfM) (ao : Option Addr) (co gc cc : Nat) : Prop where
  n : w.cell? ⟨lb, 0, none⟩ = some (.int .i64 M.n)
  me : w.cell? ⟨lb, 1, none⟩ = some (.int .i64 M.me)
  owns : w.cell? ⟨lb, 3, none⟩ = some (.slice ao M.T co)
  come : w.cell? ⟨lb, 4, none⟩ = some (.slice (some ⟨gc, 0, none⟩) M.T cc)
  rd : RdRs D w ao M.T ((List.range M.T).map M.own)
  ins : ∀ j k, j < M.T → k < 4 → ∃ a c, w.cell? ⟨gc, j * 4 + k, none⟩ = some (.slice a M.n c) ∧ RdRs D w a M.n (fillR M.n (M.ins j k)) ∧ M.n ≤ c ∧ c ≤ maxLen
  lt : lb < w.heap.size ∧ gc < w.heap.size
  le : M.T ≤ 1000 ∧ 4 ≤ M.n ∧ M.n ≤ 16 ∧ M.me < M.n ∧ M.T ≤ co ∧ M.T ≤ cc ∧ co ≤ maxLen ∧ cc ≤ maxLen
theorem RfRd.below {D : Nat → Prop} {w w' : World} {lb : Nat} {M : RfM} {ao : Option Addr} {co gc cc : Nat} (h : RfRd D w lb M ao co gc cc) (hb : Below w.heap.size w w') : RfRd D w' lb M ao co gc cc :=
  ⟨(hb.cell (p := ⟨lb, 0, none⟩) h.lt.1).trans h.n, (hb.cell (p := ⟨lb, 1, none⟩) h.lt.1).trans h.me, (hb.cell (p := ⟨lb, 3, none⟩) h.lt.1).trans h.owns, (hb.cell (p := ⟨lb, 4, none⟩) h.lt.1).trans h.come,
    h.rd.keep hb.size fun b _ hl => hb.block b hl, fun j k hj hk => by
      obtain ⟨a, c, h1, h2, h3⟩ := h.ins j k hj hk
      exact ⟨a, c, (hb.cell (p := ⟨gc, j * 4 + k, none⟩) h.lt.2).trans h1, h2.keep hb.size fun b _ hl => hb.block b hl, h3⟩, ⟨by have := hb.size; have := h.lt.1; omega, by have := hb.size; have := h.lt.2; omega⟩, h.le⟩
set_option maxRecDepth 100000 in
set_option maxHeartbeats 400000 in
theorem rdistance_any (n me s : Nat) (cw : Bool) (w : World) (h4 : 4 ≤ n) (h16 : n ≤ 16) (hm : me < n) (hs : s < n) :
    Calls Try.prog 46 #[.int .i64 n, .int .i64 me, .int .i64 s, .bool cw] w fun e w' => e = .returned (.int .i64 (distM n me (if cw then 0 else 1) s)) ∧ w' = w := by
  have hn0 : ¬ (n : Int) = 0 := by omega
  unfold distM
  cases cw with
  | true =>
    rw [if_pos (by rfl)]
    have he : Hid (((me : Int) + n - s).tmod n = ((me + n - s) % n : Nat)) := Lib.hid (by rw [Int.tmod_eq_emod_of_nonneg (by omega)]; rw [show (me : Int) + n - s = ((me + n - s : Nat) : Int) from by omega]; norm_cast)
    have he2 : Hid (((me : Int) + n - s) % n = ((me + n - s) % n : Nat)) := Lib.hid (by rw [show (me : Int) + n - s = ((me + n - s : Nat) : Int) from by omega]; norm_cast)
    go_enter Try.func46, Try.ntmps46
    go_wp2
    go_ret
    exact ⟨by first | (rw [he.out]; rfl) | (rw [he2.out]; rfl), rfl⟩
  | false =>
    rw [if_neg (by decide)]
    have he : Hid (((s : Int) + n - me).tmod n = ((s + n - me) % n : Nat)) := Lib.hid (by rw [Int.tmod_eq_emod_of_nonneg (by omega)]; rw [show (s : Int) + n - me = ((s + n - me : Nat) : Int) from by omega]; norm_cast)
    have he2 : Hid (((s : Int) + n - me) % n = ((s + n - me) % n : Nat)) := Lib.hid (by rw [show (s : Int) + n - me = ((s + n - me : Nat) : Int) from by omega]; norm_cast)
    go_enter Try.func46, Try.ntmps46
    go_wp2
    go_ret
    exact ⟨by first | (rw [he.out]; rfl) | (rw [he2.out]; rfl), rfl⟩
theorem distM_zero {n me way s : Nat} (hm : me < n) (hs : s < n) : distM n me way s = 0 ↔ s = me := by
  constructor
  · intro h
    by_cases hne : s = me
    · exact hne
    · exfalso
      unfold distM at h
      split at h
      · by_cases hlt : me < s
        · rw [Nat.mod_eq_of_lt (by omega)] at h; omega
        · rw [show me + n - s = (me - s) + n from by omega, Nat.add_mod_right, Nat.mod_eq_of_lt (by omega)] at h; omega
      · by_cases hlt : s < me
        · rw [Nat.mod_eq_of_lt (by omega)] at h; omega
        · rw [show s + n - me = (s - me) + n from by omega, Nat.add_mod_right, Nat.mod_eq_of_lt (by omega)] at h; omega
  · rintro rfl
    unfold distM
    split <;> rw [show s + n - s = n from by omega, Nat.mod_self]
/-- a row handed back -/
def RRowP (D : Nat → Prop) (r : Rw) (w : World) (e : Ending) (w' : World) : Prop := ∃ tv, e = .returned (.agg (r.vals tv).toArray) ∧ RowR D w r tv ∧ r.ok ∧ Below w.heap.size w w'
end Go.Proofs.Ytopakilglnpinaa
