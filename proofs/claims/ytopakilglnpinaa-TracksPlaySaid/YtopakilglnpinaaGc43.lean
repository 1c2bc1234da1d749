/-
  Ticks of a lane that came in; sennitlaw14.great.
-/
import Derived.Test.YtopakilglnpinaaGc42
import Derived.Test.YtopakilglnpinaaGc16
namespace Go.Proofs.Ytopakilglnpinaa
open Go.RowKit
set_option linter.unusedVariables false
set_option linter.unusedSimpArgs false

/-- a tick: what four links bring, what it says itself, how often -/
structure Tk where
  w : Nat → List Rw
  own : Rw
  says : Int
/-- a tick whose cells begin at off of block b -/
structure TkAt (S : Nat → Prop) (w : World) (b off : Nat) (a : Nat → Option Addr) (ln cp : Nat → Nat) (tv : Value) (t : Tk) : Prop where
  c : ∀ i, i < 4 → w.cell? ⟨b, off + i, none⟩ = some (insV a ln cp i)
  rd : ∀ i, i < 4 → RdRs S w (a i) (ln i) (t.w i)
  le : ∀ i, i < 4 → ln i ≤ cp i ∧ cp i ≤ maxLen
  sz : ∀ i, i < 4 → szW (t.w i)
  r1 : hasRow w ⟨b, off + 4, none⟩ 57 = true
  r2 : rowOf w ⟨b, off + 4, none⟩ 57 = t.own.vals tv
  ro : t.own.ok
  rt : RowR S w t.own tv
  rz : t.own.t.length ≤ 140737488355328
  s : w.cell? ⟨b, off + 61, none⟩ = some (.int .u8 t.says)
  sr : 0 ≤ t.says ∧ t.says ≤ 255
theorem TkAt.keep {S : Nat → Prop} {w w' : World} {b off : Nat} {a : Nat → Option Addr} {ln cp : Nat → Nat} {tv : Value} {t : Tk} (h : TkAt S w b off a ln cp tv t) (hs : w.heap.size ≤ w'.heap.size) (hb : w'.heap[b]? = w.heap[b]?) (hk : ∀ b, S b → b < w.heap.size → w'.heap[b]? = w.heap[b]?) : TkAt S w' b off a ln cp tv t := by
  have hr := row_block (w := w) (w' := w') (p := ⟨b, off + 4, none⟩) (n := 57) hb
  exact ⟨fun i hi => (World.cell?_of_block hb).trans (h.c i hi), fun i hi => (h.rd i hi).keep hs hk, h.le, h.sz, hr.1.trans h.r1, hr.2.trans h.r2, h.ro, h.rt.keep hs hk, h.rz, (World.cell?_of_block hb).trans h.s, h.sr⟩
/-- a slice that reads as a list of ticks -/
def RdTk (S : Nat → Prop) (w : World) (x : Option Addr) (len : Nat) (l : List Tk) : Prop :=
  l.length = len ∧ ∀ k t, l[k]? = some t → ∃ b off a ln cp tv, x = some ⟨b, off, none⟩ ∧ S b ∧ b < w.heap.size ∧ TkAt S w b (off + k * 62) a ln cp tv t
theorem RdTk.keep {S : Nat → Prop} {w w' : World} {x : Option Addr} {len : Nat} {l : List Tk} (h : RdTk S w x len l) (hs : w.heap.size ≤ w'.heap.size) (hk : ∀ b, S b → b < w.heap.size → w'.heap[b]? = w.heap[b]?) : RdTk S w' x len l := by
  refine ⟨h.1, fun k t ht => ?_⟩
  obtain ⟨b, off, a, ln, cp, tv, h1, h2, h3, h4⟩ := h.2 k t ht
  exact ⟨b, off, a, ln, cp, tv, h1, h2, by omega, h4.keep hs (hk b h2 h3) hk⟩
theorem RdTk.below {S : Nat → Prop} {w w' : World} {x : Option Addr} {len : Nat} {l : List Tk} (h : RdTk S w x len l) (hb : Below w.heap.size w w') : RdTk S w' x len l := h.keep hb.size fun b _ hl => hb.block b hl
/-- each of its words is short -/
def Tk.small (t : Tk) : Prop := (∀ i, i < 4 → smallW (t.w i)) ∧ t.own.t.length ≤ 800
def smallT (l : List Tk) : Prop := l.length ≤ 40 ∧ ∀ t ∈ l, t.small
/-- its five words -/
def Tk.word (t : Tk) (k : Nat) : List Rw := if k < 4 then t.w k else [t.own]
theorem Tk.small_of {t : Tk} (h : ∀ k, k < 5 → smallW (t.word k)) : t.small := by
  refine ⟨fun i hi => ?_, ?_⟩
  · have := h i (by omega)
    unfold Tk.word at this
    rwa [if_pos hi] at this
  · have := h 4 (by omega)
    unfold Tk.word at this
    rw [if_neg (by omega)] at this
    simp [smallW, tot] at this
    omega

@[go_sem ↓] theorem bs_word5 (ρ : Operand → Value) (d : Option Tmp) (x0 x1 x2 x3 x4 : Operand) (ty : TypeId) (s : String) (af : Array Edge) (g : Option (Nat × Bool)) (w : World) (h0 : lenC (ρ x0) 1 = true) (h1 : lenC (ρ x1) 1 = true) (h2 : lenC (ρ x2) 1 = true) (h3 : lenC (ρ x3) 1 = true) (h4 : lenC (ρ x4) 1 = true) :
    (execOp ρ { dst := d, op := .buildSlice 81 5 #[(0, x0), (1, x1), (2, x2), (3, x3), (4, x4)], type := ty, pos := s, after := af, guard := g }).run Try.prog w = .ok (.value (.slice (some ⟨w.heap.size, 0, none⟩) 5 5)) (w.alloc (.cells (cellsL (ρ x0) ++ (cellsL (ρ x1) ++ (cellsL (ρ x2) ++ (cellsL (ρ x3) ++ cellsL (ρ x4))))).toArray 34)) := by
  have := exec_bslice (n := 1) Try.underlying81 (by kernel_rfl) ρ d 5 [x0, x1, x2, x3, x4] #[(0, x0), (1, x1), (2, x2), (3, x3), (4, x4)] ty s af g w (by simp [iparts]) rfl (by omega) (by omega) (by simp [h0, h1, h2, h3, h4])
  simpa using this
end Go.Proofs.Ytopakilglnpinaa
