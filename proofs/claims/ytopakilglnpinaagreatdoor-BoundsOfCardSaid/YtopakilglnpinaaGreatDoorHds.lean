
/-
  Held things appended onto a slice of the call's own; what is owned keeps. Plain lemmas.
-/
import Derived.Test.YtopakilglnpinaaGreatDoorBld
namespace Go.Proofs.YtopakilglnpinaaGreatDoor
open Go.RowKit
set_option linter.unusedVariables false
set_option linter.unusedSimpArgs false

def OwnHs (w0 : World) (e : TypeId) (v : Value) (l : List Hd) (wr : World) : Prop := wr.ownsRow w0.heap.size e 56 v l.length (l.flatMap Hd.vals) ∧ (∀ x ∈ l, x.ok) ∧ Below w0.heap.size w0 wr
theorem OwnHs.nil (w0 : World) (e : TypeId) (wr : World) (h : Below w0.heap.size w0 wr) : OwnHs w0 e (.slice none 0 0) [] wr := ⟨World.ownsRow_nil _ _ _ _, by simp, h⟩
/-- a slice is handed back: it reads as l, in new memory -/
def NewHs (w : World) (l : List Hd) (e : Ending) (w' : World) : Prop :=
  ∃ a cap, e = .returned (.slice a l.length cap) ∧ RdHs (w.heap.size ≤ ·) w' a l.length l ∧ l.length ≤ cap ∧ cap ≤ maxLen ∧ Below w.heap.size w w'
theorem OwnHs.new {w0 : World} {e : TypeId} {v : Value} {l : List Hd} {wr : World} (h : OwnHs w0 e v l wr) : NewHs w0 l (.returned v) wr := by
  obtain ⟨a, cap, rfl, h1, h2, h3⟩ := RdHs.of_own h.1 h.2.1
  exact ⟨a, cap, rfl, h1, h2, h3, h.2.2⟩
theorem OwnHs.push {w0 : World} {e : TypeId} {v : Value} {l : List Hd} {wr : World} (h : OwnHs w0 e v l wr) (x : Hd) (hx : x.ok) {w1 : World} {v' : Value} {n : Nat} (hn : l.length = n)
    (o1 : w1.ownsRow w0.heap.size e 56 v' (n + 1) (l.flatMap Hd.vals ++ x.vals)) {wm : World} (hm : Below w0.heap.size w0 wm) (hg : wm.grownBy w1 v.ownBlock) : OwnHs w0 e v' (l ++ [x]) w1 := by
  subst hn
  refine ⟨by rw [List.length_append, List.flatMap_append]; simpa using o1, fun y hy => ?_, hm.grown hg hm.size fun k hk => (h.1.lt k hk).1⟩
  rcases List.mem_append.1 hy with hy | hy
  · exact h.2.1 y hy
  · simp at hy; rw [hy]; exact hx
theorem own_block {w w' : World} {base : Nat} {e : TypeId} {size : Nat} {v : Value} {n : Nat} {xs : List Value} (h : w.ownsRow base e size v n xs) (hb : ∀ k, v.ownBlock = some k → w'.heap[k]? = w.heap[k]?) : w'.ownsRow base e size v n xs := by
  refine ⟨h.1, ?_⟩
  rcases h.2 with h2 | ⟨g, cap, cur, rfl, hg, hh, r⟩
  · exact .inl h2
  · exact .inr ⟨g, cap, cur, rfl, hg, (hb g rfl).trans hh, r⟩
theorem own_not {w : World} {base : Nat} {e t : TypeId} {size n g : Nat} {v : Value} {xs : List Value} {cs : Array Value} (h : w.ownsRow base e size v n xs) (hg : Blk w g t cs) (hne : e ≠ t) : v.ownBlock ≠ some g := by
  rcases h.2 with ⟨rfl, _⟩ | ⟨g', cap, cur, rfl, _, hh, _⟩
  · simp [Value.ownBlock]
  · intro he
    have : g' = g := by simpa [Value.ownBlock] using he
    subst this
    exact Blk.ne_ (t := e) hh hg hne rfl
/-- a whole row stored into a block of its own size -/
theorem Blk.put_all {w : World} {g : Nat} {t : TypeId} {z l : List Value} (h : Blk w g t z.toArray) (hl : z.length = l.length) : Blk (putRow w ⟨g, 0, none⟩ l) g t l.toArray := by
  have := h.put 0 l
  simpa [← hl] using this
/-- a known block, read whole -/
theorem Blk.whole {w : World} {g : Nat} {t : TypeId} {l : List Value} {n : Nat} (h : Blk w g t l.toArray) (hl : l.length = n) : hasRow w ⟨g, 0, none⟩ n = true ∧ rowOf w ⟨g, 0, none⟩ n = l ∧ canPut w ⟨g, 0, none⟩ n = true := by
  subst hl
  obtain ⟨-, -, h3, h4, h5⟩ := h.rules
  refine ⟨by rw [h3]; simp, ?_, by rw [h5]; simp⟩
  rw [h4 _ _ (by omega)]; simp
/-- a vector's entry of an age -/
def hdAge (n : Int) : Hd := ⟨true, .int .i64 n :: cellR⟩
theorem hdAge_ok {n : Int} (h0 : -9223372036854775808 ≤ n) (h1 : n ≤ 9223372036854775807) : (hdAge n).ok := cellR_ok n (by simp [Lit.wf, IntKind.min, IntKind.max, IntKind.signed, IntKind.bits]; omega)
end Go.Proofs.YtopakilglnpinaaGreatDoor
