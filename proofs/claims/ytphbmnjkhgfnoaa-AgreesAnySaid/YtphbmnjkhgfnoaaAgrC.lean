/-
  Vectors in blocks of S; sennitlaw15.spoil of them.
-/
import Derived.Test.YtphbmnjkhgfnoaaAgrB
namespace Go.Proofs.Ytphbmnjkhgfnoaa
open Go.RowKit
set_option linter.unusedVariables false
set_option linter.unusedSimpArgs false

@[go_sem ↓] theorem field_word (v : Value) (w : World) : (Instr.field 25 (.agg #[v]) 0).run Try.prog w = .ok v w := by
  have hA := run_isAggB w ⟨_, Try.underlying22⟩
  have hg : isAggB Try.prog 22 = false := by kernel_rfl
  rw [hg] at hA
  unfold Instr.field
  simp only [Sem.run_bind, run_underlying Try.underlying25, Result.andThen_ok]
  simp [part, hA, asAgg]

def VecS (S : Nat → Prop) (L : List Hd) (v : Value) (w : World) : Prop := (∃ g, v = .slice (some ⟨g, 0, none⟩) L.length L.length ∧ Blk w g 60 (flatH L).toArray ∧ S g) ∨ (L = [] ∧ v = .slice none 0 0)
theorem VecV.toS {B : Nat} {L : List Hd} {v : Value} {w : World} (h : VecV B L v w) : VecS (fun b => B ≤ b ∧ b < w.heap.size) L v w := by
  rcases h with ⟨g, rfl, hb, hg⟩ | h
  · exact .inl ⟨g, rfl, hb, hg, hb.lt⟩
  · exact .inr h
theorem VecS.keep {S : Nat → Prop} {L : List Hd} {v : Value} {w w' : World} (h : VecS S L v w) (hk : ∀ b, S b → b < w.heap.size → w'.heap[b]? = w.heap[b]?) : VecS S L v w' := by
  rcases h with ⟨g, rfl, hb, hg⟩ | h
  · exact .inl ⟨g, rfl, (hk g hg hb.lt).trans hb, hg⟩
  · exact .inr h
theorem VecS.below {S : Nat → Prop} {L : List Hd} {v : Value} {w w' : World} (h : VecS S L v w) (hb : Below w.heap.size w w') : VecS S L v w' := h.keep (fun b _ hlt => hb.block b hlt)
theorem VecS.rd {S : Nat → Prop} {L : List Hd} {v : Value} {w : World} (hL : ∀ x ∈ L, x.ok) (h : VecS S L v w) : ∃ a, v = .slice a L.length L.length ∧ RdHs S w a L.length L := by
  rcases h with ⟨g, rfl, hb, hg⟩ | ⟨rfl, rfl⟩
  · have h3 : Blk w g 60 (flatH L ++ []).toArray := by simpa using hb
    exact ⟨_, rfl, (RdHs.of_blk h3 hL).mono (fun b _ h => by rw [h]; exact hg)⟩
  · exact ⟨none, rfl, ⟨rfl, by simp, by simp⟩⟩
set_option maxRecDepth 100000 in
theorem vspoil_nil (w : World) : Calls Try.prog 25 #[.slice none 0 0] w fun e w' => (∃ v, e = .returned v) ∧ Chg (fun _ => False) w w' := by
  go_enter Try.func25, Try.ntmps25
  go_wp2
  go_loopw [3] (fun i wr => i = .int .i64 0 ∧ Chg (fun _ => False) w wr) (fun i _ => 0)
  case atStart => exact ⟨rfl, Chg.refl _ _⟩
  case round =>
    obtain ⟨rfl, hC⟩ := hrel
    have H := Lib.hid hC
    clear hC
    go_wp2
    go_end0
    exact ⟨⟨_, rfl⟩, H.out⟩
theorem vspoil_any {S : Nat → Prop} {L : List Hd} {v : Value} {w : World} (hL : ∀ x ∈ L, x.ok) (hm : L.length ≤ maxLen) (h : VecS S L v w) :
    Calls Try.prog 25 #[v] w fun e w' => (∃ v, e = .returned v) ∧ Chg S w w' := by
  rcases h with ⟨g, rfl, hb, hg⟩ | ⟨rfl, rfl⟩
  · exact (vspoil_blk g L w hb hL hm).mono fun e w' h => ⟨h.1, h.2.mono (fun k _ hk => by rw [hk]; exact hg)⟩
  · exact (vspoil_nil w).mono fun e w' h => ⟨h.1, h.2.mono (fun k _ hk => hk.elim)⟩
end Go.Proofs.Ytphbmnjkhgfnoaa
