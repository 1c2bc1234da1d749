/-
  map[api.Cell]int: the laws at this program.
-/
import Derived.Test.YtphbmnjkhgfnoaaMapC
import Derived.Test.YtphbmnjkhgfnoaaOwn
namespace Go.Proofs.Ytphbmnjkhgfnoaa
open Go.RowKit
open Go.ChangeMaps (setBlock)
set_option linter.unusedVariables false
set_option linter.unusedSimpArgs false

theorem mapU : Try.prog.underlying 145 = some (.map 58 3) := Try.underlying145
theorem flatCell : flatT Try.prog 6 58 = some cellK := by kernel_rfl
theorem aggCell : isAggB Try.prog 58 = true := by kernel_rfl
theorem zeroInt (w : World) : (zeroValue 3).run Try.prog w = .ok (.int .i64 0) w := by
  have h : (Try.prog.info? 3).bind (·.zero) = some (.int .i64 0) := by kernel_rfl
  cases hi : Try.prog.info? 3 with
  | none => simp [hi] at h
  | some i =>
    simp [hi] at h
    simp [zeroValue, typeInfo, hi, h]
theorem look_cell {k : List Value} (hk : okL cellK k = true) {w : World} {g : Nat} {es : List Ent} {clock : Nat} (h : MapB w g cellK es clock) :
    (Instr.lookup 145 (.map (some g)) (.agg k.toArray) false).run Try.prog w = .ok (.int .i64 (valE es k)) w := run_look mapU flatCell (by omega) aggCell zeroInt hk h
theorem MapB.of_block {w w' : World} {g : Nat} {ks : List Kd} {es : List Ent} {clock : Nat} (h : MapB w g ks es clock) (hb : w'.heap[g]? = w.heap[g]?) : MapB w' g ks es clock := ⟨hb.trans h.blk, h.ok, h.born, h.bs, h.ks'⟩
theorem MapB.lt {w : World} {g : Nat} {ks : List Kd} {es : List Ent} {clock : Nat} (h : MapB w g ks es clock) : g < w.heap.size := lt_of_some h.blk
/-- many[c]++, in whichever order: the two worlds, and the map behind -/
theorem count_cell {k : List Value} (hk : okL cellK k = true) {w : World} {g : Nat} {es : List Ent} {clock : Nat} (h : MapB w g cellK es clock) :
    ∃ (b : Nat) (w1 w2 : World) (es2 : List Ent) (clock2 : Nat), (Instr.mapEntry 145 (.map (some g)) (.agg k.toArray)).run Try.prog w = .ok (.tuple #[.int .i64 (valE es k), .int .i64 b]) w1 ∧
      (Instr.lookup 145 (.map (some g)) (.agg k.toArray) false).run Try.prog w1 = .ok (.int .i64 (valE es k)) w1 ∧
      (Instr.entryStore 145 (.map (some g)) (.int .i64 b) (.int .i64 (valE es k + 1))).run Try.prog w1 = .ok () w2 ∧
      MapB w2 g cellK es2 clock2 ∧ valE es2 k = valE es k + 1 ∧ (∀ k', k' ≠ k → valE es2 k' = valE es k') ∧ Chg (· = g) w w1 ∧ Chg (· = g) w w2 := by
  obtain ⟨b, es1, c1, h1, h2, h3, e, he1, rfl, he2⟩ := run_entry mapU flatCell (by omega) aggCell zeroInt hk h
  obtain ⟨h4, h5⟩ := run_stamp (M := 145) (P := Try.prog) h2 he1 (valE es k + 1)
  have hg := h.lt
  have hch : ∀ (w : World) (o : Obj), Chg (· = g) w (setBlock w g o) := fun w o => ⟨rfl, rfl, rfl, by simp [setBlock], fun b _ hn => setBlock_far _ hn⟩
  refine ⟨e.b, _, _, _, _, h1, ?_, h4, h5, ?_, fun k' hk' => ?_, hch w _, (hch w _).trans (hch _ _)⟩
  · rw [look_cell hk h2, h3]
  · classical
    rw [setB_val _ _ _ he1 rfl h2.bs h2.ks', if_pos he2.symm]
  · classical
    rw [setB_val _ _ _ he1 rfl h2.bs h2.ks', if_neg (fun h => hk' (h.trans he2)), h3]
theorem new_map (w : World) : MapB (w.alloc (.map #[] 0)) w.heap.size cellK [] 0 := ⟨heap_alloc_new w _, by simp, by simp, .nil, .nil⟩
@[go_sem] theorem mk_map (w : World) : (Instr.makeMap 145 none).run Try.prog w = .ok (.map (some w.heap.size)) (w.alloc (.map #[] 0)) := by
  simp [Instr.makeMap, newObj, Sem.run]
theorem valE_nil (k : List Value) : valE [] k = 0 := rfl
end Go.Proofs.Ytphbmnjkhgfnoaa
