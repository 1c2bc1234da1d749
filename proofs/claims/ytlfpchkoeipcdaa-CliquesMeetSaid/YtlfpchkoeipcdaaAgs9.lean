/-
  sennitlaw16.AgesVoid, AgesCommon, walked.
-/
import Derived.Test.YtlfpchkoeipcdaaAgs8
import Derived.Test.YtlfpchkoeipcdaaAgs4
namespace Go.Proofs.Ytlfpchkoeipcdaa
open Go.RowKit
set_option linter.unusedVariables false
set_option linter.unusedSimpArgs false

def OkPost (w : World) (e : Ending) (w' : World) : Prop := e = .returned (.bool true) ∧ Below w.heap.size w w'
theorem OkPost.of {w w1 w2 : World} {e : Ending} (h : Below w.heap.size w w1) (he : e = .returned (.bool true) ∧ Below w1.heap.size w1 w2) : OkPost w e w2 := ⟨he.1, h.trans (he.2.mono h.size)⟩
theorem blk_new' (w : World) (t : TypeId) (cs : Array Value) {g : Nat} (h : w.heap.size = g) : Blk (w.alloc (.cells cs t)) g t cs := h ▸ Blk.new w t cs
theorem quiet_left {P : Program} {f : FuncId} {args : Array Value} {w : World} {n : Nat} {v : Value}
    (h : Calls P f args (w.drewN n) fun e w' => e = .returned v ∧ w.drewN n = w') : Calls P f args (w.drewN n) fun e w'' => e = .returned v ∧ ∃ m, w'' = w.drewN m :=
  h.mono fun _ _ ⟨he, hm⟩ => ⟨he, n, hm.symm⟩
theorem quiet_add_left {P : Program} {f : FuncId} {args : Array Value} {w : World} {a n : Nat} {v : Value}
    (h : Calls P f args (w.drewN (a + n)) fun e w' => e = .returned v ∧ w.drewN (a + n) = w') :
    Calls P f args (w.drewN (a + n)) fun e w'' => e = .returned v ∧ ∃ m, w'' = w.drewN (a + m) :=
  h.mono fun _ _ ⟨he, hm⟩ => ⟨he, n, hm.symm⟩

set_option maxRecDepth 100000 in
set_option maxHeartbeats 2000000 in
theorem agvoid_any (p q : Int) (w : World) : Calls Try.prog 6 #[.agg #[.int .i64 p, .int .i64 q]] w (OkPost w) := by
  go_enter Try.func6, Try.ntmps6
  go_upto_block 0 with fail
  have hX : ∃ w3, w3 = (((w.alloc (.cells #[.int .i64 p, .int .i64 q] 65)).alloc (.cells #[.int .i64 0, .slice none 0 0] 68)).alloc (.cells #[.pointer none, .pointer (some ⟨w.heap.size + 1, 0, none⟩)] 56)) ∧ w3.cell? ⟨w.heap.size, 0, none⟩ = some (.int .i64 p) ∧ w3.cell? ⟨w.heap.size, 1, none⟩ = some (.int .i64 q) ∧ w3.cell? ⟨w.heap.size + 1, 0, none⟩ = some (.int .i64 0) ∧ w3.cell? ⟨w.heap.size + 1 + 1, 0, none⟩ = some (.pointer none) ∧ w3.cell? ⟨w.heap.size + 1 + 1, 1, none⟩ = some (.pointer (some ⟨w.heap.size + 1, 0, none⟩)) ∧ Below w.heap.size w w3 := by
    have b0 : Blk (((w.alloc (.cells #[.int .i64 p, .int .i64 q] 65)).alloc (.cells #[.int .i64 0, .slice none 0 0] 68)).alloc (.cells #[.pointer none, .pointer (some ⟨w.heap.size + 1, 0, none⟩)] 56)) w.heap.size 65 #[.int .i64 p, .int .i64 q] := ((Blk.new _ _ _).alloc _).alloc _
    have b1 : Blk (((w.alloc (.cells #[.int .i64 p, .int .i64 q] 65)).alloc (.cells #[.int .i64 0, .slice none 0 0] 68)).alloc (.cells #[.pointer none, .pointer (some ⟨w.heap.size + 1, 0, none⟩)] 56)) (w.heap.size + 1) 68 #[.int .i64 0, .slice none 0 0] := (blk_new' (w.alloc (.cells #[.int .i64 p, .int .i64 q] 65)) _ _ (by simp)).alloc _
    have b2 : Blk (((w.alloc (.cells #[.int .i64 p, .int .i64 q] 65)).alloc (.cells #[.int .i64 0, .slice none 0 0] 68)).alloc (.cells #[.pointer none, .pointer (some ⟨w.heap.size + 1, 0, none⟩)] 56)) (w.heap.size + 1 + 1) 56 #[.pointer none, .pointer (some ⟨w.heap.size + 1, 0, none⟩)] := blk_new' ((w.alloc (.cells #[.int .i64 p, .int .i64 q] 65)).alloc (.cells #[.int .i64 0, .slice none 0 0] 68)) _ _ (by simp)
    exact ⟨_, rfl, b0.cell 0, b0.cell 1, b1.cell 0, b2.cell 0, b2.cell 1, (((Below.refl _ _).alloc (Nat.le_refl _) _).alloc (by simp) _).alloc (by simp; omega) _⟩
  obtain ⟨w3, h3, c0, c1, c2, c3, c4, hB⟩ := hX
  rw [← h3]
  have HB := Lib.hid hB
  clear h3 hB
  go_wp2_with fail
  go_loopw [5] (fun i wr => ∃ k d : Nat, k ≤ 2 ∧ i = .int .i64 k ∧ wr = w3.drewN d) (fun i _ => 2 - (intOf i).toNat)
  case atStart => exact ⟨0, 0, by omega, rfl, rfl⟩
  case round =>
    obtain ⟨k, d, hk, rfl, rfl⟩ := hrel
    have hcase : k = 0 ∨ k = 1 ∨ k = 2 := by omega
    rcases hcase with rfl | rfl | rfl
    · have HC := Lib.hid (fun (w' : World) => agstep_nil p q w')
      go_wp2_with fail
      go_quiet ((go_at_call 17; first | exact quiet_left (HC.out _) | exact quiet_add_left (HC.out _)))
      go_wp2_with fail
      exact ⟨⟨1, _, by omega, rfl, rfl⟩, by simp [intOf]⟩
    · have HC := Lib.hid (fun (w' : World) (h' : w'.cell? ⟨w.heap.size + 1, 0, none⟩ = some (.int .i64 0)) => agstep_unmade (w.heap.size + 1) p q w' h')
      have HQ : Hid (∀ j, (w3.drewN j).cell? ⟨w.heap.size + 1, 0, none⟩ = some (.int .i64 0)) := Lib.hid fun j => c2
      go_wp2_with fail
      go_quiet ((go_at_call 17; first | exact quiet_left (HC.out _ (HQ.out _)) | exact quiet_add_left (HC.out _ (HQ.out _))))
      go_wp2_with fail
      exact ⟨⟨2, _, by omega, rfl, rfl⟩, by simp [intOf]⟩
    · have hB : Below w.heap.size w (w3.drewN d) := ⟨HB.out.os, HB.out.tape, HB.out.output, HB.out.size, HB.out.block⟩
      have HBB := Lib.hid hB
      clear hB
      go_wp2_with fail
      refine (aglives_any _).mono ?_
      rintro e w' h'
      have he := h'.1
      have HL := Lib.hid h'.2
      clear h'
      subst he
      go_wp2_with fail
      go_ret
      exact OkPost.of HBB.out ⟨rfl, HL.out⟩
end Go.Proofs.Ytlfpchkoeipcdaa
