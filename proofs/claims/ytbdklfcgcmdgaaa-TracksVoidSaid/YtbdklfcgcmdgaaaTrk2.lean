
/-
  Where a lane lies in memory; Norm, whose block is known whole.
-/
import Derived.Test.YtbdklfcgcmdgaaaTrk1
import Derived.Test.YtbdklfcgcmdgaaaWrd8
namespace Go.Proofs.Ytbdklfcgcmdgaaa
open Go.RowKit
set_option linter.unusedVariables false
set_option linter.unusedSimpArgs false

theorem RowsB.keep {S : Nat → Prop} {w w' : World} {g : Nat} {t : TypeId} {L : List Rw} (h : RowsB S w g t L) (hs : w.heap.size ≤ w'.heap.size) (hk : ∀ b, b = g ∨ S b → b < w.heap.size → w'.heap[b]? = w.heap[b]?) : RowsB S w' g t L := by
  obtain ⟨cs, h1, h2, h3⟩ := h
  refine ⟨cs, (hk g (.inl rfl) h1.lt).trans h1, h2, fun k r hr => ?_⟩
  obtain ⟨tv, h4, h5⟩ := h3 k r hr
  exact ⟨tv, h4, h5.keep hs fun b hb hl => hk b (.inr hb) hl⟩
theorem RowsB.mono {S S' : Nat → Prop} {w : World} {g : Nat} {t : TypeId} {L : List Rw} (h : RowsB S w g t L) (hs : ∀ b, b < w.heap.size → S b → S' b) : RowsB S' w g t L := by
  obtain ⟨cs, h1, h2, h3⟩ := h
  refine ⟨cs, h1, h2, fun k r hr => ?_⟩
  obtain ⟨tv, h4, h5⟩ := h3 k r hr
  exact ⟨tv, h4, h5.mono hs⟩
theorem RowsB.chg {S S' : Nat → Prop} {w w' : World} {g : Nat} {t : TypeId} {L : List Rw} (h : RowsB S w g t L) (hc : Chg S' w w') (hg : ¬ S' g) (hd : ∀ b, b < w.heap.size → S b → ¬ S' b) : RowsB S w' g t L :=
  h.keep hc.size fun b hb hl => hc.block b hl (by rcases hb with rfl | hb; exact hg; exact hd b hl hb)
theorem RowsB.row {S : Nat → Prop} {w : World} {g : Nat} {t : TypeId} {L : List Rw} (h : RowsB S w g t L) {k : Nat} {r : Rw} (hk : L[k]? = some r) (hr : r.ok) :
    ∃ tv, hasRow w ⟨g, k * 57, none⟩ 57 = true ∧ rowOf w ⟨g, k * 57, none⟩ 57 = r.vals tv ∧ Ytbdklfcgcmdgaaa.canPut w ⟨g, k * 57, none⟩ 57 = true ∧ RowX S w r tv := by
  obtain ⟨cs, h1, h2, h3⟩ := h
  obtain ⟨tv, h4, h5⟩ := h3 k r hk
  have hkl : k < L.length := (List.getElem?_eq_some_iff.1 hk).1
  have hle : k * 57 + 57 ≤ cs.length := by
    have : (k + 1) * 57 ≤ L.length * 57 := Nat.mul_le_mul_right _ hkl
    omega
  obtain ⟨-, -, q3, q4, q5⟩ := h1.rules
  refine ⟨tv, by rw [q3]; simp; omega, ?_, by rw [q5]; simpa using hle, h5⟩
  rw [q4 _ _ hle]
  apply List.ext_getElem?
  intro i
  rw [List.getElem?_take, List.getElem?_drop]
  by_cases hi : i < 57
  · rw [if_pos hi, h4 i hi]
  · rw [if_neg hi, List.getElem?_eq_none (by rw [Rw.len hr]; omega)]

/-! ### Norm, the block known whole -/
def NormB (N : Nat) (l : List Rw) (w : World) (e : Ending) (w' : World) : Prop :=
  ∃ g, e = .returned (.agg #[.slice (some ⟨g, 0, none⟩) N N]) ∧ w.heap.size ≤ g ∧ RowsB (fun b => w.heap.size ≤ b ∧ b ≠ g) w' g 54 (tab N (inRow N l)) ∧ Below w.heap.size w w'
set_option maxRecDepth 100000 in
set_option maxHeartbeats 1000000 in
theorem norm_blk (S : Nat → Prop) (N : Nat) (hN : N ≤ 16) (a : Option Addr) (len cap : Nat) (l : List Rw) (w : World) (hrd : RdRs S w a len l) (hm1 : len ≤ cap) (hm2 : cap ≤ maxLen) :
    Calls Try.prog 78 #[.int .i64 N, .agg #[.slice a len cap]] w (NormB N l w) := by
  have hmf : ∀ (fn : Fn) (first cap : Array Value) (w : World), (Instr.makeFunc fn first cap).run Try.prog w = .ok (.func fn first cap) w := fun _ _ _ _ => rfl
  have HR := Lib.hid hrd
  clear hrd
  have hm : mayN N = true := by simp [mayN]; omega
  have HNN := Lib.hid hN
  go_enter Try.func78, Try.ntmps78
  go_wp2_with fail
  refine (may_any N _).mono ?_
  rintro e w' ⟨rfl, rfl⟩
  rw [hm]
  go_wp2_with fail
  have hB : Below w.heap.size w (((w.alloc (.cells #[.int .i64 N] 3)).alloc (.cells #[.slice a len cap] 34)).alloc (.cells #[.slice none 0 0] 34)) := (((Below.refl _ _).alloc (Nat.le_refl _) _).alloc (by simp) _).alloc (by simp; omega) _
  have h0 : (((w.alloc (.cells #[.int .i64 N] 3)).alloc (.cells #[.slice a len cap] 34)).alloc (.cells #[.slice none 0 0] 34)).cell? ⟨w.heap.size, 0, none⟩ = some (.int .i64 N) :=
    (((Blk.new w 3 #[Value.int .i64 N]).alloc _).alloc _).cell 0
  have h2 : Blk (((w.alloc (.cells #[.int .i64 N] 3)).alloc (.cells #[.slice a len cap] 34)).alloc (.cells #[.slice none 0 0] 34)) (w.heap.size + 1 + 1) 34 #[.slice none 0 0] := new2 w _ _ [.slice none 0 0] _
  have hsz : (((w.alloc (.cells #[.int .i64 N] 3)).alloc (.cells #[.slice a len cap] 34)).alloc (.cells #[.slice none 0 0] 34)).heap.size = w.heap.size + 1 + 1 + 1 := by simp
  generalize (((w.alloc (.cells #[.int .i64 N] 3)).alloc (.cells #[.slice a len cap] 34)).alloc (.cells #[.slice none 0 0] 34)) = w0 at hB h0 h2 hsz ⊢
  refine (fillr_any S N HNN.out w.heap.size a len cap l w0 h0 (by omega) (HR.out.below hB (fun _ _ h => h)) hm1 hm2).mono ?_
  rintro e w1 ⟨rfl, hrows, hb1⟩
  have k2 := h2.below hb1 h2.lt
  have c2 := k2.cell 0
  have z2 := k2.frozen 0
  simp at c2
  have hfin : NormB N l w (.returned (.agg #[.slice (some ⟨w0.heap.size, 0, none⟩) N N])) (w1.setCell ⟨w.heap.size + 1 + 1, 0, none⟩ (.slice (some ⟨w0.heap.size, 0, none⟩) N N)) := by
    rw [fillR_tab] at hrows
    refine ⟨_, rfl, by omega, ?_, (hB.trans (hb1.mono (by omega))).setCell (by simp; omega) _⟩
    have hc := (Chg.refl (· = w.heap.size + 1 + 1) w1).set_at 0 (.slice (some ⟨w0.heap.size, 0, none⟩) N N)
    exact (hrows.chg hc (by omega) (fun b _ h h' => by omega)).mono (fun b _ h => by omega)
  have hc : (w1.setCell ⟨w.heap.size + 1 + 1, 0, none⟩ (.slice (some ⟨w0.heap.size, 0, none⟩) N N)).cell? ⟨w.heap.size + 1 + 1, 0, none⟩ = some (.slice (some ⟨w0.heap.size, 0, none⟩) N N) := (k2.set_ 0 _).cell 0
  have HF := Lib.hid (And.intro hc hfin)
  clear hrows hb1 hfin k2 hB h0 h2 hc hsz
  go_wp2_with fail
  try simp only [Exit.inBlock, Exit.then]
  first | refine bodyPost_ret (ret_row (n := 1) rfl (by kernel_rfl) _ _ _ rfl ?_) rfl ?_ | refine bodyPost_end (ret_row (n := 1) rfl (by kernel_rfl) _ _ _ rfl ?_) rfl ?_
  · exact (row1 HF.out.1).1
  · rw [(row1 HF.out.1).2]; exact HF.out.2
end Go.Proofs.Ytbdklfcgcmdgaaa
