/-
  What was said is put with what was sent.
-/
import Derived.Test.YtbdklfcgcmdgaaaGa43
namespace Go.Proofs.Ytbdklfcgcmdgaaa
open Go.RowKit
set_option linter.unusedVariables false
set_option linter.unusedSimpArgs false

theorem app_sent : AppOk Try.prog 103 102 1 := appOk_of Try.underlying103 (by kernel_rfl)
theorem TickAt.mono {S S' : Nat → Prop} {w : World} {v : Value} {N : Nat} {W : WordsM} (h : TickAt S w v N W) (hs : ∀ b, b < w.heap.size → S b → S' b) : TickAt S' w v N W := by
  obtain ⟨g, c, h1, h2, h3, h4, h5, h6⟩ := h
  refine ⟨g, c, h1, hs g h3 h2, h3, h4, h5, fun i k hi hk' => ?_⟩
  obtain ⟨u, e1, e2⟩ := h6 i k hi hk'
  exact ⟨u, e1, e2.mono hs⟩
def sealB (tag : Nat → Nat) (g b : Nat) : Nat := if b = g then 0 else tag b
/-- the words' block is read alone from now on -/
theorem OutB.seal {tag0 : Nat → Nat} {w : World} {N : Nat} {f : WordsM} {tag : Nat → Nat} {g : Nat} {wr : World} (h : OutB tag0 w N f tag g wr) {rg : Nat} {av : Value} {R : RingM} {P : RgP} (hr : RingAt tag wr rg av R P) {cap : Nat} (hc1 : N ≤ cap) (hc2 : cap ≤ maxLen) :
    RingAt (sealB tag g) wr rg av R P ∧ TickAt (Sn (sealB tag g) wr) wr (.slice (some ⟨g, 0, none⟩) N cap) N f ∧ (∀ b, b < w.heap.size → sealB tag g b = tag0 b) := by
  have hlt := h.lt
  refine ⟨hr.seal fun b => ?_, ⟨g, cap, rfl, ⟨if_pos rfl, hlt⟩, hlt, hc1, hc2, fun i k hi hk => ?_⟩, fun b hb => ?_⟩
  · by_cases hb : b = g
    · subst hb; exact .inr ⟨h.tv, if_pos rfl, hlt⟩
    · exact .inl (if_neg hb)
  · obtain ⟨u, e1, e2⟩ := h.cell hi hk
    exact ⟨u, e1, e2.mono fun b _ hb => ⟨by unfold sealB; split; rfl; exact hb.1, hb.2⟩⟩
  · have := h.ge
    unfold sealB
    rw [if_neg (by omega)]
    exact h.lo b hb
theorem RingAt.sentPush {tag : Nat → Nat} {w w3 : World} {rg : Nat} {av : Value} {R : RingM} {P : RgP} (h : RingAt tag w rg av R P) {tv : Value} {W : WordsM} (hW : TickAt (Sn tag w) w tv R.N W) {xs : List Value} (hx1 : xs.length = R.sent.length) (hown : w.ownsRow 0 102 1 P.sv xs.length xs) (hx3 : ∀ (t : Nat) (x : Value) (W : WordsM), xs[t]? = some x → R.sent[t]? = some W → TickAt (Sn tag w) w x R.N W)
    {o : Obj} (hg : (w.alloc o).grownBy w3 P.sv.ownBlock) {g cap : Nat} (ho : w3.ownsRow 0 102 1 (.slice (some ⟨g, 0, none⟩) (xs.length + 1) cap) (xs.length + 1) (xs ++ [tv])) (hlie : P.sv.ownBlock = some g ∨ g = (w.alloc o).heap.size) :
    RingAt (tagR tag w.heap.size w3.heap.size (R.N + 1)) (w3.setCell ⟨rg, 7, none⟩ (.slice (some ⟨g, 0, none⟩) (xs.length + 1) cap)) rg av { R with sent := R.sent ++ [W] } { P with sv := .slice (some ⟨g, 0, none⟩) (xs.length + 1) cap } := by
  have hN := h.bd.2
  have hne := h.ne
  have hs2 : (w.alloc o).heap.size = w.heap.size + 1 := by simp
  have hs3 := hg.size
  have hgl := (ho.lt g rfl).2
  obtain ⟨cur, h1, h2, h3⟩ := h.l
  have hss : (w3.setCell ⟨rg, 7, none⟩ (.slice (some ⟨g, 0, none⟩) (xs.length + 1) cap)).heap.size = w3.heap.size := by simp
  have hsv := h.sv_ne
  have k1 : ∀ b, b < w.heap.size → P.sv.ownBlock ≠ some b → w3.heap[b]? = w.heap[b]? := fun b hbl hne => (hg.block b (by omega) (fun e => hne e.symm)).trans (Below.heap_alloc _ _ _ hbl)
  have k2 : ∀ b, b ≠ rg → (w3.setCell ⟨rg, 7, none⟩ (.slice (some ⟨g, 0, none⟩) (xs.length + 1) cap)).heap[b]? = w3.heap[b]? := fun b hne => Below.heap_setCell _ _ _ _ hne
  have hrgl := h.b.lt
  have hgrg : g ≠ rg := by
    rintro rfl
    rcases hlie with e | e
    · exact (hsv _ e).2.1 rfl
    · omega
  have lo : ∀ b, b < w.heap.size → tagR tag w.heap.size w3.heap.size (R.N + 1) b = tag b := fun b hb => tagR_lo hb
  have hk : ∀ b, b < w.heap.size → tag b ≠ R.N + 1 → (w3.setCell ⟨rg, 7, none⟩ (.slice (some ⟨g, 0, none⟩) (xs.length + 1) cap)).heap[b]? = w.heap[b]? := fun b hb ht => (k2 b (by rintro rfl; exact ht h.tr)).trans (k1 b hb fun e => ht (h.ts b e))
  have hS : ∀ b, Sn tag w b → Sn (tagR tag w.heap.size w3.heap.size (R.N + 1)) (w3.setCell ⟨rg, 7, none⟩ (.slice (some ⟨g, 0, none⟩) (xs.length + 1) cap)) b := fun b hb => ⟨by rw [lo b hb.2]; exact hb.1, by rw [hss]; have := hb.2; omega⟩
  have hSk : ∀ b, Sn tag w b → b < w.heap.size → (w3.setCell ⟨rg, 7, none⟩ (.slice (some ⟨g, 0, none⟩) (xs.length + 1) cap)).heap[b]? = w.heap[b]? := fun b hb hl => hk b hl (by rw [hb.1]; omega)
  have hT : ∀ {v : Value} {W : WordsM}, TickAt (Sn tag w) w v R.N W → TickAt (Sn (tagR tag w.heap.size w3.heap.size (R.N + 1)) (w3.setCell ⟨rg, 7, none⟩ (.slice (some ⟨g, 0, none⟩) (xs.length + 1) cap))) (w3.setCell ⟨rg, 7, none⟩ (.slice (some ⟨g, 0, none⟩) (xs.length + 1) cap)) v R.N W := fun {v W} hv =>
    (hv.keep (by rw [hss]; omega) hSk).mono fun b _ hb => hS b hb
  have hb3 : Blk w3 rg 105 (ringV R av P).toArray := (k1 rg hrgl fun e => (hsv rg e).2.1 rfl).trans h.b
  refine ⟨hb3.set_ 7 _, ⟨cur, (k2 _ (fun e => hne.1 e.symm)).trans ((k1 _ h1.lt fun e => (hsv _ e).2.2.1 rfl).trans h1), h2, h3⟩, h.lc, (k2 _ (fun e => hne.2.1 e.symm)).trans ((k1 _ h.o.lt fun e => (hsv _ e).2.2.2 rfl).trans h.o), fun i hi => ?_, ⟨xs ++ [tv], by simp [hx1], ?_, fun t x W' hx hW' => ?_⟩, by rw [lo _ hrgl]; exact h.tr, by rw [lo _ h1.lt]; exact h.tl, by rw [lo _ h.o.lt]; exact h.tog, fun b hb => ?_, ?_, h.fl, h.bd, fun b hb => by rw [hss] at hb; rw [tagR_hi hb]; exact h.tg b (by omega)⟩
  · have hi' : i < R.N := hi
    have hla := h.la i hi
    refine ⟨(hla.1.keep (by rw [hss]; omega) fun b hb hl => hk b hl (by omega)).mono (fun b hb => ?_) (fun b hb => ?_), hla.2⟩
    · have hbl : b < w.heap.size := hla.1.lt b hb
      rw [lo b hbl]; exact hb
    · rw [hss]
      by_cases hbm : b < w3.heap.size
      · exact hbm
      · rw [tagR_hi (by omega), h.tg b (by omega)] at hb; omega
  · have hl : (xs ++ [tv]).length = xs.length + 1 := by simp
    rw [hl]
    exact own_block ho fun b hb => by
      simp only [Value.ownBlock, Option.some.injEq] at hb
      subst hb
      exact k2 _ hgrg
  · by_cases ht : t < xs.length
    · rw [List.getElem?_append_left ht] at hx
      rw [List.getElem?_append_left (by omega)] at hW'
      exact hT (hx3 t x W' hx hW')
    · rw [List.getElem?_append_right (by omega)] at hx hW'
      rw [hx1] at hx
      by_cases h0 : t - R.sent.length = 0
      · rw [h0] at hx hW'
        simp at hx hW'
        subst hx hW'
        exact hT hW
      · rw [List.getElem?_eq_none (by simp; omega)] at hx; cases hx
  · simp only [Value.ownBlock, Option.some.injEq] at hb
    subst hb
    rcases hlie with e | e
    · rw [lo g (hsv g e).1]; exact h.ts g e
    · exact tagR_in (by omega) (by omega)
  · obtain ⟨a, an, ac, r1, r2, r3⟩ := h.ac
    exact ⟨a, an, ac, r1, (r2.keep (by rw [hss]; omega) hSk).mono fun b _ hb => hS b hb, r3⟩
end Go.Proofs.Ytbdklfcgcmdgaaa
