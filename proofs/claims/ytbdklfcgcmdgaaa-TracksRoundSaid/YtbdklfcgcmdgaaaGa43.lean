/-
  (*sennitlaw14.Ring).Say: what its first loop's round leaves.
-/
import Derived.Test.YtbdklfcgcmdgaaaGa42
namespace Go.Proofs.Ytbdklfcgcmdgaaa
open Go.RowKit
set_option linter.unusedVariables false
set_option linter.unusedSimpArgs false

theorem ag_w4 : aggOf Try.prog 101 4 = true := by kernel_rfl
section
variable (ρ : Operand → Value) (d : Option Tmp) (x y : Operand) (ty : TypeId) (s : String) (af : Array Edge) (g : Option (Nat × Bool)) (w : World)
@[go_sem ↓] theorem ld_w4 (h : hasRowV w 4 (ρ x) = true) :
    (execOp ρ { dst := d, op := .load 101 x, type := ty, pos := s, after := af, guard := g }).run Try.prog w = .ok (.value (.agg (rowV w 4 (ρ x)).toArray)) w := exec_load ag_w4 ρ d x ty s af g w h
@[go_sem ↓] theorem st_w4 (h1 : okAgg 4 (ρ y) = true) (h2 : canPutV w 4 (ρ x) = true) :
    (execOp ρ { dst := d, op := .store 101 x y, type := ty, pos := s, after := af, guard := g }).run Try.prog w = .ok .skip (putV w (ρ x) (ρ y)) := exec_store ag_w4 ρ d x y ty s af g w h1 h2
@[go_sem ↓] theorem bs_w4 (h : lenC (ρ x) 4 = true) : (execOp ρ { dst := d, op := .buildSlice 102 1 #[(0, x)], type := ty, pos := s, after := af, guard := g }).run Try.prog w = .ok (.value (.slice (some ⟨w.heap.size, 0, none⟩) 1 1)) (w.alloc (.cells (cellsL (ρ x)).toArray 101)) := by
  have := exec_bslice (n := 4) Try.underlying102 (by kernel_rfl) ρ d 1 [x] #[(0, x)] ty s af g w (by simp [iparts]) rfl (by omega) (by omega) (by simp [h])
  simpa using this
end
theorem app_w4 : AppOk Try.prog 102 101 4 := appOk_of Try.underlying102 (by kernel_rfl)
def SayN (tag : Nat → Nat) (R : RingM) (own : Nat → Rw) (k : Nat) (P : RgP) (wA : World) (e : Ending) (w8 : World) : Prop :=
  ∃ (m g0 g1 : Nat), e = .returned (.tuple #[.agg #[.slice (some ⟨g0, 0, none⟩) R.N R.N], .agg #[.slice (some ⟨g1, 0, none⟩) R.N R.N]]) ∧ wA.heap.size ≤ m ∧ LaneAt (GrowS (fun b => tag b = k + 1) wA.heap.size m) w8 (P.p k) (P.gp k) (P.G k) ((R.lane k).said (own k)) ∧ m ≤ g0 ∧ m ≤ g1 ∧
    RowsB (fun b => m ≤ b ∧ b ≠ g0 ∧ b ≠ g1) w8 g0 54 (((R.lane k).said (own k)).out 0) ∧ RowsB (fun b => m ≤ b ∧ b ≠ g0 ∧ b ≠ g1) w8 g1 54 (((R.lane k).said (own k)).out 2) ∧ Chg (fun b => tag b = k + 1) wA w8
theorem said_n (L : LaneM) (r : Rw) : (L.said r).n = L.n ∧ (L.said r).me = L.me := by unfold LaneM.said; split <;> exact ⟨rfl, rfl⟩
theorem say_node {tag : Nat → Nat} {wc : World} {rg : Nat} {av : Value} {R : RingM} {own : Nat → Rw} {k : Nat} {P : RgP} (hr : RingAt tag wc rg av (R.sayK own k) P) (hk : k < R.N) (hb : (R.lane k).b = true) (hT : 0 < (R.lane k).T) (hT2 : (R.lane k).T ≤ 1000000000) (ho : (own k).ok) {wA : World} (hB : Below wc.heap.size wc wA)
    {So : Nat → Prop} {tv : Value} (ht : RowR So wA (own k) tv) (hS : ∀ b, So b → tag b ≠ k + 1) :
    Calls Try.prog 22 #[.pointer (some ⟨P.p k, 0, none⟩), .agg ((own k).vals tv).toArray] wA (SayN tag R own k P wA) := by
  obtain ⟨h1, h2, h3⟩ := hr.la k hk
  have e0 : (R.sayK own k).lane k = R.lane k := by simp [RingM.sayK]
  have e1 : (R.sayK own k).N = R.N := rfl
  rw [e0] at h1 h2 h3
  rw [e1] at h2
  refine (say_any (fun b => tag b = k + 1) So (P.p k) (P.gp k) (P.G k) (R.lane k) (own k) ho tv wA (h1.below hB) hb hT hT2 ht hS).mono ?_
  rintro e w8 ⟨m, g0, g1, q1, q2, rfl, q4, q5, q6, q7, q8, q9⟩
  rw [h2]
  exact ⟨m, g0, g1, rfl, q1, q2, q4, q5, q7, q8, q9⟩
theorem word_on {R : RingM} {own : Nat → Rw} {k : Nat} (h : R.on k = true) (hb : (R.lane k).b = true) (q : Nat) : R.word own k q = ((R.lane k).said (own k)).out q := by
  unfold RingM.word
  rw [if_pos (by simp [h, hb])]
theorem say_round {tag0 tag : Nat → Nat} {w wc : World} {rg : Nat} {av : Value} {R : RingM} {own : Nat → Rw} {k : Nat} {P : RgP} {v : Value} {xs : List Value} (hr : RingAt tag wc rg av (R.sayK own k) P) (hh : SayB tag0 w R.N k (R.wordsM own) tag v xs wc) (hk : k < R.N) (hon : R.on k = true) (hb : (R.lane k).b = true)
    {wA w8 : World} (hB : Below wc.heap.size wc wA) {m g0 g1 : Nat} (hm : wA.heap.size ≤ m) (hL : LaneAt (GrowS (fun b => tag b = k + 1) wA.heap.size m) w8 (P.p k) (P.gp k) (P.G k) ((R.lane k).said (own k))) (hg0 : m ≤ g0) (hg1 : m ≤ g1)
    (hr0 : RowsB (fun b => m ≤ b ∧ b ≠ g0 ∧ b ≠ g1) w8 g0 54 (((R.lane k).said (own k)).out 0)) (hr1 : RowsB (fun b => m ≤ b ∧ b ≠ g0 ∧ b ≠ g1) w8 g1 54 (((R.lane k).said (own k)).out 2)) (hc : Chg (fun b => tag b = k + 1) wA w8) :
    ∃ tag' P', RingAt tag' w8 rg av (R.sayK own (k + 1)) P' ∧ SayB tag0 w R.N k (R.wordsM own) tag' v xs w8 ∧ WdAt (Sn tag' w8) w8 (.slice (some ⟨g0, 0, none⟩) R.N R.N) (R.wordsM own k 0) ∧ WdAt (Sn tag' w8) w8 (.slice (some ⟨g1, 0, none⟩) R.N R.N) (R.wordsM own k 2) ∧ (∀ b, b < wA.heap.size → tag' b = tag b) := by
  have h16 : R.N ≤ 16 := hr.bd.2
  obtain ⟨l1, l2, l3⟩ := hr.la k hk
  have e0 : (R.sayK own k).lane k = R.lane k := by simp [RingM.sayK]
  rw [e0] at l1 l2 l3
  have l2' : (R.lane k).n = R.N := l2
  have hg8 := hr0.lt
  have hs6 := hB.size
  have hs8 := hc.size
  have hw := hh.c.size
  have hturn := (hr.below hB).turn (i := k) (m := m) hk hm (by omega) hc hL (by rw [(said_n _ _).1]; exact l2) (by rw [(said_n _ _).2]; exact l3) rfl
  rw [sayK_on hon] at hturn
  have hseal := hturn.seal (tag' := tagR (tagR tag wA.heap.size m (k + 1)) m w8.heap.size 0) (fun b => by
    by_cases hbm : m ≤ b ∧ b < w8.heap.size
    · right
      exact ⟨by rw [tagR_hi hbm.1]; exact hr.tg b (by omega), tagR_in hbm.1 hbm.2, hbm.2⟩
    · left
      exact if_neg hbm)
  have lo : ∀ b, b < wA.heap.size → tagR (tagR tag wA.heap.size m (k + 1)) m w8.heap.size 0 b = tag b := fun b hb => by rw [tagR_lo (by omega), tagR_lo hb]
  refine ⟨_, _, hseal, hh.move h16 (((Chg.of_below hB (Rgs tag R.N)).trans' (S' := fun b => tag b = k + 1) hc fun b _ hb => ⟨by omega, by omega⟩)) (fun b hb => lo b (by omega)) hseal.tg, ?_, ?_, lo⟩
  · have hok : ∀ r ∈ ((R.lane k).said (own k)).out 0, r.ok := LaneM.out_ok hL.ok 0
    have hrd := hr0.rd hok
    have hl : (((R.lane k).said (own k)).out 0).length = R.N := by unfold LaneM.out; rw [tab_len, (said_n _ _).1, l2']
    rw [hl] at hrd
    have ew : R.wordsM own k 0 = ((R.lane k).said (own k)).out 0 := word_on hon hb 0
    rw [ew]
    refine ⟨_, _, _, rfl, hrd.mono fun b hbl hb => ?_, Nat.le_refl _, by simp only [maxLen]; omega⟩
    have hmb : m ≤ b := by rcases hb with rfl | hb; exact hg0; exact hb.1
    exact ⟨tagR_in hmb hbl, hbl⟩
  · have hok : ∀ r ∈ ((R.lane k).said (own k)).out 2, r.ok := LaneM.out_ok hL.ok 2
    have hrd := hr1.rd hok
    have hl : (((R.lane k).said (own k)).out 2).length = R.N := by unfold LaneM.out; rw [tab_len, (said_n _ _).1, l2']
    rw [hl] at hrd
    have ew : R.wordsM own k 2 = ((R.lane k).said (own k)).out 2 := word_on hon hb 2
    rw [ew]
    refine ⟨_, _, _, rfl, hrd.mono fun b hbl hb => ?_, Nat.le_refl _, by simp only [maxLen]; omega⟩
    have hmb : m ≤ b := by rcases hb with rfl | hb; exact hg1; exact hb.1
    exact ⟨tagR_in hmb hbl, hbl⟩
/-- what changes in blocks of nobody's behind w4 leaves all that -/
theorem WdAt.loose {tag : Nat → Nat} {lo : Nat} {w8 wc : World} {v : Value} {l : List Rw} (h : WdAt (Sn tag w8) w8 v l) (hc : Chg (fun b => tag b = 98 ∧ lo ≤ b) w8 wc) : WdAt (Sn tag wc) wc v l :=
  (h.keep hc.size fun b hb hl => hc.block b hl fun hn => by have := hb.1; omega).mono fun b _ hb => ⟨hb.1, by have := hb.2; have := hc.size; omega⟩
theorem SayB.loose {tag0 tag : Nat → Nat} {w : World} {N k : Nat} {f : WordsM} {v : Value} {xs : List Value} {lo : Nat} {w8 wc : World} (h : SayB tag0 w N k f tag v xs w8) (hc : Chg (fun b => tag b = 98 ∧ lo ≤ b) w8 wc) (hlo : ∀ b, v.ownBlock = some b → b < lo) (hwl : w.heap.size ≤ lo) : SayB tag0 w N k f tag v xs wc := by
  have hz := h.c.size
  refine ⟨own_block h.own fun b hb => hc.block b (h.own.lt b hb).2 fun hn => by have := hlo b hb; omega, h.tv, fun j q hj hq => ?_, h.lo, fun b hb => h.hi b (by have := hc.size; omega), ⟨hc.os.trans h.c.os, hc.tape.trans h.c.tape, hc.output.trans h.c.output, Nat.le_trans h.c.size hc.size, fun b hb hn => (hc.block b (by omega) fun hx => by omega).trans (h.c.block b hb hn)⟩⟩
  obtain ⟨u, e1, e2⟩ := h.he j q hj hq
  exact ⟨u, e1, e2.loose hc⟩
theorem RingAt.loose {tag : Nat → Nat} {lo : Nat} {w8 wc : World} {rg : Nat} {av : Value} {R : RingM} {P : RgP} (h : RingAt tag w8 rg av R P) (hc : Chg (fun b => tag b = 98 ∧ lo ≤ b) w8 wc) : RingAt tag wc rg av R P := h.chg hc fun b hb => by have := h.bd.2; omega
theorem cal {S : Nat → Prop} {w5 w' : World} (h : Chg S w5 w') (o : Obj) : Chg S w5 (w'.alloc o) := h.alloc o
theorem csc {S : Nat → Prop} {w5 w' : World} {p : Addr} (hz : w5.heap.size ≤ p.block) (h : Chg S w5 w') (v : Value) : Chg S w5 (w'.setCell p v) := h.setCell (.inr hz) v
theorem csl {S : Nat → Prop} {w5 w' : World} {p : Addr} (hz : S p.block) (h : Chg S w5 w') (v : Value) : Chg S w5 (w'.setCell p v) := h.setCell (.inl hz) v
end Go.Proofs.Ytbdklfcgcmdgaaa
