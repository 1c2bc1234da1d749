/-
  sennitlaw17.CliquesMeet, every input; its arguments opened.
-/
import Derived.Test.YtlfpchkoeipcdaaCmt3
import Derived.Test.YtlfpchkoeipcdaaOpen
import Derived.Test.YtlfpchkoeipcdaaCls
namespace Go.Proofs.Ytlfpchkoeipcdaa
open Go.RowKit Go.ChangeShapes Go.WideShapes
set_option linter.unusedVariables false
set_option linter.unusedSimpArgs false

set_option maxRecDepth 100000 in
set_option maxHeartbeats 8000000 in
theorem meet_any (p q : Int) (hp : 0 ≤ p ∧ p ≤ 255) (hq : 0 ≤ q ∧ q ≤ 255)
    (sa : Option Addr) (slen scap : Nat) (S : List Int) (hS : ∀ x ∈ S, -9223372036854775808 ≤ x ∧ x ≤ 9223372036854775807) (hsm : slen ≤ maxLen)
    (a0 : Option Addr) (l0 cp0 : Nat) (L0 : List Hd) (c0 : Int) (a1 : Option Addr) (l1 cp1 : Nat) (L1 : List Hd) (c1 : Int) (w : World) (hrd : Rd1 w sa slen (S.map (Value.int .i64))) (hr0 : RdHs (· < w.heap.size) w a0 l0 L0) (hr1 : RdHs (· < w.heap.size) w a1 l1 L1) (hm0 : l0 ≤ maxLen) (hm1 : l1 ≤ maxLen) :
    Calls Try.prog 3 #[.agg #[.int .u8 p, .int .u8 q], .slice sa slen scap, .agg #[.slice a0 l0 cp0, .int .i64 c0, .slice a1 l1 cp1, .int .i64 c1]] w (OkPost w) := by
  by_cases hl : 0 < slen ∧ slen ≤ 40
  · obtain ⟨N, hN⟩ : ∃ N : Nat, 4 + p % 13 = (N : Int) := ⟨(4 + p % 13).toNat, by omega⟩
    have h4 : 4 ≤ N := by omega
    have h16 : N ≤ 16 := by omega
    obtain ⟨B, hB, hBN⟩ : ∃ B : Nat, q % (N : Int) = (B : Int) ∧ B < N := ⟨(q % (N : Int)).toNat, by have := Int.emod_nonneg q (show (N : Int) ≠ 0 by omega); omega, by have := Int.emod_lt_of_pos q (show (0 : Int) < N by omega); have := Int.emod_nonneg q (show (N : Int) ≠ 0 by omega); omega⟩
    exact meet_ok p q hp hq N B hN hB h4 h16 hBN sa slen scap S hS hl.1 hl.2 a0 l0 cp0 L0 c0 a1 l1 cp1 L1 c1 w hrd hr0 hr1 hm0 hm1
  · unfold maxLen at hsm
    clear hrd hr0 hr1
    by_cases h0 : slen = 0
    · subst h0
      go_enter Try.func3, Try.ntmps3
      go_wp2_with fail
      refine (clives_any _).mono ?_
      rintro e w' ⟨rfl, hl⟩
      have HL := Lib.hid hl
      clear hl
      go_wp2
      go_ret
      exact ⟨rfl, (((Below.refl _ _).alloc (Nat.le_refl _) _).alloc (by simp) _).trans (HL.out.mono (by simp; omega))⟩
    · have hz1 : ((slen : Int) == 0) = false := by simp; omega
      have hz2 : (40 : Int) < (slen : Int) := by omega
      go_enter Try.func3, Try.ntmps3
      go_wp2_with fail
      refine (clives_any _).mono ?_
      rintro e w' ⟨rfl, hl⟩
      have HL := Lib.hid hl
      clear hl
      go_wp2
      go_ret
      exact ⟨rfl, (((Below.refl _ _).alloc (Nat.le_refl _) _).alloc (by simp) _).trans (HL.out.mono (by simp; omega))⟩

section
variable {H : Type} {enc : TypeId × Value → H} {w : World}
theorem ints_of : ∀ {vs : List Value}, (∀ v ∈ vs, ∃ y n, DataW.trod enc Try.prog w 0 (fun _ => true) true n 2 [v] = some y) → ∃ S : List Int, vs = S.map (Value.int .i64) ∧ ∀ x ∈ S, -9223372036854775808 ≤ x ∧ x ≤ 9223372036854775807
  | [], _ => ⟨[], rfl, by simp⟩
  | v :: vs, h => by
    obtain ⟨S, rfl, hS⟩ := ints_of (vs := vs) (fun x hx => h x (List.mem_cons_of_mem _ hx))
    obtain ⟨y, n, hy⟩ := h v (List.mem_cons_self ..)
    obtain ⟨q, hq, _, hw⟩ := DataW.trod_int Try.underlying2 hy
    simp only [List.cons.injEq, and_true] at hq
    subst hq
    refine ⟨q :: S, rfl, fun x hx => ?_⟩
    rcases List.mem_cons.1 hx with rfl | hx
    · simpa [Lit.wf, IntKind.min, IntKind.max, IntKind.signed, IntKind.bits] using hw
    · exact hS x hx
theorem tick_open {fuel : Nat} {c0 c1 : Value} {d : DataW H × List MemPlace} (h : DataW.trod enc Try.prog w 0 (fun _ => true) true fuel 26 [c0, c1] = some d) :
    ∃ a len cap c l, c0 = .slice a len cap ∧ c1 = .int .i64 c ∧ RdHs (· < w.heap.size) w a len l ∧ len ≤ cap ∧ cap ≤ maxLen := by
  obtain ⟨xs, n', _, _, hlen, hxl, hfl⟩ := DataW.trod_struct Try.underlying26 h
  have g0 : DataW.trod enc Try.prog w 0 (fun _ => true) true n' 24 (([c0, c1].drop 0).take (Try.prog.cellsOf 24)) = xs[0]? := hfl 0 _ rfl
  have g1 : DataW.trod enc Try.prog w 0 (fun _ => true) true n' 2 (([c0, c1].drop 1).take (Try.prog.cellsOf 2)) = xs[1]? := hfl 1 _ rfl
  have hs : Try.prog.cellsOf 24 = 1 := by kernel_rfl
  have hi : Try.prog.cellsOf 2 = 1 := by kernel_rfl
  simp only [hs, hi, List.drop_zero, List.take_succ_cons, List.take_zero, List.drop_succ_cons] at g0 g1
  have l0 : xs[0]? = some (xs[0]'(by rw [hxl]; decide)) := List.getElem?_eq_getElem _
  have l1 : xs[1]? = some (xs[1]'(by rw [hxl]; decide)) := List.getElem?_eq_getElem _
  rw [l0] at g0
  rw [l1] at g1
  obtain ⟨q, hq, _, _⟩ := DataW.trod_int Try.underlying2 g1
  simp only [List.cons.injEq, and_true] at hq
  subst hq
  obtain ⟨x', m', cap', hv⟩ : ∃ x' m' cap', c0 = .slice x' m' cap' := by
    rcases Deep.open_slice Try.underlying24 g0 with ⟨hcs, _⟩ | ⟨x', l', c', _, _, _, _, hcs, _⟩
    · simp at hcs; exact ⟨_, _, _, hcs⟩
    · simp at hcs; exact ⟨_, _, _, hcs⟩
  subst hv
  obtain ⟨lst, hr, hmc, hcm⟩ := RdHs.open_ Try.underlying24 (by kernel_rfl) (by kernel_rfl) g0
  exact ⟨_, _, _, _, lst, rfl, rfl, hr, hmc, hcm⟩
theorem four_of {α : Type} {l : List α} (h : l.length = 4) : ∃ a b c d, l = [a, b, c, d] := by
  match l, h with
  | [a, b, c, d], _ => exact ⟨a, b, c, d, rfl⟩
theorem ticks_open {v : Value} {d : DataW H} {pl : List MemPlace} (hv : ∃ cs, v = .agg cs ∧ cs.size = Try.prog.cellsOf 27) (h : DataW.Trod enc Try.prog w 0 (fun _ => true) true 27 v d pl) :
    ∃ a0 l0 cp0 c0 a1 l1 cp1 c1 L0 L1, v = .agg #[.slice a0 l0 cp0, .int .i64 c0, .slice a1 l1 cp1, .int .i64 c1] ∧ RdHs (· < w.heap.size) w a0 l0 L0 ∧ RdHs (· < w.heap.size) w a1 l1 L1 ∧ l0 ≤ maxLen ∧ l1 ≤ maxLen := by
  obtain ⟨cs, rfl, hsz⟩ := hv
  obtain ⟨fuel, hf⟩ := h
  obtain ⟨xs, m, _, _, hlen, hxl, hfl⟩ := DataW.trod_array Try.underlying27 hf
  have hc : Try.prog.cellsOf 26 = 2 := by kernel_rfl
  have hc4 : Try.prog.cellsOf 27 = 4 := by kernel_rfl
  rw [hc4] at hsz
  obtain ⟨l⟩ := cs
  obtain ⟨c0, c1, c2, c3, rfl⟩ := four_of (by simpa using hsz)
  have g0 := hfl 0 (by omega)
  have g1 := hfl 1 (by omega)
  rw [List.getElem?_eq_getElem (by omega)] at g0 g1
  simp only [hc, Value.cells, Nat.zero_mul, Nat.one_mul, List.drop_zero, List.take_succ_cons, List.take_zero, List.drop_succ_cons] at g0 g1
  obtain ⟨a0, l0, cp0, q0, L0, rfl, rfl, r0, m0, n0⟩ := tick_open g0
  obtain ⟨a1, l1, cp1, q1, L1, rfl, rfl, r1, m1, n1⟩ := tick_open g1
  exact ⟨a0, l0, cp0, q0, a1, l1, cp1, q1, L0, L1, rfl, r0, r1, by omega, by omega⟩
end
end Go.Proofs.Ytlfpchkoeipcdaa
