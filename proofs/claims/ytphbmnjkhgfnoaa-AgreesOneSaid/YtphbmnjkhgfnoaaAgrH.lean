/-
  sennitlaw15.AgreesOne, every input; its arguments opened.
-/
import Derived.Test.YtphbmnjkhgfnoaaAgrG
import Derived.Test.YtphbmnjkhgfnoaaOpn
import Derived.Test.YtphbmnjkhgfnoaaCls
namespace Go.Proofs.Ytphbmnjkhgfnoaa
open Go.RowKit Go.ChangeShapes Go.WideShapes
set_option linter.unusedVariables false
set_option linter.unusedSimpArgs false

set_option maxRecDepth 100000 in
set_option maxHeartbeats 8000000 in
theorem one_any (p q : Int) (hp : 0 ≤ p ∧ p ≤ 255) (hq : 0 ≤ q ∧ q ≤ 255)
    (ca : Option Addr) (clen ccap : Nat) (C : List (List Value)) (xa : Option Addr) (xlen xcap : Nat) (X : List Rw) (ha : Option Addr) (hlen hcap : Nat) (H : List Hd) (w : World) (m1 : clen ≤ maxLen) (m2 : xlen ≤ maxLen) (m3 : hlen ≤ maxLen)
    (rc : RdCs (· < w.heap.size) w ca clen C) (rx : RdRs (· < w.heap.size) w xa xlen X) (rh : RdHs (· < w.heap.size) w ha hlen H) :
    Calls Try.prog 4 #[.agg #[.int .u8 p, .int .u8 q], .slice ca clen ccap, .agg #[.slice xa xlen xcap, .slice ha hlen hcap]] w fun e w' => e = .returned (.bool true) ∧ Below w.heap.size w w' := by
  by_cases hl : clen ≤ 40 ∧ xlen ≤ 40 ∧ hlen ≤ 40
  · obtain ⟨N, hN⟩ : ∃ N : Nat, 4 + p % 13 = (N : Int) := ⟨(4 + p % 13).toNat, by omega⟩
    have h4 : 4 ≤ N := by omega
    have h16 : N ≤ 16 := by omega
    obtain ⟨B, hB, hBN⟩ : ∃ B : Nat, q % (N : Int) = (B : Int) ∧ B < N := ⟨(q % (N : Int)).toNat, by have := Int.emod_nonneg q (show (N : Int) ≠ 0 by omega); omega, by have := Int.emod_lt_of_pos q (show (0 : Int) < N by omega); have := Int.emod_nonneg q (show (N : Int) ≠ 0 by omega); omega⟩
    exact one_main p q hp hq N B hN hB h4 h16 hBN ca clen ccap C xa xlen xcap X ha hlen hcap H w hl.1 hl.2.1 hl.2.2 rc rx rh
  · unfold maxLen at m1 m2 m3
    clear rc rx rh
    by_cases h1 : clen ≤ 40
    · by_cases h2 : xlen ≤ 40
      · have h3 : (40 : Int) < (hlen : Int) := by omega
        have h1' : ¬ (40 : Int) < (clen : Int) := by omega
        have h2' : ¬ (40 : Int) < (xlen : Int) := by omega
        clear hl
        go_enter Try.func4, Try.ntmps4
        go_wp2_with fail
        refine (lives15_any _).mono ?_
        rintro e w' ⟨rfl, hl⟩
        have HL := Lib.hid hl
        clear hl
        go_wp2
        go_ret
        exact ⟨rfl, (((Below.refl _ _).alloc (Nat.le_refl _) _).alloc (by simp) _).trans (HL.out.mono (by simp; omega))⟩
      · have h2' : (40 : Int) < (xlen : Int) := by omega
        have h1' : ¬ (40 : Int) < (clen : Int) := by omega
        clear hl
        go_enter Try.func4, Try.ntmps4
        go_wp2_with fail
        refine (lives15_any _).mono ?_
        rintro e w' ⟨rfl, hl⟩
        have HL := Lib.hid hl
        clear hl
        go_wp2
        go_ret
        exact ⟨rfl, (((Below.refl _ _).alloc (Nat.le_refl _) _).alloc (by simp) _).trans (HL.out.mono (by simp; omega))⟩
    · have h1' : (40 : Int) < (clen : Int) := by omega
      clear hl
      go_enter Try.func4, Try.ntmps4
      go_wp2_with fail
      refine (lives15_any _).mono ?_
      rintro e w' ⟨rfl, hl⟩
      have HL := Lib.hid hl
      clear hl
      go_wp2
      go_ret
      exact ⟨rfl, (((Below.refl _ _).alloc (Nat.le_refl _) _).alloc (by simp) _).trans (HL.out.mono (by simp; omega))⟩

section
variable {H : Type} {enc : TypeId × Value → H} {w : World}
theorem two_of {α : Type} {l : List α} (h : l.length = 2) : ∃ a b, l = [a, b] := by
  match l, h with
  | [a, b], _ => exact ⟨a, b, rfl⟩
theorem one_open {v : Value} {d : DataW H} {pl : List MemPlace} (h : DataW.Trod enc Try.prog w 0 (fun _ => true) true 43 v d pl) (hv : ∃ cs, v = .agg cs ∧ cs.size = Try.prog.cellsOf 43) (hw : (d.weights Try.prog 43).all (· ≤ reachBytes) = true) :
    ∃ xa xlen xcap X ha hlen hcap Hs, v = .agg #[.slice xa xlen xcap, .slice ha hlen hcap] ∧ RdRs (· < w.heap.size) w xa xlen X ∧ RdHs (· < w.heap.size) w ha hlen Hs ∧ xlen ≤ maxLen ∧ hlen ≤ maxLen := by
  obtain ⟨cs, rfl, hsz⟩ := hv
  obtain ⟨fuel, hf⟩ := h
  obtain ⟨xs, n', _, hx, hlen, hxl, hfl⟩ := DataW.trod_struct Try.underlying43 hf
  have hc : Try.prog.cellsOf 43 = 2 := by kernel_rfl
  rw [hc] at hsz
  obtain ⟨l⟩ := cs
  obtain ⟨c0, c1, rfl⟩ := two_of (by simpa using hsz)
  have g0 : DataW.trod enc Try.prog w 0 (fun _ => true) true n' 22 (([c0, c1].drop 0).take (Try.prog.cellsOf 22)) = xs[0]? := hfl 0 _ rfl
  have g1 : DataW.trod enc Try.prog w 0 (fun _ => true) true n' 28 (([c0, c1].drop 1).take (Try.prog.cellsOf 28)) = xs[1]? := hfl 1 _ rfl
  have hs : Try.prog.cellsOf 22 = 1 := by kernel_rfl
  have hi : Try.prog.cellsOf 28 = 1 := by kernel_rfl
  simp only [hs, hi, List.drop_zero, List.take_succ_cons, List.take_zero, List.drop_succ_cons] at g0 g1
  have l0 : xs[0]? = some (xs[0]'(by rw [hxl]; decide)) := List.getElem?_eq_getElem _
  have l1 : xs[1]? = some (xs[1]'(by rw [hxl]; decide)) := List.getElem?_eq_getElem _
  rw [l0] at g0
  rw [l1] at g1
  have hd : d = .agg (xs.map (·.1)) := by injection hx
  have hw2 : ((xs[0]'(by rw [hxl]; decide)).1.weights Try.prog 22).all (· ≤ reachBytes) = true := by
    refine List.all_eq_true.2 fun q hq => List.all_eq_true.1 hw q ?_
    have : (DataW.agg (xs.map (·.1))).weights Try.prog 43 = DataW.weightsEach Try.prog [22, 28] (xs.map (·.1)) := by
      simp only [DataW.weights, Try.underlying43]
      rfl
    rw [hd, this]
    exact DataW.weights_mem_each (j := 0) rfl (by rw [List.getElem?_map, l0]; rfl) q hq
  obtain ⟨x', m', cap', hv0⟩ : ∃ x' m' cap', c0 = .slice x' m' cap' := by
    rcases Deep.open_slice Try.underlying22 g0 with ⟨hcs, _⟩ | ⟨x', l', c', _, _, _, _, hcs, _⟩
    · simp at hcs; exact ⟨_, _, _, hcs⟩
    · simp at hcs; exact ⟨_, _, _, hcs⟩
  obtain ⟨y', n1, dap', hv1⟩ : ∃ x' m' cap', c1 = .slice x' m' cap' := by
    rcases Deep.open_slice Try.underlying28 g1 with ⟨hcs, _⟩ | ⟨x', l', c', _, _, _, _, hcs, _⟩
    · simp at hcs; exact ⟨_, _, _, hcs⟩
    · simp at hcs; exact ⟨_, _, _, hcs⟩
  subst hv0 hv1
  obtain ⟨X, h1, h2, h3, -⟩ := RdRs.open_ g0 hw2
  obtain ⟨Hs, k1, k2, k3⟩ := RdHs.open_ Try.underlying28 (by kernel_rfl) (by kernel_rfl) g1
  exact ⟨_, _, _, X, _, _, _, Hs, rfl, h1, k1, by omega, by omega⟩
end
end Go.Proofs.Ytphbmnjkhgfnoaa
