
/-
  A tick that came in, opened.
-/
import Derived.Test.YtbdklfcgcmdgaaaTrkI
import Derived.Test.YtbdklfcgcmdgaaaOpn
namespace Go.Proofs.Ytbdklfcgcmdgaaa
open Go.RowKit
set_option linter.unusedVariables false
set_option linter.unusedSimpArgs false

section
variable {H : Type} {enc : TypeId × Value → H} {w : World}
theorem one_u8 {l : List Value} (h : okL [.i .u8] l = true) : ∃ p : Int, l = [.int .u8 p] ∧ 0 ≤ p ∧ p ≤ 255 := by
  match l, okL_len h with
  | [a], _ =>
    simp only [okL, Bool.and_eq_true, and_true] at h
    cases a <;> simp [okK] at h
    obtain ⟨rfl, h1⟩ := h
    exact ⟨_, rfl, by simpa [Lit.wf, IntKind.min, IntKind.max, IntKind.signed, IntKind.bits] using h1⟩
theorem word_trod {fuel : Nat} {cs : List Value} {d : DataW H × List MemPlace} (h : DataW.trod enc Try.prog w 0 (fun _ => true) true fuel 34 cs = some d) (hl : cs.length = 1) (hw : (d.1.weights Try.prog 34).all (· ≤ reachBytes) = true) :
    ∃ a len cap l, cs = [.slice a len cap] ∧ RdRs (· < w.heap.size) w a len l ∧ len ≤ cap ∧ cap ≤ maxLen ∧ szW l := by
  obtain ⟨c, rfl⟩ : ∃ c, cs = [c] := by
    match cs, hl with
    | [c], _ => exact ⟨c, rfl⟩
  obtain ⟨a, len, cap, l, he, h1, h2, h3, h4⟩ := word_open (v := .agg #[c]) (d := d.1) (pl := d.2) ⟨fuel, h⟩ ⟨#[c], rfl, by kernel_rfl⟩ hw
  injection he with he
  have : c = .slice a len cap := by
    have := congrArg Array.toList he
    simpa using this
  subst this
  exact ⟨a, len, cap, l, rfl, h1, h2, h3, h4⟩
set_option maxRecDepth 100000 in
theorem ins_trod {fuel : Nat} {cs : List Value} {d : DataW H × List MemPlace} (h : DataW.trod enc Try.prog w 0 (fun _ => true) true fuel 36 cs = some d) (hw : (d.1.weights Try.prog 36).all (· ≤ reachBytes) = true) :
    ∃ (a : Nat → Option Addr) (ln cp : Nat → Nat) (ins : Nat → List Rw), cs = [insV a ln cp 0, insV a ln cp 1, insV a ln cp 2, insV a ln cp 3] ∧ (∀ i, i < 4 → RdRs (· < w.heap.size) w (a i) (ln i) (ins i)) ∧ (∀ i, i < 4 → ln i ≤ cp i ∧ cp i ≤ maxLen) ∧ ∀ i, i < 4 → szW (ins i) := by
  obtain ⟨xs, n', _, rfl, hlen, hxl, hfl⟩ := DataW.trod_struct Try.underlying36 h
  have hc4 : Try.prog.cellsOf 36 = 4 := by kernel_rfl
  have hc1 : Try.prog.cellsOf 34 = 1 := by kernel_rfl
  rw [hc4] at hlen
  have hx4 : xs.length = 4 := hxl
  have key : ∀ i, i < 4 → ∃ a len cap l, (cs.drop i).take 1 = [.slice a len cap] ∧ RdRs (· < w.heap.size) w a len l ∧ len ≤ cap ∧ cap ≤ maxLen ∧ szW l := fun i hi => by
    have g : DataW.trod enc Try.prog w 0 (fun _ => true) true n' 34 ((cs.drop i).take (Try.prog.cellsOf 34)) = xs[i]? := by
      have hi' : i = 0 ∨ i = 1 ∨ i = 2 ∨ i = 3 := by omega
      rcases hi' with rfl | rfl | rfl | rfl
      · exact hfl 0 _ rfl
      · exact hfl 1 _ rfl
      · exact hfl 2 _ rfl
      · exact hfl 3 _ rfl
    rw [hc1] at g
    have l0 : xs[i]? = some (xs[i]'(by omega)) := List.getElem?_eq_getElem _
    rw [l0] at g
    refine word_trod g (by simp; omega) ?_
    refine List.all_eq_true.2 fun q hq => List.all_eq_true.1 hw q ?_
    have : (DataW.agg (xs.map (·.1))).weights Try.prog 36 = DataW.weightsEach Try.prog [34, 34, 34, 34] (xs.map (·.1)) := by
      simp only [DataW.weights, Try.underlying36]
      rfl
    show q ∈ (DataW.agg (xs.map (·.1))).weights Try.prog 36
    rw [this]
    exact DataW.weights_mem_each (j := i) (t := 34) (by
      have hi' : i = 0 ∨ i = 1 ∨ i = 2 ∨ i = 3 := by omega
      rcases hi' with rfl | rfl | rfl | rfl <;> rfl) (by rw [List.getElem?_map, l0]; rfl) q hq
  have hne : Inhabited (Option Addr × Nat × Nat × List Rw) := ⟨(none, 0, 0, [])⟩
  obtain ⟨a0, n0, c0, l0, e0, p0⟩ := key 0 (by omega)
  obtain ⟨a1, n1, c1, l1, e1, p1⟩ := key 1 (by omega)
  obtain ⟨a2, n2, c2, l2, e2, p2⟩ := key 2 (by omega)
  obtain ⟨a3, n3, c3, l3, e3, p3⟩ := key 3 (by omega)
  have hi4 : ∀ i, i < 4 → i = 0 ∨ i = 1 ∨ i = 2 ∨ i = 3 := fun i h => by omega
  refine ⟨fun i => if i = 0 then a0 else if i = 1 then a1 else if i = 2 then a2 else a3, fun i => if i = 0 then n0 else if i = 1 then n1 else if i = 2 then n2 else n3, fun i => if i = 0 then c0 else if i = 1 then c1 else if i = 2 then c2 else c3, fun i => if i = 0 then l0 else if i = 1 then l1 else if i = 2 then l2 else l3, ?_, fun i hi => ?_, fun i hi => ?_, fun i hi => ?_⟩
  · match cs, hlen with
    | [x0, x1, x2, x3], _ =>
      simp at e0 e1 e2 e3
      subst e0 e1 e2 e3
      rfl
  · rcases hi4 i hi with rfl | rfl | rfl | rfl
    · exact p0.1
    · exact p1.1
    · exact p2.1
    · exact p3.1
  · rcases hi4 i hi with rfl | rfl | rfl | rfl
    · exact ⟨p0.2.1, p0.2.2.1⟩
    · exact ⟨p1.2.1, p1.2.2.1⟩
    · exact ⟨p2.2.1, p2.2.2.1⟩
    · exact ⟨p3.2.1, p3.2.2.1⟩
  · rcases hi4 i hi with rfl | rfl | rfl | rfl
    · exact p0.2.2.2
    · exact p1.2.2.2
    · exact p2.2.2.2
    · exact p3.2.2.2
set_option maxRecDepth 100000 in
theorem tick_trod {fuel : Nat} {cs : List Value} {d : DataW H × List MemPlace} (h : DataW.trod enc Try.prog w 0 (fun _ => true) true fuel 56 cs = some d) (hw : (d.1.weights Try.prog 56).all (· ≤ reachBytes) = true) :
    ∃ (a : Nat → Option Addr) (ln cp : Nat → Nat) (tv : Value) (t : Tk), cs = tkV a ln cp tv t ∧ TkIn (· < w.heap.size) w a ln cp tv t := by
  obtain ⟨xs, n', _, rfl, hlen, hxl, hfl⟩ := DataW.trod_struct Try.underlying56 h
  have hc : Try.prog.cellsOf 56 = 62 := by kernel_rfl
  have hc4 : Try.prog.cellsOf 36 = 4 := by kernel_rfl
  have hc1 : Try.prog.cellsOf 5 = 1 := by kernel_rfl
  rw [hc] at hlen
  have hx3 : xs.length = 3 := hxl
  have g0 : DataW.trod enc Try.prog w 0 (fun _ => true) true n' 36 ((cs.drop 0).take (Try.prog.cellsOf 36)) = xs[0]? := hfl 0 _ rfl
  have g1 : DataW.trod enc Try.prog w 0 (fun _ => true) true n' 54 ((cs.drop 4).take (Try.prog.cellsOf 54)) = xs[1]? := hfl 1 _ rfl
  have g2 : DataW.trod enc Try.prog w 0 (fun _ => true) true n' 5 ((cs.drop 61).take (Try.prog.cellsOf 5)) = xs[2]? := hfl 2 _ rfl
  rw [hc4, List.drop_zero] at g0
  rw [cellsOf_row] at g1
  rw [hc1] at g2
  have l0 : xs[0]? = some (xs[0]'(by omega)) := List.getElem?_eq_getElem _
  have l1 : xs[1]? = some (xs[1]'(by omega)) := List.getElem?_eq_getElem _
  have l2 : xs[2]? = some (xs[2]'(by omega)) := List.getElem?_eq_getElem _
  rw [l0] at g0
  rw [l1] at g1
  rw [l2] at g2
  have hwe : (DataW.agg (xs.map (·.1))).weights Try.prog 56 = DataW.weightsEach Try.prog [36, 54, 5] (xs.map (·.1)) := by
    simp only [DataW.weights, Try.underlying56]
    rfl
  have hw0 : ((xs[0]'(by omega)).1.weights Try.prog 36).all (· ≤ reachBytes) = true := by
    refine List.all_eq_true.2 fun q hq => List.all_eq_true.1 hw q ?_
    show q ∈ (DataW.agg (xs.map (·.1))).weights Try.prog 56
    rw [hwe]
    exact DataW.weights_mem_each (j := 0) rfl (by rw [List.getElem?_map, l0]; rfl) q hq
  have hw1 : ((xs[1]'(by omega)).1.weights Try.prog 54).all (· ≤ reachBytes) = true := by
    refine List.all_eq_true.2 fun q hq => List.all_eq_true.1 hw q ?_
    show q ∈ (DataW.agg (xs.map (·.1))).weights Try.prog 56
    rw [hwe]
    exact DataW.weights_mem_each (j := 1) rfl (by rw [List.getElem?_map, l1]; rfl) q hq
  obtain ⟨a, ln, cp, ins, e0, q1, q2, q3⟩ := ins_trod g0 hw0
  obtain ⟨r, tv, r1, e1, r2, r3⟩ := row_open g1
  have hok := flat_open 1 5 [.i .u8] (by kernel_rfl) (by rw [hc1]; rfl) n' _ _ g2
  obtain ⟨p, e2, p1, p2⟩ := one_u8 hok
  refine ⟨a, ln, cp, tv, ⟨ins, r, p⟩, ?_, ⟨q1, q2, q3, r1, r2, r3 hw1, p1, p2⟩⟩
  have e : cs = cs.take 4 ++ ((cs.drop 4).take 57 ++ (cs.drop 61).take 1) := by
    rw [List.take_of_length_le (l := cs.drop 61) (by simp; omega)]
    conv => lhs; rw [← List.take_append_drop 4 cs, ← List.take_append_drop 57 (cs.drop 4), List.drop_drop]
  rw [e0, e1, e2] at e
  rw [e]
  rfl
theorem tick_open {v : Value} {d : DataW H} {pl : List MemPlace} (h : DataW.Trod enc Try.prog w 0 (fun _ => true) true 56 v d pl) (hv : ∃ cs, v = .agg cs ∧ cs.size = Try.prog.cellsOf 56) (hw : (d.weights Try.prog 56).all (· ≤ reachBytes) = true) :
    ∃ (a : Nat → Option Addr) (ln cp : Nat → Nat) (tv : Value) (t : Tk), v = .agg (tkV a ln cp tv t).toArray ∧ TkIn (· < w.heap.size) w a ln cp tv t := by
  obtain ⟨cs, rfl, hsz⟩ := hv
  obtain ⟨fuel, hf⟩ := h
  obtain ⟨a, ln, cp, tv, t, h1, h2⟩ := tick_trod hf hw
  refine ⟨a, ln, cp, tv, t, ?_, h2⟩
  congr 1
  apply Array.ext'
  simpa [Value.cells] using h1
end
end Go.Proofs.Ytbdklfcgcmdgaaa
