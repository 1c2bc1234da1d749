
/-
  Rows that came in, opened.
-/
import Derived.Test.YtbdklfcgcmdgaaaWrdD
import Derived.Test.YtbdklfcgcmdgaaaOpen
import Derived.SizedLaws
namespace Go.Proofs.Ytbdklfcgcmdgaaa
open Go.RowKit
set_option linter.unusedVariables false
set_option linter.unusedSimpArgs false

theorem weightsAll_mem {H : Type} {P : Program} {e : TypeId} {d : DataW H} : ∀ {l : List (DataW H)}, d ∈ l → ∀ n ∈ d.weights P e, n ∈ DataW.weightsAll P e l
  | x :: l, h, n, hn => by
    simp only [DataW.weightsAll, List.mem_append]
    rcases List.mem_cons.1 h with rfl | h
    · exact .inl hn
    · exact .inr (weightsAll_mem h n hn)
section
variable {H : Type} {enc : TypeId × Value → H} {w : World}

theorem cellsOf_row : Try.prog.cellsOf 54 = 57 := by kernel_rfl
set_option maxRecDepth 100000 in
/-- a row's cells, opened -/
theorem row_open {fuel : Nat} {cs : List Value} {d : DataW H × List MemPlace} (h : DataW.trod enc Try.prog w 0 (fun _ => true) true fuel 54 cs = some d) :
    ∃ (r : Rw) (tv : Value), r.ok ∧ cs = r.vals tv ∧ RowR (· < w.heap.size) w r tv ∧ ((d.1.weights Try.prog 54).all (· ≤ reachBytes) = true → r.t.length ≤ 140737488355328) := by
  obtain ⟨xs, n', _, rfl, hlen, hxl, hfl⟩ := DataW.trod_struct Try.underlying54 h
  rw [cellsOf_row] at hlen
  have g0 : DataW.trod enc Try.prog w 0 (fun _ => true) true n' 4 ((cs.drop 0).take (Try.prog.cellsOf 4)) = xs[0]? := hfl 0 _ rfl
  have g1 : DataW.trod enc Try.prog w 0 (fun _ => true) true n' 51 ((cs.drop 1).take (Try.prog.cellsOf 51)) = xs[1]? := hfl 1 _ rfl
  have g2 : DataW.trod enc Try.prog w 0 (fun _ => true) true n' 52 ((cs.drop 56).take (Try.prog.cellsOf 52)) = xs[2]? := hfl 2 _ rfl
  have hb : Try.prog.cellsOf 4 = 1 := by kernel_rfl
  have hc : Try.prog.cellsOf 51 = 55 := by kernel_rfl
  have hs : Try.prog.cellsOf 52 = 1 := by kernel_rfl
  rw [hb, List.drop_zero] at g0
  rw [hc] at g1
  rw [hs] at g2
  have l0 : xs[0]? = some (xs[0]'(by rw [hxl]; decide)) := List.getElem?_eq_getElem _
  have l1 : xs[1]? = some (xs[1]'(by rw [hxl]; decide)) := List.getElem?_eq_getElem _
  have l2 : xs[2]? = some (xs[2]'(by rw [hxl]; decide)) := List.getElem?_eq_getElem _
  rw [l0] at g0
  rw [l1] at g1
  rw [l2] at g2
  obtain ⟨b, hb1, _⟩ := DataW.trod_bool Try.underlying4 g0
  have hok := flat_open 7 51 cellK (by kernel_rfl) (by rw [hc, len_cellK]) n' _ _ g1
  have key : ∃ a len cap, (cs.drop 56).take 1 = [Value.slice a len cap] ∧ (∀ e s, xs[2]? = some (DataW.slice e s, (xs[2]'(by rw [hxl]; decide)).2) → len ≤ e.length) ∧ (a = none → len = 0) ∧ ((∃ e s, (xs[2]'(by rw [hxl]; decide)).1 = DataW.slice e s ∧ e.length = len) ∨ len = 0) := by
    rcases Deep.open_slice Try.underlying52 g2 with ⟨hcs, _⟩ | ⟨x, l, c, m, n, D, Pl, hcs, _, _, _, _, hx, _⟩
    · exact ⟨none, 0, 0, hcs, fun _ _ _ => Nat.zero_le _, fun _ => rfl, .inr rfl⟩
    · refine ⟨some x, l, c, hcs, fun e s he => ?_, fun h => by simp at h, .inl ⟨_, _, by rw [hx], by simp⟩⟩
      rw [l2, hx] at he
      simp at he
      rw [← he.1]; simp
  obtain ⟨a, len, cap, hsl, -, -, hd⟩ := key
  rw [hsl] at g2
  obtain ⟨l, hr, hmc, hcm⟩ := RdHs.open_ Try.underlying52 (by kernel_rfl) (by kernel_rfl) g2
  refine ⟨⟨b, (cs.drop 1).take 55, l⟩, .slice a len cap, ⟨hok, hr.2.1⟩, ?_, ⟨a, len, cap, rfl, hr, hmc, hcm⟩, fun hw => ?_⟩
  · have e1 : cs = cs.take 1 ++ ((cs.drop 1).take 55 ++ (cs.drop 56).take 1) := by
      rw [List.take_of_length_le (l := cs.drop 56) (by simp; omega)]
      conv => lhs; rw [← List.take_append_drop 1 cs, ← List.take_append_drop 55 (cs.drop 1), List.drop_drop]
    rw [hsl, hb1] at e1
    exact e1
  · have hl : l.length = len := hr.1
    rcases hd with ⟨e, s, h1, h2⟩ | h0
    · have hw' : (DataW.weightsEach Try.prog [4, 51, 52] (xs.map (·.1))).all (· ≤ reachBytes) = true := by
        have : (DataW.agg (xs.map (·.1))).weights Try.prog 54 = DataW.weightsEach Try.prog [4, 51, 52] (xs.map (·.1)) := by
          simp only [DataW.weights, Try.underlying54]
          rfl
        rw [← this]; exact hw
      have := sized_slice hw' (j := 2) (t := 52) rfl (show (xs.map (·.1))[2]? = some (DataW.slice e s) by rw [List.getElem?_map, l2, ← h1]; rfl) Try.underlying52
      have hby : 1 ≤ Try.prog.bytesOf 114 := of_decide_eq_true (by kernel_rfl)
      have h3 : (e.length + s.length) * 1 ≤ (e.length + s.length) * Try.prog.bytesOf 114 := Nat.mul_le_mul_left _ hby
      have := reachBytes_lt
      show l.length ≤ _
      omega
    · show l.length ≤ _
      omega

set_option maxRecDepth 100000 in
/-- a slice of rows, opened -/
theorem RdRs.open_ {fuel : Nat} {a : Option Addr} {len cap : Nat} {d : DataW H × List MemPlace} (h : DataW.trod enc Try.prog w 0 (fun _ => true) true fuel 32 [.slice a len cap] = some d) (hw : (d.1.weights Try.prog 32).all (· ≤ reachBytes) = true) :
    ∃ l, RdRs (· < w.heap.size) w a len l ∧ len ≤ cap ∧ cap ≤ maxLen ∧ szW l := by
  rcases Deep.open_slice Try.underlying32 h with ⟨hcs, _⟩ | ⟨x, l, c, m, n, D, Pl, hcs, _, hl, hm, hmm, hdd, hx⟩
  · simp at hcs
    obtain ⟨rfl, rfl, rfl⟩ := hcs
    exact ⟨[], ⟨rfl, by simp, by simp⟩, Nat.le_refl _, by simp, by simp [szW]⟩
  · simp at hcs
    obtain ⟨rfl, rfl, rfl⟩ := hcs
    simp at hmm
    rw [cellsOf_row] at hx
    have hw1 : (((List.range len).map D).length + ((List.range (m - len)).map fun j => D (len + j)).length) * Try.prog.bytesOf 54 ≤ reachBytes := by
      have := List.all_eq_true.1 hw ((((List.range len).map D).length + ((List.range (m - len)).map fun j => D (len + j)).length) * Try.prog.bytesOf 54) (by rw [hdd]; simp [DataW.weights, Try.underlying32])
      simpa using this
    have hw2 : ∀ i, i < len → ((D i).weights Try.prog 54).all (· ≤ reachBytes) = true := fun i hi => List.all_eq_true.2 fun q hq => by
      refine List.all_eq_true.1 hw q ?_
      rw [hdd]
      simp only [DataW.weights, Try.underlying32, List.mem_cons, List.mem_append]
      exact .inr (.inl (weightsAll_mem (d := D i) (by simp; exact ⟨i, hi, rfl⟩) q hq))
    have hby : 1 ≤ Try.prog.bytesOf 54 := of_decide_eq_true (by kernel_rfl)
    have key : ∀ i, i < len → ∃ y : Rw × Value, y.1.ok ∧ w.cells? 0 (x.add (i * 57)) 57 = some (y.1.vals y.2) ∧ RowR (· < w.heap.size) w y.1 y.2 ∧ y.1.t.length ≤ 140737488355328 := by
      intro i hi
      obtain ⟨cs, h1, h2⟩ := hx i (by omega)
      obtain ⟨r, tv, q1, rfl, q3, q4⟩ := row_open h2
      exact ⟨(r, tv), q1, h1, q3, q4 (hw2 i hi)⟩
    haveI : Inhabited (Rw × Value) := ⟨(rw0, .slice none 0 0)⟩
    obtain ⟨F, hF⟩ := Deep.choose_lt (α := Rw × Value) key
    refine ⟨(List.range len).map (fun i => (F i).1), ⟨by simp, fun y hy => ?_, fun k y hy => ?_⟩, hl, hm, ?_, fun y hy => ?_⟩
    · simp at hy
      obtain ⟨i, hi, rfl⟩ := hy
      exact (hF i hi).1
    · rw [List.getElem?_map, Option.map_eq_some_iff] at hy
      obtain ⟨k', hk', rfl⟩ := hy
      have hlt : k < len := by
        rcases Nat.lt_or_ge k len with h | h
        · exact h
        · rw [List.getElem?_eq_none (by simpa using h)] at hk'; cases hk'
      rw [List.getElem?_range hlt] at hk'
      cases hk'
      obtain ⟨h1, h2, ⟨x1, m1, c1, hv1, h4, h5, h6⟩, -⟩ := hF k hlt
      obtain ⟨_, hcl, hat⟩ := World.cells?_some h2
      have hcell : ∀ j v, ((F k).1.vals (F k).2)[j]? = some v → w.cell? ((x.add (k * 57)).add j) = some v := fun j v hv => by
        have hj : j < 57 := by rw [← hcl]; exact (List.getElem?_eq_some_iff.1 hv).1
        rw [hat j hj, hv]
      have hr := row_of_cells hcell
      rw [hcl] at hr
      have h0 := hcell 0 (.bool (F k).1.is) rfl
      obtain ⟨b, off, spot⟩ := x
      have hs : spot = none := by
        have h00 := hF 0 (by omega)
        obtain ⟨_, hcl0, hat0⟩ := World.cells?_some h00.2.1
        have := World.cell?_spot ((hat0 0 (by omega)).trans (rfl : ((F 0).1.vals (F 0).2)[0]? = some (.bool (F 0).1.is)))
        simpa [Addr.add] using this
      subst hs
      rw [add_at] at hr h0
      rw [hv1] at hr
      exact ⟨b, off, x1, m1, c1, rfl, World.block_lt_of_cell? w _ h0, World.block_lt_of_cell? w _ h0, hr.1, hr.2, h4, h5, h6⟩
    · simp at hw1 ⊢
      have h3 : (len + (m - len)) * 1 ≤ (len + (m - len)) * Try.prog.bytesOf 54 := Nat.mul_le_mul_left _ hby
      have := reachBytes_lt
      omega
    · simp at hy
      obtain ⟨i, hi, rfl⟩ := hy
      exact (hF i hi).2.2.2
set_option maxRecDepth 100000 in
/-- a word, opened -/
theorem word_open {v : Value} {d : DataW H} {pl : List MemPlace} (h : DataW.Trod enc Try.prog w 0 (fun _ => true) true 34 v d pl) (hv : ∃ cs, v = .agg cs ∧ cs.size = Try.prog.cellsOf 34) (hw : (d.weights Try.prog 34).all (· ≤ reachBytes) = true) :
    ∃ a len cap l, v = .agg #[.slice a len cap] ∧ RdRs (· < w.heap.size) w a len l ∧ len ≤ cap ∧ cap ≤ maxLen ∧ szW l := by
  obtain ⟨cs, rfl, hsz⟩ := hv
  obtain ⟨fuel, hf⟩ := h
  obtain ⟨xs, n', _, hx, hlen, hxl, hfl⟩ := DataW.trod_struct Try.underlying34 hf
  have hc : Try.prog.cellsOf 34 = 1 := by kernel_rfl
  rw [hc] at hsz
  have g0 : DataW.trod enc Try.prog w 0 (fun _ => true) true n' 32 ((cs.toList.drop 0).take (Try.prog.cellsOf 32)) = xs[0]? := hfl 0 _ rfl
  have hs : Try.prog.cellsOf 32 = 1 := by kernel_rfl
  have l0 : xs[0]? = some (xs[0]'(by rw [hxl]; decide)) := List.getElem?_eq_getElem _
  rw [hs, List.drop_zero, List.take_of_length_le (by simp [hsz])] at g0
  rw [l0] at g0
  obtain ⟨a, len, cap, hcs⟩ : ∃ a len cap, cs.toList = [Value.slice a len cap] := by
    rcases Deep.open_slice Try.underlying32 g0 with ⟨hcs, _⟩ | ⟨x', l', c', _, _, _, _, hcs, _⟩
    · exact ⟨_, _, _, hcs⟩
    · exact ⟨_, _, _, hcs⟩
  rw [hcs] at g0
  have hd : d = .agg (xs.map (·.1)) := by injection hx
  have hw2 : ((xs[0]'(by rw [hxl]; decide)).1.weights Try.prog 32).all (· ≤ reachBytes) = true := by
    refine List.all_eq_true.2 fun q hq => List.all_eq_true.1 hw q ?_
    have : (DataW.agg (xs.map (·.1))).weights Try.prog 34 = DataW.weightsEach Try.prog [32] (xs.map (·.1)) := by
      simp only [DataW.weights, Try.underlying34]
      rfl
    rw [hd, this]
    exact DataW.weights_mem_each (j := 0) rfl (by rw [List.getElem?_map, l0]; rfl) q hq
  obtain ⟨l, h1, h2, h3, h4⟩ := RdRs.open_ g0 hw2
  refine ⟨a, len, cap, l, ?_, h1, h2, h3, h4⟩
  congr 1
  apply Array.ext'
  rw [hcs]
set_option maxRecDepth 100000 in
/-- a row that came in, opened -/
theorem row_arg {v : Value} {d : DataW H} {pl : List MemPlace} (h : DataW.Trod enc Try.prog w 0 (fun _ => true) true 54 v d pl) (hv : ∃ cs, v = .agg cs ∧ cs.size = Try.prog.cellsOf 54) :
    ∃ (r : Rw) (tv : Value), r.ok ∧ v = .agg (r.vals tv).toArray ∧ RowR (· < w.heap.size) w r tv := by
  obtain ⟨cs, rfl, hsz⟩ := hv
  obtain ⟨fuel, hf⟩ := h
  obtain ⟨r, tv, h1, h2, h3, -⟩ := row_open hf
  refine ⟨r, tv, h1, ?_, h3⟩
  congr 1
  apply Array.ext'
  simpa [Value.cells] using h2
end
end Go.Proofs.Ytbdklfcgcmdgaaa
