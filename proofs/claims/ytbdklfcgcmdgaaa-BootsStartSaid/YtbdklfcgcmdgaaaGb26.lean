/-
  Rows that came in, opened. What is faulty, that came in, opened. (*sennitlaw14.Ring).said. Where a ring lies: each block has an owner, told by a number: 0 what is read alone (what was sent, what came in), i + 1 lane i, N + 1 the ring's own, 98 all others.
-/
import Derived.Test.YtbdklfcgcmdgaaaGb17
import Derived.Test.YtbdklfcgcmdgaaaGb25
import Derived.SizedLaws
import Derived.Test.YtbdklfcgcmdgaaaGb13
import Derived.Deep.CutBlock
import Derived.Deep.DeepCutAuto
import Derived.Deep.QuietTactic
import Derived.BigQuiet
namespace Go.Proofs.Ytbdklfcgcmdgaaa
open Go.RowKit
set_option linter.unusedVariables false
set_option linter.unusedSimpArgs false

theorem weightsAll_mem {H : Type} {P : Program} {e : TypeId} {d : DataW H} : ∀ {l : List (DataW H)}, d ∈ l → ∀ n ∈ d.weights P e, n ∈ DataW.weightsAll P e l
  | x :: l, h, n, hn => by
    simp only [DataW.weightsAll, List.mem_append]
    rcases List.mem_cons.1 h with rfl | h
    · exact .inl hn
    · exact .inr (weightsAll_mem h n hn)
section
variable {H : Type} {enc : TypeId × Value → H} {w : World}

theorem cellsOf_row : Try.prog.cellsOf 54 = 57 := by kernel_rfl
set_option maxRecDepth 100000 in
/-- a row's cells, opened -/
theorem row_open {fuel : Nat} {cs : List Value} {d : DataW H × List MemPlace} (h : DataW.trod enc Try.prog w 0 (fun _ => true) true fuel 54 cs = some d) :
    ∃ (r : Rw) (tv : Value), r.ok ∧ cs = r.vals tv ∧ RowR (· < w.heap.size) w r tv ∧ ((d.1.weights Try.prog 54).all (· ≤ reachBytes) = true → r.t.length ≤ 140737488355328) := by
  obtain ⟨xs, n', _, rfl, hlen, hxl, hfl⟩ := DataW.trod_struct Try.underlying54 h
  rw [cellsOf_row] at hlen
  have g0 : DataW.trod enc Try.prog w 0 (fun _ => true) true n' 4 ((cs.drop 0).take (Try.prog.cellsOf 4)) = xs[0]? := hfl 0 _ rfl
  have g1 : DataW.trod enc Try.prog w 0 (fun _ => true) true n' 51 ((cs.drop 1).take (Try.prog.cellsOf 51)) = xs[1]? := hfl 1 _ rfl
  have g2 : DataW.trod enc Try.prog w 0 (fun _ => true) true n' 52 ((cs.drop 56).take (Try.prog.cellsOf 52)) = xs[2]? := hfl 2 _ rfl
  have hb : Try.prog.cellsOf 4 = 1 := by kernel_rfl
  have hc : Try.prog.cellsOf 51 = 55 := by kernel_rfl
  have hs : Try.prog.cellsOf 52 = 1 := by kernel_rfl
  rw [hb, List.drop_zero] at g0
  rw [hc] at g1
  rw [hs] at g2
  have l0 : xs[0]? = some (xs[0]'(by rw [hxl]; decide)) := List.getElem?_eq_getElem _
  have l1 : xs[1]? = some (xs[1]'(by rw [hxl]; decide)) := List.getElem?_eq_getElem _
  have l2 : xs[2]? = some (xs[2]'(by rw [hxl]; decide)) := List.getElem?_eq_getElem _
  rw [l0] at g0
  rw [l1] at g1
  rw [l2] at g2
  obtain ⟨b, hb1, _⟩ := DataW.trod_bool Try.underlying4 g0
  have hok := flat_open 7 51 cellK (by kernel_rfl) (by rw [hc, len_cellK]) n' _ _ g1
  have key : ∃ a len cap, (cs.drop 56).take 1 = [Value.slice a len cap] ∧ (∀ e s, xs[2]? = some (DataW.slice e s, (xs[2]'(by rw [hxl]; decide)).2) → len ≤ e.length) ∧ (a = none → len = 0) ∧ ((∃ e s, (xs[2]'(by rw [hxl]; decide)).1 = DataW.slice e s ∧ e.length = len) ∨ len = 0) := by
    rcases Deep.open_slice Try.underlying52 g2 with ⟨hcs, _⟩ | ⟨x, l, c, m, n, D, Pl, hcs, _, _, _, _, hx, _⟩
    · exact ⟨none, 0, 0, hcs, fun _ _ _ => Nat.zero_le _, fun _ => rfl, .inr rfl⟩
    · refine ⟨some x, l, c, hcs, fun e s he => ?_, fun h => by simp at h, .inl ⟨_, _, by rw [hx], by simp⟩⟩
      rw [l2, hx] at he
      simp at he
      rw [← he.1]; simp
  obtain ⟨a, len, cap, hsl, -, -, hd⟩ := key
  rw [hsl] at g2
  obtain ⟨l, hr, hmc, hcm⟩ := RdHs.open_ Try.underlying52 (by kernel_rfl) (by kernel_rfl) g2
  refine ⟨⟨b, (cs.drop 1).take 55, l⟩, .slice a len cap, ⟨hok, hr.2.1⟩, ?_, ⟨a, len, cap, rfl, hr, hmc, hcm⟩, fun hw => ?_⟩
  · have e1 : cs = cs.take 1 ++ ((cs.drop 1).take 55 ++ (cs.drop 56).take 1) := by
      rw [List.take_of_length_le (l := cs.drop 56) (by simp; omega)]
      conv => lhs; rw [← List.take_append_drop 1 cs, ← List.take_append_drop 55 (cs.drop 1), List.drop_drop]
    rw [hsl, hb1] at e1
    exact e1
  · have hl : l.length = len := hr.1
    rcases hd with ⟨e, s, h1, h2⟩ | h0
    · have hw' : (DataW.weightsEach Try.prog [4, 51, 52] (xs.map (·.1))).all (· ≤ reachBytes) = true := by
        have : (DataW.agg (xs.map (·.1))).weights Try.prog 54 = DataW.weightsEach Try.prog [4, 51, 52] (xs.map (·.1)) := by
          simp only [DataW.weights, Try.underlying54]
          rfl
        rw [← this]; exact hw
      have := sized_slice hw' (j := 2) (t := 52) rfl (show (xs.map (·.1))[2]? = some (DataW.slice e s) by rw [List.getElem?_map, l2, ← h1]; rfl) Try.underlying52
      have hby : 1 ≤ Try.prog.bytesOf 114 := of_decide_eq_true (by kernel_rfl)
      have h3 : (e.length + s.length) * 1 ≤ (e.length + s.length) * Try.prog.bytesOf 114 := Nat.mul_le_mul_left _ hby
      have := reachBytes_lt
      show l.length ≤ _
      omega
    · show l.length ≤ _
      omega

set_option maxRecDepth 100000 in
/-- a slice of rows, opened -/
theorem RdRs.open_ {fuel : Nat} {a : Option Addr} {len cap : Nat} {d : DataW H × List MemPlace} (h : DataW.trod enc Try.prog w 0 (fun _ => true) true fuel 32 [.slice a len cap] = some d) (hw : (d.1.weights Try.prog 32).all (· ≤ reachBytes) = true) :
    ∃ l, RdRs (· < w.heap.size) w a len l ∧ len ≤ cap ∧ cap ≤ maxLen ∧ szW l := by
  rcases Deep.open_slice Try.underlying32 h with ⟨hcs, _⟩ | ⟨x, l, c, m, n, D, Pl, hcs, _, hl, hm, hmm, hdd, hx⟩
  · simp at hcs
    obtain ⟨rfl, rfl, rfl⟩ := hcs
    exact ⟨[], ⟨rfl, by simp, by simp⟩, Nat.le_refl _, by simp, by simp [szW]⟩
  · simp at hcs
    obtain ⟨rfl, rfl, rfl⟩ := hcs
    simp at hmm
    rw [cellsOf_row] at hx
    have hw1 : (((List.range len).map D).length + ((List.range (m - len)).map fun j => D (len + j)).length) * Try.prog.bytesOf 54 ≤ reachBytes := by
      have := List.all_eq_true.1 hw ((((List.range len).map D).length + ((List.range (m - len)).map fun j => D (len + j)).length) * Try.prog.bytesOf 54) (by rw [hdd]; simp [DataW.weights, Try.underlying32])
      simpa using this
    have hw2 : ∀ i, i < len → ((D i).weights Try.prog 54).all (· ≤ reachBytes) = true := fun i hi => List.all_eq_true.2 fun q hq => by
      refine List.all_eq_true.1 hw q ?_
      rw [hdd]
      simp only [DataW.weights, Try.underlying32, List.mem_cons, List.mem_append]
      exact .inr (.inl (weightsAll_mem (d := D i) (by simp; exact ⟨i, hi, rfl⟩) q hq))
    have hby : 1 ≤ Try.prog.bytesOf 54 := of_decide_eq_true (by kernel_rfl)
    have key : ∀ i, i < len → ∃ y : Rw × Value, y.1.ok ∧ w.cells? 0 (x.add (i * 57)) 57 = some (y.1.vals y.2) ∧ RowR (· < w.heap.size) w y.1 y.2 ∧ y.1.t.length ≤ 140737488355328 := by
      intro i hi
      obtain ⟨cs, h1, h2⟩ := hx i (by omega)
      obtain ⟨r, tv, q1, rfl, q3, q4⟩ := row_open h2
      exact ⟨(r, tv), q1, h1, q3, q4 (hw2 i hi)⟩
    haveI : Inhabited (Rw × Value) := ⟨(rw0, .slice none 0 0)⟩
    obtain ⟨F, hF⟩ := Deep.choose_lt (α := Rw × Value) key
    refine ⟨(List.range len).map (fun i => (F i).1), ⟨by simp, fun y hy => ?_, fun k y hy => ?_⟩, hl, hm, ?_, fun y hy => ?_⟩
    · simp at hy
      obtain ⟨i, hi, rfl⟩ := hy
      exact (hF i hi).1
    · rw [List.getElem?_map, Option.map_eq_some_iff] at hy
      obtain ⟨k', hk', rfl⟩ := hy
      have hlt : k < len := by
        rcases Nat.lt_or_ge k len with h | h
        · exact h
        · rw [List.getElem?_eq_none (by simpa using h)] at hk'; cases hk'
      rw [List.getElem?_range hlt] at hk'
      cases hk'
      obtain ⟨h1, h2, ⟨x1, m1, c1, hv1, h4, h5, h6⟩, -⟩ := hF k hlt
      obtain ⟨_, hcl, hat⟩ := World.cells?_some h2
      have hcell : ∀ j v, ((F k).1.vals (F k).2)[j]? = some v → w.cell? ((x.add (k * 57)).add j) = some v := fun j v hv => by
        have hj : j < 57 := by rw [← hcl]; exact (List.getElem?_eq_some_iff.1 hv).1
        rw [hat j hj, hv]
      have hr := row_of_cells hcell
      rw [hcl] at hr
      have h0 := hcell 0 (.bool (F k).1.is) rfl
      obtain ⟨b, off, spot⟩ := x
      have hs : spot = none := by
        have h00 := hF 0 (by omega)
        obtain ⟨_, hcl0, hat0⟩ := World.cells?_some h00.2.1
        have := World.cell?_spot ((hat0 0 (by omega)).trans (rfl : ((F 0).1.vals (F 0).2)[0]? = some (.bool (F 0).1.is)))
        simpa [Addr.add] using this
      subst hs
      rw [add_at] at hr h0
      rw [hv1] at hr
      exact ⟨b, off, x1, m1, c1, rfl, World.block_lt_of_cell? w _ h0, World.block_lt_of_cell? w _ h0, hr.1, hr.2, h4, h5, h6⟩
    · simp at hw1 ⊢
      have h3 : (len + (m - len)) * 1 ≤ (len + (m - len)) * Try.prog.bytesOf 54 := Nat.mul_le_mul_left _ hby
      have := reachBytes_lt
      omega
    · simp at hy
      obtain ⟨i, hi, rfl⟩ := hy
      exact (hF i hi).2.2.2
set_option maxRecDepth 100000 in
/-- a word, opened -/
theorem word_open {v : Value} {d : DataW H} {pl : List MemPlace} (h : DataW.Trod enc Try.prog w 0 (fun _ => true) true 34 v d pl) (hv : ∃ cs, v = .agg cs ∧ cs.size = Try.prog.cellsOf 34) (hw : (d.weights Try.prog 34).all (· ≤ reachBytes) = true) :
    ∃ a len cap l, v = .agg #[.slice a len cap] ∧ RdRs (· < w.heap.size) w a len l ∧ len ≤ cap ∧ cap ≤ maxLen ∧ szW l := by
  obtain ⟨cs, rfl, hsz⟩ := hv
  obtain ⟨fuel, hf⟩ := h
  obtain ⟨xs, n', _, hx, hlen, hxl, hfl⟩ := DataW.trod_struct Try.underlying34 hf
  have hc : Try.prog.cellsOf 34 = 1 := by kernel_rfl
  rw [hc] at hsz
  have g0 : DataW.trod enc Try.prog w 0 (fun _ => true) true n' 32 ((cs.toList.drop 0).take (Try.prog.cellsOf 32)) = xs[0]? := hfl 0 _ rfl
  have hs : Try.prog.cellsOf 32 = 1 := by kernel_rfl
  have l0 : xs[0]? = some (xs[0]'(by rw [hxl]; decide)) := List.getElem?_eq_getElem _
  rw [hs, List.drop_zero, List.take_of_length_le (by simp [hsz])] at g0
  rw [l0] at g0
  obtain ⟨a, len, cap, hcs⟩ : ∃ a len cap, cs.toList = [Value.slice a len cap] := by
    rcases Deep.open_slice Try.underlying32 g0 with ⟨hcs, _⟩ | ⟨x', l', c', _, _, _, _, hcs, _⟩
    · exact ⟨_, _, _, hcs⟩
    · exact ⟨_, _, _, hcs⟩
  rw [hcs] at g0
  have hd : d = .agg (xs.map (·.1)) := by injection hx
  have hw2 : ((xs[0]'(by rw [hxl]; decide)).1.weights Try.prog 32).all (· ≤ reachBytes) = true := by
    refine List.all_eq_true.2 fun q hq => List.all_eq_true.1 hw q ?_
    have : (DataW.agg (xs.map (·.1))).weights Try.prog 34 = DataW.weightsEach Try.prog [32] (xs.map (·.1)) := by
      simp only [DataW.weights, Try.underlying34]
      rfl
    rw [hd, this]
    exact DataW.weights_mem_each (j := 0) rfl (by rw [List.getElem?_map, l0]; rfl) q hq
  obtain ⟨l, h1, h2, h3, h4⟩ := RdRs.open_ g0 hw2
  refine ⟨a, len, cap, l, ?_, h1, h2, h3, h4⟩
  congr 1
  apply Array.ext'
  rw [hcs]
set_option maxRecDepth 100000 in
/-- a row that came in, opened -/
theorem row_arg {v : Value} {d : DataW H} {pl : List MemPlace} (h : DataW.Trod enc Try.prog w 0 (fun _ => true) true 54 v d pl) (hv : ∃ cs, v = .agg cs ∧ cs.size = Try.prog.cellsOf 54) :
    ∃ (r : Rw) (tv : Value), r.ok ∧ v = .agg (r.vals tv).toArray ∧ RowR (· < w.heap.size) w r tv := by
  obtain ⟨cs, rfl, hsz⟩ := hv
  obtain ⟨fuel, hf⟩ := h
  obtain ⟨r, tv, h1, h2, h3, -⟩ := row_open hf
  refine ⟨r, tv, h1, ?_, h3⟩
  congr 1
  apply Array.ext'
  simpa [Value.cells] using h2
end
end Go.Proofs.Ytbdklfcgcmdgaaa
namespace Go.Proofs.Ytbdklfcgcmdgaaa
open Go.RowKit
set_option linter.unusedVariables false
set_option linter.unusedSimpArgs false

section
variable {H : Type} {enc : TypeId × Value → H} {w : World}
theorem u8_one {l : List Value} (h : okL [.i .u8] l = true) : ∃ p : Int, l = [.int .u8 p] ∧ 0 ≤ p ∧ p ≤ 255 := by
  match l, okL_len h with
  | [a], _ =>
    simp only [okL, Bool.and_eq_true, and_true] at h
    cases a <;> simp [okK] at h
    obtain ⟨rfl, h1⟩ := h
    exact ⟨_, rfl, by simpa [Lit.wf, IntKind.min, IntKind.max, IntKind.signed, IntKind.bits] using h1⟩
theorem cellsOf_act : Try.prog.cellsOf 163 = 59 := by kernel_rfl
set_option maxRecDepth 100000 in
theorem act_trod {fuel : Nat} {cs : List Value} {d : DataW H × List MemPlace} (h : DataW.trod enc Try.prog w 0 (fun _ => true) true fuel 163 cs = some d) :
    ∃ (x : ActM) (tv : Value), x.ok ∧ cs = x.vals tv ∧ RowR (· < w.heap.size) w x.row tv ∧ ((d.1.weights Try.prog 163).all (· ≤ reachBytes) = true → x.row.t.length ≤ 140737488355328) := by
  obtain ⟨xs, n', _, rfl, hlen, hxl, hfl⟩ := DataW.trod_struct Try.underlying163 h
  have hc1 : Try.prog.cellsOf 5 = 1 := by kernel_rfl
  rw [cellsOf_act] at hlen
  have hx3 : xs.length = 3 := hxl
  have g0 : DataW.trod enc Try.prog w 0 (fun _ => true) true n' 5 ((cs.drop 0).take (Try.prog.cellsOf 5)) = xs[0]? := hfl 0 _ rfl
  have g1 : DataW.trod enc Try.prog w 0 (fun _ => true) true n' 5 ((cs.drop 1).take (Try.prog.cellsOf 5)) = xs[1]? := hfl 1 _ rfl
  have g2 : DataW.trod enc Try.prog w 0 (fun _ => true) true n' 54 ((cs.drop 2).take (Try.prog.cellsOf 54)) = xs[2]? := hfl 2 _ rfl
  rw [hc1] at g0 g1
  rw [cellsOf_row] at g2
  have l0 : xs[0]? = some (xs[0]'(by omega)) := List.getElem?_eq_getElem _
  have l1 : xs[1]? = some (xs[1]'(by omega)) := List.getElem?_eq_getElem _
  have l2 : xs[2]? = some (xs[2]'(by omega)) := List.getElem?_eq_getElem _
  rw [l0] at g0
  rw [l1] at g1
  rw [l2] at g2
  obtain ⟨p, e0, p1, p2⟩ := u8_one (flat_open 1 5 [.i .u8] (by kernel_rfl) (by rw [hc1]; rfl) n' _ _ g0)
  obtain ⟨q, e1, q1, q2⟩ := u8_one (flat_open 1 5 [.i .u8] (by kernel_rfl) (by rw [hc1]; rfl) n' _ _ g1)
  obtain ⟨r, tv, r1, e2, r2, r3⟩ := row_open g2
  refine ⟨⟨p, q, r⟩, tv, ⟨⟨p1, p2⟩, ⟨q1, q2⟩, r1⟩, ?_, r2, fun hw => r3 ?_⟩
  · have e : cs = cs.take 1 ++ ((cs.drop 1).take 1 ++ (cs.drop 2).take 57) := by
      rw [List.take_of_length_le (l := cs.drop 2) (by simp; omega)]
      conv => lhs; rw [← List.take_append_drop 1 cs, ← List.take_append_drop 1 (cs.drop 1), List.drop_drop]
    rw [List.drop_zero] at e0
    rw [e0, e1, e2] at e
    rw [e]
    rfl
  · have hwe : (DataW.agg (xs.map (·.1))).weights Try.prog 163 = DataW.weightsEach Try.prog [5, 5, 54] (xs.map (·.1)) := by
      simp only [DataW.weights, Try.underlying163]
      rfl
    refine List.all_eq_true.2 fun q hq => List.all_eq_true.1 hw q ?_
    show q ∈ (DataW.agg (xs.map (·.1))).weights Try.prog 163
    rw [hwe]
    exact DataW.weights_mem_each (j := 2) rfl (by rw [List.getElem?_map, l2]; rfl) q hq
set_option maxRecDepth 100000 in
/-- a slice of acts, opened -/
theorem RdAs.open_ {fuel : Nat} {a : Option Addr} {len cap : Nat} {d : DataW H × List MemPlace} (h : DataW.trod enc Try.prog w 0 (fun _ => true) true fuel 86 [.slice a len cap] = some d) (hw : (d.1.weights Try.prog 86).all (· ≤ reachBytes) = true) :
    ∃ l, RdAs (· < w.heap.size) w a len l ∧ len ≤ cap ∧ cap ≤ maxLen ∧ len ≤ 140737488355328 ∧ ∀ x ∈ l, x.row.t.length ≤ 140737488355328 := by
  rcases Deep.open_slice Try.underlying86 h with ⟨hcs, _⟩ | ⟨x, l, c, m, n, D, Pl, hcs, _, hl, hm, hmm, hdd, hx⟩
  · simp at hcs
    obtain ⟨rfl, rfl, rfl⟩ := hcs
    exact ⟨[], rdAs_nil _ _, Nat.le_refl _, by simp, by simp, by simp⟩
  · simp at hcs
    obtain ⟨rfl, rfl, rfl⟩ := hcs
    simp at hmm
    rw [cellsOf_act] at hx
    have hw1 : (((List.range len).map D).length + ((List.range (m - len)).map fun j => D (len + j)).length) * Try.prog.bytesOf 163 ≤ reachBytes := by
      have := List.all_eq_true.1 hw ((((List.range len).map D).length + ((List.range (m - len)).map fun j => D (len + j)).length) * Try.prog.bytesOf 163) (by rw [hdd]; simp [DataW.weights, Try.underlying86])
      simpa using this
    have hw2 : ∀ i, i < len → ((D i).weights Try.prog 163).all (· ≤ reachBytes) = true := fun i hi => List.all_eq_true.2 fun q hq => by
      refine List.all_eq_true.1 hw q ?_
      rw [hdd]
      simp only [DataW.weights, Try.underlying86, List.mem_cons, List.mem_append]
      exact .inr (.inl (weightsAll_mem (d := D i) (by simp; exact ⟨i, hi, rfl⟩) q hq))
    have hby : 1 ≤ Try.prog.bytesOf 163 := of_decide_eq_true (by kernel_rfl)
    have key : ∀ i, i < len → ∃ y : ActM × Value, y.1.ok ∧ w.cells? 0 (x.add (i * 59)) 59 = some (y.1.vals y.2) ∧ RowR (· < w.heap.size) w y.1.row y.2 ∧ y.1.row.t.length ≤ 140737488355328 := by
      intro i hi
      obtain ⟨cs, h1, h2⟩ := hx i (by omega)
      obtain ⟨r, tv, q1, rfl, q3, q4⟩ := act_trod h2
      exact ⟨(r, tv), q1, h1, q3, q4 (hw2 i hi)⟩
    haveI : Inhabited (ActM × Value) := ⟨(⟨0, 0, rw0⟩, .slice none 0 0)⟩
    obtain ⟨F, hF⟩ := Deep.choose_lt (α := ActM × Value) key
    refine ⟨(List.range len).map (fun i => (F i).1), ⟨by simp, fun y hy => ?_, fun k y hy => ?_⟩, hl, hm, ?_, fun y hy => ?_⟩
    · simp at hy
      obtain ⟨i, hi, rfl⟩ := hy
      exact (hF i hi).1
    · rw [List.getElem?_map, Option.map_eq_some_iff] at hy
      obtain ⟨k', hk', rfl⟩ := hy
      have hlt : k < len := by
        rcases Nat.lt_or_ge k len with h | h
        · exact h
        · rw [List.getElem?_eq_none (by simpa using h)] at hk'; cases hk'
      rw [List.getElem?_range hlt] at hk'
      cases hk'
      obtain ⟨h1, h2, h3, -⟩ := hF k hlt
      obtain ⟨_, hcl, hat⟩ := World.cells?_some h2
      have hcell : ∀ j v, ((F k).1.vals (F k).2)[j]? = some v → w.cell? ((x.add (k * 59)).add j) = some v := fun j v hv => by
        have hj : j < 59 := by rw [← hcl]; exact (List.getElem?_eq_some_iff.1 hv).1
        rw [hat j hj, hv]
      have hr := row_of_cells hcell
      rw [hcl] at hr
      have h0 := hcell 0 (.int .u8 (F k).1.kind) rfl
      obtain ⟨b, off, spot⟩ := x
      have hs : spot = none := by
        have h00 := hF 0 (by omega)
        obtain ⟨_, hcl0, hat0⟩ := World.cells?_some h00.2.1
        have := World.cell?_spot ((hat0 0 (by omega)).trans (rfl : ((F 0).1.vals (F 0).2)[0]? = some (.int .u8 (F 0).1.kind)))
        simpa [Addr.add] using this
      subst hs
      rw [add_at] at hr h0
      exact ⟨b, off, (F k).2, rfl, World.block_lt_of_cell? w _ h0, World.block_lt_of_cell? w _ h0, hr.1, hr.2, h3⟩
    · simp at hw1 ⊢
      have h3 : (len + (m - len)) * 1 ≤ (len + (m - len)) * Try.prog.bytesOf 163 := Nat.mul_le_mul_left _ hby
      have := reachBytes_lt
      omega
    · simp at hy
      obtain ⟨i, hi, rfl⟩ := hy
      exact (hF i hi).2.2.2
/-- what a fault that came in reads as -/
structure FltIn (S : Nat → Prop) (w : World) (F : FltM) (v : Value) : Prop where
  ac : ∃ a len cap, v = .slice a len cap ∧ RdAs S w a len F.acts ∧ len ≤ cap ∧ cap ≤ maxLen ∧ len ≤ 140737488355328
  sz : ∀ x ∈ F.acts, x.row.t.length ≤ 140737488355328
  at_ : F.at_ < 256
  wh : F.which < 256
set_option maxRecDepth 100000 in
theorem fault_trod {fuel : Nat} {cs : List Value} {d : DataW H × List MemPlace} (h : DataW.trod enc Try.prog w 0 (fun _ => true) true fuel 88 cs = some d) (hw : (d.1.weights Try.prog 88).all (· ≤ reachBytes) = true) :
    ∃ (F : FltM) (v : Value), cs = F.vals v ∧ FltIn (· < w.heap.size) w F v := by
  obtain ⟨xs, n', _, rfl, hlen, hxl, hfl⟩ := DataW.trod_struct Try.underlying88 h
  have hc : Try.prog.cellsOf 88 = 4 := by kernel_rfl
  have hc1 : Try.prog.cellsOf 5 = 1 := by kernel_rfl
  have hcb : Try.prog.cellsOf 4 = 1 := by kernel_rfl
  have hcs : Try.prog.cellsOf 86 = 1 := by kernel_rfl
  rw [hc] at hlen
  have hx3 : xs.length = 4 := hxl
  have g0 : DataW.trod enc Try.prog w 0 (fun _ => true) true n' 4 ((cs.drop 0).take (Try.prog.cellsOf 4)) = xs[0]? := hfl 0 _ rfl
  have g1 : DataW.trod enc Try.prog w 0 (fun _ => true) true n' 5 ((cs.drop 1).take (Try.prog.cellsOf 5)) = xs[1]? := hfl 1 _ rfl
  have g2 : DataW.trod enc Try.prog w 0 (fun _ => true) true n' 5 ((cs.drop 2).take (Try.prog.cellsOf 5)) = xs[2]? := hfl 2 _ rfl
  have g3 : DataW.trod enc Try.prog w 0 (fun _ => true) true n' 86 ((cs.drop 3).take (Try.prog.cellsOf 86)) = xs[3]? := hfl 3 _ rfl
  rw [hcb] at g0
  rw [hc1] at g1 g2
  rw [hcs] at g3
  have l0 : xs[0]? = some (xs[0]'(by omega)) := List.getElem?_eq_getElem _
  have l1 : xs[1]? = some (xs[1]'(by omega)) := List.getElem?_eq_getElem _
  have l2 : xs[2]? = some (xs[2]'(by omega)) := List.getElem?_eq_getElem _
  have l3 : xs[3]? = some (xs[3]'(by omega)) := List.getElem?_eq_getElem _
  rw [l0] at g0
  rw [l1] at g1
  rw [l2] at g2
  rw [l3] at g3
  obtain ⟨b, e0, _⟩ := DataW.trod_bool Try.underlying4 g0
  obtain ⟨p, e1, p1, p2⟩ := u8_one (flat_open 1 5 [.i .u8] (by kernel_rfl) (by rw [hc1]; rfl) n' _ _ g1)
  obtain ⟨q, e2, q1, q2⟩ := u8_one (flat_open 1 5 [.i .u8] (by kernel_rfl) (by rw [hc1]; rfl) n' _ _ g2)
  obtain ⟨a, len, cap, e3⟩ : ∃ a len cap, (cs.drop 3).take 1 = [Value.slice a len cap] := by
    rcases Deep.open_slice Try.underlying86 g3 with ⟨hcs, _⟩ | ⟨x', l', c', _, _, _, _, hcs, _⟩
    · exact ⟨_, _, _, hcs⟩
    · exact ⟨_, _, _, hcs⟩
  rw [e3] at g3
  have hw3 : ((xs[3]'(by omega)).1.weights Try.prog 86).all (· ≤ reachBytes) = true := by
    have hwe : (DataW.agg (xs.map (·.1))).weights Try.prog 88 = DataW.weightsEach Try.prog [4, 5, 5, 86] (xs.map (·.1)) := by
      simp only [DataW.weights, Try.underlying88]
      rfl
    refine List.all_eq_true.2 fun q hq => List.all_eq_true.1 hw q ?_
    show q ∈ (DataW.agg (xs.map (·.1))).weights Try.prog 88
    rw [hwe]
    exact DataW.weights_mem_each (j := 3) rfl (by rw [List.getElem?_map, l3]; rfl) q hq
  obtain ⟨l, r1, r2, r3, r4, r5⟩ := RdAs.open_ g3 hw3
  obtain ⟨pn, rfl⟩ : ∃ pn : Nat, p = pn := ⟨p.toNat, by omega⟩
  obtain ⟨qn, rfl⟩ : ∃ qn : Nat, q = qn := ⟨q.toNat, by omega⟩
  refine ⟨⟨b, pn, qn, l⟩, .slice a len cap, ?_, ⟨⟨a, len, cap, rfl, r1, r2, r3, r4⟩, r5, by show pn < 256; omega, by show qn < 256; omega⟩⟩
  have e : cs = cs.take 1 ++ ((cs.drop 1).take 1 ++ ((cs.drop 2).take 1 ++ (cs.drop 3).take 1)) := by
    rw [List.take_of_length_le (l := cs.drop 3) (by simp; omega)]
    conv => lhs; rw [← List.take_append_drop 1 cs, ← List.take_append_drop 1 (cs.drop 1), ← List.take_append_drop 1 ((cs.drop 1).drop 1), List.drop_drop, List.drop_drop]
  rw [List.drop_zero] at e0
  rw [e0, e1, e2, e3] at e
  rw [e]
  rfl
theorem fault_open {v : Value} {d : DataW H} {pl : List MemPlace} (h : DataW.Trod enc Try.prog w 0 (fun _ => true) true 88 v d pl) (hv : ∃ cs, v = .agg cs ∧ cs.size = Try.prog.cellsOf 88) (hw : (d.weights Try.prog 88).all (· ≤ reachBytes) = true) :
    ∃ (F : FltM) (u : Value), v = .agg (F.vals u).toArray ∧ FltIn (· < w.heap.size) w F u := by
  obtain ⟨cs, rfl, hsz⟩ := hv
  obtain ⟨fuel, hf⟩ := h
  obtain ⟨F, u, h1, h2⟩ := fault_trod hf hw
  refine ⟨F, u, ?_, h2⟩
  congr 1
  apply Array.ext'
  simpa [Value.cells] using h1
end
end Go.Proofs.Ytbdklfcgcmdgaaa
namespace Go.Proofs.Ytbdklfcgcmdgaaa
open Go.RowKit
set_option linter.unusedVariables false
set_option linter.unusedSimpArgs false

/-- a list of rows, read whole -/
theorem RdRs.whole {S : Nat → Prop} {w : World} {a : Option Addr} {m : Nat} {l : List Rw} (h : RdRs S w a m l) (hm : 0 < m) :
    ∃ b off ps, a = some ⟨b, off, none⟩ ∧ ps.map Prod.fst = l ∧ (∀ p ∈ ps, p.1.ok ∧ RowR S w p.1 p.2) ∧ hasRow w ⟨b, off, none⟩ (m * 57) = true ∧ rowOf w ⟨b, off, none⟩ (m * 57) = flatP ps := by
  obtain ⟨h1, h2, h3⟩ := h
  have key : ∀ k, k < m → ∃ tv : Value, ∀ r, l[k]? = some r → RowR S w r tv ∧ ∃ b off, a = some ⟨b, off, none⟩ ∧ hasRow w ⟨b, off + k * 57, none⟩ 57 = true ∧ rowOf w ⟨b, off + k * 57, none⟩ 57 = r.vals tv := fun k hk => by
    have hkk : l[k]? = some (l[k]'(by omega)) := List.getElem?_eq_getElem _
    obtain ⟨b, off, x, n, c, e, -, -, r1, r2, r3, r4, r5⟩ := h3 k _ hkk
    refine ⟨.slice x n c, fun r hr => ?_⟩
    rw [hkk] at hr
    cases hr
    exact ⟨⟨x, n, c, rfl, r3, r4, r5⟩, b, off, e, r1, r2⟩
  haveI : Inhabited Value := ⟨.slice none 0 0⟩
  obtain ⟨T, hT⟩ := Deep.choose_lt (α := Value) key
  obtain ⟨b, off, x, n, c, hae, -⟩ := h3 0 _ (List.getElem?_eq_getElem (by omega))
  obtain ⟨ps, hps⟩ : ∃ ps, ps = (List.range m).map fun k => (l.getD k rw0, T k) := ⟨_, rfl⟩
  have hpl : ps.length = m := by rw [hps]; simp
  have hpk : ∀ k, k < m → ∃ r, l[k]? = some r ∧ ps[k]? = some (r, T k) := fun k hk => by
    obtain ⟨r, hkk⟩ : ∃ r, l[k]? = some r := ⟨_, List.getElem?_eq_getElem (by omega)⟩
    refine ⟨r, hkk, ?_⟩
    subst hps
    rw [List.getElem?_map, List.getElem?_range hk]
    show some (l.getD k rw0, T k) = _
    rw [List.getD_eq_getElem?_getD, hkk]; rfl
  have hok : ∀ p ∈ ps, p.1.ok ∧ RowR S w p.1 p.2 := fun p hp => by
    obtain ⟨k, hk⟩ := List.getElem?_of_mem hp
    have hkm : k < m := by rw [← hpl]; exact (List.getElem?_eq_some_iff.1 hk).1
    obtain ⟨r, hr, hp2⟩ := hpk k hkm
    rw [hp2] at hk
    cases hk
    exact ⟨h2 r (List.mem_of_getElem? hr), (hT k hkm r hr).1⟩
  have hfl := len_flatP (fun p hp => (hok p hp).1)
  rw [hpl] at hfl
  refine ⟨b, off, ps, hae, ?_, hok, ?_⟩
  · apply List.ext_getElem?
    intro k
    by_cases hk : k < m
    · obtain ⟨r, hr, hp2⟩ := hpk k hk
      rw [List.getElem?_map, hp2, hr]; rfl
    · rw [List.getElem?_eq_none (by simp [hpl]; omega), List.getElem?_eq_none (by omega)]
  · have := row_of_cells (w := w) (p := ⟨b, off, none⟩) (l := flatP ps) (fun j v hv => by
      have hj : j < m * 57 := by rw [← hfl]; exact (List.getElem?_eq_some_iff.1 hv).1
      have hk : j / 57 < m := by omega
      obtain ⟨r, hr, hp2⟩ := hpk _ hk
      obtain ⟨-, b', off', e, q1, q2⟩ := hT _ hk r hr
      rw [hae] at e
      cases e
      have hj2 : j % 57 < 57 := Nat.mod_lt _ (by omega)
      have e1 := flatP_at (fun p hp => (hok p hp).1) hp2 hj2
      rw [show j / 57 * 57 + j % 57 = j from by omega, hv] at e1
      have := row_cell q1 q2 (j % 57) hj2
      rw [show off + j / 57 * 57 + j % 57 = off + j from by omega] at this
      rw [add_at, this]
      exact e1.symm)
    rwa [hfl] at this
theorem flatP_cell1' {S : Nat → Prop} {w : World} {ps : List (Rw × Value)} (h : ∀ p ∈ ps, p.1.ok ∧ RowR S w p.1 p.2) : (flatP ps).all cell1 = true := by
  refine List.all_eq_true.2 fun u hu => ?_
  obtain ⟨p, hp, hu⟩ := List.mem_flatMap.1 hu
  exact List.all_eq_true.1 ((h p hp).2.cell1 (h p hp).1) u hu
theorem own_cap' {w : World} {base n g cap : Nat} {e : TypeId} {xs : List Value} (ho : w.ownsRow base e 57 (.slice (some ⟨g, 0, none⟩) n cap) n xs) : n ≤ cap ∧ cap ≤ maxLen := by
  rcases ho.2 with ⟨h, -⟩ | ⟨g', cap', cur, he, h1, h2, h3, h4, -⟩
  · cases h
  · cases he; exact ⟨h3, h4⟩
/-- nothing, and a list of rows appended: the rows lie in new memory -/
theorem wpList_appZ {P : Program} {t e : TypeId} (hA : AppOk P t e 57) {w : World} {ops : Array Oper} {rest : List Oper} {o : Oper} {a : Act} {Q : Exit → Act → World → Prop} (hgd : o.guard = none) (s x : Operand)
    (ho : o.op = .call { callee := .builtin .append, args := #[s, x], argTypes := #[t, t] }) (hs : a.eval s = .slice none 0 0)
    {S : Nat → Prop} (ad : Option Addr) (m c : Nat) (l : List Rw) (hx : a.eval x = .slice ad m c) (hrd : RdRs S w ad m l) (hS : ∀ b, S b → b < w.heap.size) (hn : m ≤ 1000000000)
    (h0 : m = 0 → wpList P ops Q rest (a.put o.dst (.slice none 0 0)) w)
    (h : 0 < m → ∀ cap w' ps, ps.map Prod.fst = l → (∀ p ∈ ps, p.1.ok ∧ RowR S w' p.1 p.2) → w'.ownsRow w.heap.size e 57 (.slice (some ⟨w.heap.size, 0, none⟩) m cap) m (flatP ps) → Below w.heap.size w w' → m ≤ cap → cap ≤ maxLen → wpList P ops Q rest (a.put o.dst (.slice (some ⟨w.heap.size, 0, none⟩) m cap)) w') : wpList P ops Q (o :: rest) a w := by
  rcases Nat.eq_zero_or_pos m with rfl | hm
  · obtain ⟨ht, i, z, hi, hz, hsize, hby, hzs, hsz⟩ := hA
    refine wpList_plain hgd fun K hK => ?_
    unfold Oper.wp execOp
    simp only [ho, resolve, invoke, builtin, Sem.run_bind, Sem.run_pure, Result.andThen_ok, List.map_toArray, List.map_cons, List.map_nil, hs, hx, run_append_zero ht hi (.slice none 0 0) 0 [] (World.ownsRow_nil w 0 e 57) ad c]
    exact hK _ _ (h0 rfl)
  · obtain ⟨b, off, ps, rfl, e1, e2, e3, e4⟩ := hrd.whole hm
    have hpl : ps.length = m := by rw [← hrd.1, ← e1]; simp
    refine wpList_lies hA hgd s x ho w.heap.size (.slice none 0 0) 0 [] hs (World.ownsRow_nil _ _ _ _) _ m c (flatP ps) hx (by rw [len_flatP (fun p hp => (e2 p hp).1), hpl]) e3 e4 (flatP_cell1' e2) hm (by omega) (Nat.le_refl _) (fun g cap w' k1 k2 k3 => ?_)
    have hg : g = w.heap.size := k3.elim (fun h => by cases h) id
    subst hg
    have hB : Below w.heap.size w w' := (Below.refl _ _).grown k2 (Nat.le_refl _) (fun q hq => by cases hq)
    rw [Nat.zero_add, List.nil_append] at k1
    obtain ⟨c1, c2⟩ := own_cap' k1
    have := h hm cap w' ps e1 (fun p hp => ⟨(e2 p hp).1, (e2 p hp).2.keep hB.size (fun b _ hl => hB.block b hl)⟩) k1 hB c1 c2
    rwa [Nat.zero_add]

theorem ag_act : aggOf Try.prog 163 59 = true := by kernel_rfl
section
variable (ρ : Operand → Value) (d : Option Tmp) (x y : Operand) (ty : TypeId) (s : String) (af : Array Edge) (g : Option (Nat × Bool)) (w : World)
@[go_sem ↓] theorem ld_act (h : hasRowV w 59 (ρ x) = true) :
    (execOp ρ { dst := d, op := .load 163 x, type := ty, pos := s, after := af, guard := g }).run Try.prog w = .ok (.value (.agg (rowV w 59 (ρ x)).toArray)) w := exec_load ag_act ρ d x ty s af g w h
@[go_sem ↓] theorem st_act (h1 : okAgg 59 (ρ y) = true) (h2 : canPutV w 59 (ρ x) = true) :
    (execOp ρ { dst := d, op := .store 163 x y, type := ty, pos := s, after := af, guard := g }).run Try.prog w = .ok .skip (putV w (ρ x) (ρ y)) := exec_store ag_act ρ d x y ty s af g w h1 h2
end
def actZ : List Value := .int .u8 0 :: .int .u8 0 :: rowZ
theorem zero_act : zeroIs Try.prog 163 actZ := by unfold zeroIs; kernel_rfl
@[go_sem ↓] theorem al_act (ρ : Operand → Value) (d : Option Tmp) (ty : TypeId) (s : String) (af : Array Edge) (g : Option (Nat × Bool)) (w : World) :
    (execOp ρ { dst := d, op := .alloc 163, type := ty, pos := s, after := af, guard := g }).run Try.prog w = .ok (.value (.pointer (some ⟨w.heap.size, 0, none⟩))) (w.alloc (.cells actZ.toArray 163)) := exec_alloc zero_act ρ d ty s af g w
@[go_sem] theorem len_actZ : actZ.length = 59 := by kernel_rfl
/-- three words boxed -/
structure Sd3 (w : World) (u v : Value) (wx : World) : Prop where
  b0 : Blk wx w.heap.size 34 #[u]
  b1 : Blk wx (w.heap.size + 1) 34 #[v]
  b2 : Blk wx (w.heap.size + 1 + 1) 34 #[.slice none 0 0]
  sz : w.heap.size + 1 + 1 + 1 ≤ wx.heap.size
  bel : Below w.heap.size w wx
theorem sd3_of (w : World) (u v : Value) : Sd3 w u v (((w.alloc (.cells #[u] 34)).alloc (.cells #[v] 34)).alloc (.cells #[.slice none 0 0] 34)) := by
  have s1 : (w.alloc (.cells #[u] 34)).heap.size = w.heap.size + 1 := by simp
  have s2 : ((w.alloc (.cells #[u] 34)).alloc (.cells #[v] 34)).heap.size = w.heap.size + 1 + 1 := by simp
  have k1 := Blk.new (w.alloc (.cells #[u] 34)) 34 #[v]
  have k2 := Blk.new ((w.alloc (.cells #[u] 34)).alloc (.cells #[v] 34)) 34 #[.slice none 0 0]
  rw [s1] at k1
  rw [s2] at k2
  exact ⟨((Blk.new _ _ _).alloc _).alloc _, k1.alloc _, k2, by simp, (((Below.refl _ _).alloc (Nat.le_refl _) _).alloc (by simp) _).alloc (by simp; omega) _⟩
theorem Sd3.below {w : World} {u v : Value} {wx wy : World} (h : Sd3 w u v wx) (hb : Below wx.heap.size wx wy) : Sd3 w u v wy :=
  ⟨h.b0.below hb h.b0.lt, h.b1.below hb h.b1.lt, h.b2.below hb h.b2.lt, Nat.le_trans h.sz hb.size, h.bel.trans (hb.mono h.bel.size)⟩
def SaidPost (S : Nat → Prop) (l : List Rw) (w : World) (e : Ending) (w' : World) : Prop := ∃ u, e = .returned (.agg #[u]) ∧ WdAt (fun b => S b ∨ w.heap.size ≤ b) w' u l ∧ Below w.heap.size w w'
/-- the end: a word stored in the result's block -/
theorem Sd3.end_ {S : Nat → Prop} {l : List Rw} {w : World} {u v x : Value} {wx : World} (h : Sd3 w u v wx) (hx : WdAt (fun b => S b ∨ w.heap.size + 1 + 1 < b) wx x l) (hS : ∀ b, S b → b < w.heap.size) :
    hasRow (wx.setCell ⟨w.heap.size + 1 + 1, 0, none⟩ x) ⟨w.heap.size + 1 + 1, 0, none⟩ 1 = true ∧ SaidPost S l w (.returned (.agg (rowOf (wx.setCell ⟨w.heap.size + 1 + 1, 0, none⟩ x) ⟨w.heap.size + 1 + 1, 0, none⟩ 1).toArray)) (wx.setCell ⟨w.heap.size + 1 + 1, 0, none⟩ x) := by
  have hc := (h.b2.set_ 0 x).cell 0
  have hr := row1 (v := x) (by rw [hc]; rfl)
  refine ⟨hr.1, x, by rw [hr.2], ?_, h.bel.setCell (by simp; omega) _⟩
  exact (hx.keep (by simp) (fun b hb _ => Below.heap_setCell _ _ _ _ (by rcases hb with hb | hb; have := hS b hb; simp; omega; simp; omega))).mono (fun b _ hb => hb.imp id (fun h => by omega))
end Go.Proofs.Ytbdklfcgcmdgaaa
namespace Go.Proofs.Ytbdklfcgcmdgaaa
open Go.RowKit
set_option linter.unusedVariables false
set_option linter.unusedSimpArgs false

structure RgP where
  gl : Nat
  lc : Nat
  og : Nat
  sv : Value
  p : Nat → Nat
  gp : Nat → Nat
  G : Nat → Nat → Nat
def onL (N : Nat) (on : Nat → Bool) : List Value := (List.range N).map fun i => .bool (on i)
theorem onL_len (N : Nat) (on : Nat → Bool) : (onL N on).length = N := by simp [onL]
theorem onL_at {N : Nat} {on : Nat → Bool} {i : Nat} (h : i < N) : (onL N on)[i]? = some (.bool (on i)) := by simp [onL, h]
theorem onL_set {N : Nat} {on on' : Nat → Bool} {i : Nat} (h : ∀ j, j < N → j ≠ i → on' j = on j) : (onL N on).set i (.bool (on' i)) = onL N on' := by
  apply List.ext_getElem?
  intro j
  by_cases hj : j < N
  · rw [List.getElem?_set, onL_at hj]
    by_cases hji : i = j
    · subst hji; rw [if_pos rfl, if_pos (by rw [onL_len]; exact hj), onL_at hj]
    · rw [if_neg hji, onL_at hj, h j hj (fun e => hji e.symm)]
  · rw [List.getElem?_eq_none (by rw [List.length_set, onL_len]; omega), List.getElem?_eq_none (by rw [onL_len]; omega)]
theorem onL_congr {N : Nat} {on on' : Nat → Bool} (h : ∀ j, j < N → on' j = on j) : onL N on = onL N on' := by
  apply List.ext_getElem?
  intro j
  by_cases hj : j < N
  · rw [onL_at hj, onL_at hj, h j hj]
  · rw [List.getElem?_eq_none (by rw [onL_len]; omega), List.getElem?_eq_none (by rw [onL_len]; omega)]
def ringV (R : RingM) (av : Value) (P : RgP) : List Value :=
  [.int .i64 R.N, .bool R.F.link, .int .u8 R.F.at_, .int .u8 R.F.which, av, .slice (some ⟨P.gl, 0, none⟩) R.N P.lc, .slice (some ⟨P.og, 0, none⟩) R.N R.N, P.sv]
def Sn (tag : Nat → Nat) (w : World) (b : Nat) : Prop := tag b = 0 ∧ b < w.heap.size
def Rgs (tag : Nat → Nat) (N : Nat) (b : Nat) : Prop := 1 ≤ tag b ∧ tag b ≤ N + 1
structure RingAt (tag : Nat → Nat) (w : World) (rg : Nat) (av : Value) (R : RingM) (P : RgP) : Prop where
  b : Blk w rg 105 (ringV R av P).toArray
  l : ∃ cur : Array Value, Blk w P.gl 25 cur ∧ R.N ≤ cur.size ∧ ∀ i, i < R.N → cur[i]? = some (.pointer (some ⟨P.p i, 0, none⟩))
  lc : R.N ≤ P.lc ∧ P.lc ≤ maxLen
  o : Blk w P.og 4 (onL R.N R.on).toArray
  la : ∀ i, i < R.N → LaneAt (fun b => tag b = i + 1) w (P.p i) (P.gp i) (P.G i) (R.lane i) ∧ (R.lane i).n = R.N ∧ (R.lane i).me = i
  s : SentAt (Sn tag w) w P.sv R.N R.sent
  tr : tag rg = R.N + 1
  tl : tag P.gl = R.N + 1
  tog : tag P.og = R.N + 1
  ts : ∀ g, P.sv.ownBlock = some g → tag g = R.N + 1
  ac : ∃ a an ac, av = .slice a an ac ∧ RdAs (Sn tag w) w a an R.F.acts ∧ an ≤ ac ∧ ac ≤ maxLen ∧ an ≤ 140737488355328
  fl : R.F.at_ < 256 ∧ R.F.which < 256
  bd : 4 ≤ R.N ∧ R.N ≤ 16
  tg : ∀ b, w.heap.size ≤ b → tag b = 98
section
variable {tag : Nat → Nat} {w w' : World} {rg : Nat} {av : Value} {R : RingM} {P : RgP}
theorem RingAt.cells (h : RingAt tag w rg av R P) : w.cell? ⟨rg, 0, none⟩ = some (.int .i64 R.N) ∧ w.cell? ⟨rg, 1, none⟩ = some (.bool R.F.link) ∧ w.cell? ⟨rg, 2, none⟩ = some (.int .u8 R.F.at_) ∧ w.cell? ⟨rg, 3, none⟩ = some (.int .u8 R.F.which) ∧ w.cell? ⟨rg, 4, none⟩ = some av ∧
    w.cell? ⟨rg, 5, none⟩ = some (.slice (some ⟨P.gl, 0, none⟩) R.N P.lc) ∧ w.cell? ⟨rg, 6, none⟩ = some (.slice (some ⟨P.og, 0, none⟩) R.N R.N) ∧ w.cell? ⟨rg, 7, none⟩ = some P.sv := by
  refine ⟨?_, ?_, ?_, ?_, ?_, ?_, ?_, ?_⟩ <;> (rw [h.b.cell]; rfl)
theorem RingAt.lane_ (h : RingAt tag w rg av R P) {i : Nat} (hi : i < R.N) : w.cell? ⟨P.gl, i, none⟩ = some (.pointer (some ⟨P.p i, 0, none⟩)) := by
  obtain ⟨cur, h1, -, h3⟩ := h.l
  rw [h1.cell]; exact h3 i hi
theorem RingAt.on_ (h : RingAt tag w rg av R P) {i : Nat} (hi : i < R.N) : w.cell? ⟨P.og, i, none⟩ = some (.bool (R.on i)) := by
  rw [h.o.cell]
  simp only [List.getElem?_toArray]
  exact onL_at hi
theorem RingAt.ne (h : RingAt tag w rg av R P) : rg ≠ P.gl ∧ rg ≠ P.og ∧ P.gl ≠ P.og := by
  obtain ⟨cur, h1, -⟩ := h.l
  exact ⟨h.b.ne_ h1 (by decide), h.b.ne_ h.o (by decide), h1.ne_ h.o (by decide)⟩
theorem RingAt.sv_ne (h : RingAt tag w rg av R P) : ∀ g, P.sv.ownBlock = some g → g < w.heap.size ∧ g ≠ rg ∧ g ≠ P.gl ∧ g ≠ P.og := fun g hg => by
  obtain ⟨xs, -, h2, -⟩ := h.s.xs
  obtain ⟨cur, h1, -⟩ := h.l
  refine ⟨(h2.lt g hg).2, ?_, ?_, ?_⟩
  · rintro rfl; exact own_not h2 h.b (by decide) hg
  · rintro rfl; exact own_not h2 h1 (by decide) hg
  · rintro rfl; exact own_not h2 h.o (by decide) hg
/-- what the ring has stays, where nothing of it changes -/
theorem RingAt.keep (h : RingAt tag w rg av R P) (hs : w.heap.size ≤ w'.heap.size) (hk : ∀ b, b < w.heap.size → tag b ≤ R.N + 1 → w'.heap[b]? = w.heap[b]?) : RingAt tag w' rg av R P := by
  have hS : ∀ b, b < w.heap.size → Sn tag w b → Sn tag w' b := fun b _ hb => ⟨hb.1, Nat.lt_of_lt_of_le hb.2 hs⟩
  have hSk : ∀ b, Sn tag w b → b < w.heap.size → w'.heap[b]? = w.heap[b]? := fun b hb hl => hk b hl (by rw [hb.1]; omega)
  obtain ⟨cur, h1, h2, h3⟩ := h.l
  refine ⟨(hk rg h.b.lt (by rw [h.tr]; exact Nat.le_refl _)).trans h.b, ⟨cur, (hk _ h1.lt (by rw [h.tl]; exact Nat.le_refl _)).trans h1, h2, h3⟩, h.lc, (hk _ h.o.lt (by rw [h.tog]; exact Nat.le_refl _)).trans h.o, fun i hi => ⟨(h.la i hi).1.keep hs fun b hb hl => hk b hl (by rw [hb]; omega), (h.la i hi).2⟩, ?_, h.tr, h.tl, h.tog, h.ts, ?_, h.fl, h.bd, fun b hb => h.tg b (by omega)⟩
  · have h4 := h.s.keep hs hSk (fun g hg => hk g (h.sv_ne g hg).1 (by rw [h.ts g hg]; exact Nat.le_refl _))
    obtain ⟨xs, q1, q2, q3⟩ := h4.xs
    refine ⟨xs, q1, q2, fun t x W hx hW => ?_⟩
    obtain ⟨g, c, r1, r2, r3, r4, r5, r6⟩ := q3 t x W hx hW
    refine ⟨g, c, r1, ⟨r2.1, r3⟩, r3, r4, r5, fun i k hi hk' => ?_⟩
    obtain ⟨u, e1, e2⟩ := r6 i k hi hk'
    exact ⟨u, e1, e2.mono fun b hb hbs => ⟨hbs.1, hb⟩⟩
  · obtain ⟨a, an, ac, r1, r2, r3⟩ := h.ac
    exact ⟨a, an, ac, r1, (r2.keep hs hSk).mono fun b hb hbs => ⟨hbs.1, hb⟩, r3⟩
theorem RingAt.below (h : RingAt tag w rg av R P) (hb : Below w.heap.size w w') : RingAt tag w' rg av R P := h.keep hb.size fun b hl _ => hb.block b hl
theorem RingAt.chg {S : Nat → Prop} (h : RingAt tag w rg av R P) (hc : Chg S w w') (hS : ∀ b, S b → R.N + 1 < tag b) : RingAt tag w' rg av R P := h.keep hc.size fun b hl ht => hc.block b hl fun hs => by have := hS b hs; omega
/-- blocks of nobody's become what is read alone -/
theorem RingAt.seal (h : RingAt tag w rg av R P) {tag' : Nat → Nat} (ht : ∀ b, tag' b = tag b ∨ (tag b = 98 ∧ tag' b = 0 ∧ b < w.heap.size)) : RingAt tag' w rg av R P := by
  have hN := h.bd.2
  have e : ∀ b, tag b ≠ 98 → tag' b = tag b := fun b hb => by rcases ht b with h1 | h1; exact h1; exact absurd h1.1 hb
  have hS : ∀ b, b < w.heap.size → Sn tag w b → Sn tag' w b := fun b _ hb => ⟨by rw [e b (by rw [hb.1]; decide)]; exact hb.1, hb.2⟩
  refine ⟨h.b, h.l, h.lc, h.o, fun i hi => ⟨(h.la i hi).1.mono (fun b hb => by rw [e b (by omega)]; exact hb) (fun b hb => ?_), (h.la i hi).2⟩, ?_, by rw [e _ (by rw [h.tr]; omega)]; exact h.tr, by rw [e _ (by rw [h.tl]; omega)]; exact h.tl, by rw [e _ (by rw [h.tog]; omega)]; exact h.tog, fun g hg => by rw [e _ (by rw [h.ts g hg]; omega)]; exact h.ts g hg, ?_, h.fl, h.bd, fun b hb => ?_⟩
  · rcases ht b with h1 | h1
    · exact (h.la i hi).1.lt b (by rw [← h1]; exact hb)
    · exact h1.2.2
  · obtain ⟨xs, q1, q2, q3⟩ := h.s.xs
    refine ⟨xs, q1, q2, fun t x W hx hW => ?_⟩
    obtain ⟨g, c, r1, r2, r3, r4, r5, r6⟩ := q3 t x W hx hW
    refine ⟨g, c, r1, hS g r3 r2, r3, r4, r5, fun i k hi hk' => ?_⟩
    obtain ⟨u, e1, e2⟩ := r6 i k hi hk'
    exact ⟨u, e1, e2.mono hS⟩
  · obtain ⟨a, an, ac, r1, r2, r3⟩ := h.ac
    exact ⟨a, an, ac, r1, r2.mono hS, r3⟩
  · rcases ht b with h1 | h1
    · rw [h1]; exact h.tg b hb
    · omega
/-- it is told by its nodes below N -/
theorem RingAt.congr {R' : RingM} (h : RingAt tag w rg av R P) (hN : R'.N = R.N) (hF : R'.F = R.F) (hl : ∀ i, i < R.N → R'.lane i = R.lane i) (ho : ∀ i, i < R.N → R'.on i = R.on i) (hs : R'.sent = R.sent) : RingAt tag w rg av R' P := by
  obtain ⟨N', F', lane', on', sent'⟩ := R'
  simp only at hN hF hl ho hs
  subst hN hF hs
  exact ⟨h.b, h.l, h.lc, by rw [← onL_congr ho]; exact h.o, fun i hi => by show LaneAt _ _ _ _ _ (lane' i) ∧ (lane' i).n = _ ∧ (lane' i).me = _; rw [hl i hi]; exact h.la i hi, h.s, h.tr, h.tl, h.tog, h.ts, h.ac, h.fl, h.bd, h.tg⟩
/-- a node is switched -/
theorem RingAt.switch (h : RingAt tag w rg av R P) {i : Nat} (hi : i < R.N) (v : Bool) {on' : Nat → Bool} (he : on' i = v) (hoth : ∀ j, j < R.N → j ≠ i → on' j = R.on j) : RingAt tag (w.setCell ⟨P.og, i, none⟩ (.bool v)) rg av { R with on := on' } P := by
  have hne := h.ne
  have hk : ∀ b, b ≠ P.og → (w.setCell ⟨P.og, i, none⟩ (.bool v)).heap[b]? = w.heap[b]? := fun b hb => Below.heap_setCell _ _ _ _ hb
  have hsz : (w.setCell ⟨P.og, i, none⟩ (.bool v)).heap.size = w.heap.size := by simp
  have hN := h.bd.2
  obtain ⟨cur, h1, h2, h3⟩ := h.l
  have hS : ∀ b, b < w.heap.size → Sn tag w b → Sn tag (w.setCell ⟨P.og, i, none⟩ (.bool v)) b := fun b _ hb => ⟨hb.1, by rw [hsz]; exact hb.2⟩
  have hSk : ∀ b, Sn tag w b → b < w.heap.size → (w.setCell ⟨P.og, i, none⟩ (.bool v)).heap[b]? = w.heap[b]? := fun b hb _ => hk b (by rintro rfl; have := hb.1; rw [h.tog] at this; omega)
  refine ⟨(hk rg hne.2.1).trans h.b, ⟨cur, (hk _ hne.2.2).trans h1, h2, h3⟩, h.lc, ?_, fun j hj => ⟨(h.la j hj).1.keep (by rw [hsz]; exact Nat.le_refl _) fun b hb _ => hk b (by rintro rfl; rw [h.tog] at hb; have : j < R.N := hj; omega), (h.la j hj).2⟩, ?_, h.tr, h.tl, h.tog, h.ts, ?_, h.fl, h.bd, fun b hb => h.tg b (by rw [hsz] at hb; exact hb)⟩
  · have := h.o.set_ i (.bool v)
    have e : (onL R.N R.on).toArray.setIfInBounds i (.bool v) = (onL R.N on').toArray := by
      rw [List.setIfInBounds_toArray, ← he, onL_set hoth]
    rw [e] at this
    exact this
  · have h4 := h.s.keep (by rw [hsz]; exact Nat.le_refl _) hSk (fun g hg => hk g (h.sv_ne g hg).2.2.2)
    obtain ⟨xs, q1, q2, q3⟩ := h4.xs
    refine ⟨xs, q1, q2, fun t x W hx hW => ?_⟩
    obtain ⟨g, c, r1, r2, r3, r4, r5, r6⟩ := q3 t x W hx hW
    refine ⟨g, c, r1, ⟨r2.1, r3⟩, r3, r4, r5, fun i k hi hk' => ?_⟩
    obtain ⟨u, e1, e2⟩ := r6 i k hi hk'
    exact ⟨u, e1, e2.mono fun b hb hbs => ⟨hbs.1, hb⟩⟩
  · obtain ⟨a, an, ac, r1, r2, r3⟩ := h.ac
    exact ⟨a, an, ac, r1, (r2.keep (by rw [hsz]; exact Nat.le_refl _) hSk).mono fun b hb hbs => ⟨hbs.1, hb⟩, r3⟩
end
/-- an owner more for the blocks from lo to m -/
def tagR (tag : Nat → Nat) (lo m x b : Nat) : Nat := if lo ≤ b ∧ b < m then x else tag b
theorem tagR_in {tag : Nat → Nat} {lo m x b : Nat} (h1 : lo ≤ b) (h2 : b < m) : tagR tag lo m x b = x := if_pos ⟨h1, h2⟩
theorem tagR_lo {tag : Nat → Nat} {lo m x b : Nat} (h : b < lo) : tagR tag lo m x b = tag b := if_neg (by omega)
theorem tagR_hi {tag : Nat → Nat} {lo m x b : Nat} (h : m ≤ b) : tagR tag lo m x b = tag b := if_neg (by omega)
section
variable {tag : Nat → Nat} {w w' : World} {rg : Nat} {av : Value} {R : RingM} {P : RgP}
/-- lane i has done something: it lies in its own blocks and some new ones -/
theorem RingAt.turn (h : RingAt tag w rg av R P) {i m : Nat} (hi : i < R.N) (hm1 : w.heap.size ≤ m) (hm2 : m ≤ w'.heap.size) (hc : Chg (fun b => tag b = i + 1) w w') {pi gpi : Nat} {Gi : Nat → Nat} {L : LaneM}
    (hL : LaneAt (GrowS (fun b => tag b = i + 1) w.heap.size m) w' pi gpi Gi L) (hLn : L.n = R.N) (hLm : L.me = i) (hp : pi = P.p i) :
    RingAt (tagR tag w.heap.size m (i + 1)) w' rg av { R with lane := fun j => if j = i then L else R.lane j } { P with gp := fun j => if j = i then gpi else P.gp j, G := fun j => if j = i then Gi else P.G j } := by
  have hN := h.bd.2
  have hs := hc.size
  have hk : ∀ b, b < w.heap.size → tag b ≠ i + 1 → w'.heap[b]? = w.heap[b]? := fun b hb hne => hc.block b hb hne
  have lo : ∀ b, b < w.heap.size → tagR tag w.heap.size m (i + 1) b = tag b := fun b hb => tagR_lo hb
  have hS : ∀ b, Sn tag w b → Sn (tagR tag w.heap.size m (i + 1)) w' b := fun b hb => ⟨by rw [lo b hb.2]; exact hb.1, by have := hb.2; omega⟩
  have hSk : ∀ b, Sn tag w b → b < w.heap.size → w'.heap[b]? = w.heap[b]? := fun b hb hl => hk b hl (by rw [hb.1]; omega)
  obtain ⟨cur, h1, h2, h3⟩ := h.l
  have own : ∀ b, b < w.heap.size → tag b = R.N + 1 → w'.heap[b]? = w.heap[b]? := fun b hl hb => hk b hl (by rw [hb]; omega)
  refine ⟨(own rg h.b.lt h.tr).trans h.b, ⟨cur, (own _ h1.lt h.tl).trans h1, h2, h3⟩, h.lc, (own _ h.o.lt h.tog).trans h.o, fun j hj => ?_, ?_, by rw [lo _ h.b.lt]; exact h.tr, by rw [lo _ h1.lt]; exact h.tl, by rw [lo _ h.o.lt]; exact h.tog, fun g hg => by rw [lo _ (h.sv_ne g hg).1]; exact h.ts g hg, ?_, h.fl, h.bd, fun b hb => by rw [tagR_hi (by omega)]; exact h.tg b (by omega)⟩
  · by_cases hji : j = i
    · subst hji
      simp only [if_true]
      refine ⟨?_, hLn, hLm⟩
      rw [← hp]
      refine hL.mono (fun b hb => ?_) (fun b hb => ?_)
      · rcases hb with hb | hb
        · by_cases hbl : b < w.heap.size
          · rw [lo b hbl]; exact hb
          · have := h.tg b (by omega); omega
        · exact tagR_in hb.1 hb.2
      · by_cases hbm : b < m
        · omega
        · rw [tagR_hi (by omega), h.tg b (by omega)] at hb; omega
    · simp only [if_neg hji]
      have hla := h.la j hj
      refine ⟨?_, hla.2⟩
      refine (hla.1.keep hs fun b hb hl => hk b hl (by rw [hb]; omega)).mono (fun b hb => ?_) (fun b hb => ?_)
      · by_cases hbl : b < w.heap.size
        · rw [lo b hbl]; exact hb
        · have := h.tg b (by omega); have : j < R.N := hj; omega
      · by_cases hbm : b < m
        · omega
        · rw [tagR_hi (by omega), h.tg b (by omega)] at hb; have : j < R.N := hj; omega
  · have h4 := h.s.keep hs hSk (fun g hg => own g (h.sv_ne g hg).1 (h.ts g hg))
    obtain ⟨xs, q1, q2, q3⟩ := h4.xs
    refine ⟨xs, q1, q2, fun t x W hx hW => ?_⟩
    obtain ⟨g, c, r1, r2, r3, r4, r5, r6⟩ := q3 t x W hx hW
    refine ⟨g, c, r1, hS g r2, r3, r4, r5, fun i k hi hk' => ?_⟩
    obtain ⟨u, e1, e2⟩ := r6 i k hi hk'
    exact ⟨u, e1, e2.mono fun b hb hbs => hS b hbs⟩
  · obtain ⟨a, an, ac, r1, r2, r3⟩ := h.ac
    exact ⟨a, an, ac, r1, (r2.keep hs hSk).mono fun b hb hbs => hS b hbs, r3⟩
/-- a new lane is put in place i: it lies in new blocks -/
theorem RingAt.anew (h : RingAt tag w rg av R P) {i : Nat} (hi : i < R.N) (hb : Below w.heap.size w w') {pi gpi : Nat} {Gi : Nat → Nat} {L : LaneM}
    (hL : LaneAt (fun b => w.heap.size ≤ b ∧ b < w'.heap.size) w' pi gpi Gi L) (hLn : L.n = R.N) (hLm : L.me = i) :
    RingAt (tagR tag w.heap.size w'.heap.size (i + 1)) (w'.setCell ⟨P.gl, i, none⟩ (.pointer (some ⟨pi, 0, none⟩))) rg av { R with lane := fun j => if j = i then L else R.lane j } { P with p := fun j => if j = i then pi else P.p j, gp := fun j => if j = i then gpi else P.gp j, G := fun j => if j = i then Gi else P.G j } := by
  have hN := h.bd.2
  have hs := hb.size
  have hne := h.ne
  obtain ⟨cur, h1, h2, h3⟩ := h.l
  have hgl := h1.lt
  have hsz : (w'.setCell ⟨P.gl, i, none⟩ (.pointer (some ⟨pi, 0, none⟩))).heap.size = w'.heap.size := by simp
  have hk' : ∀ b, b ≠ P.gl → (w'.setCell ⟨P.gl, i, none⟩ (.pointer (some ⟨pi, 0, none⟩))).heap[b]? = w'.heap[b]? := fun b hb => Below.heap_setCell _ _ _ _ hb
  have hk : ∀ b, b < w.heap.size → b ≠ P.gl → (w'.setCell ⟨P.gl, i, none⟩ (.pointer (some ⟨pi, 0, none⟩))).heap[b]? = w.heap[b]? := fun b hbl hne => (hk' b hne).trans (hb.block b hbl)
  have lo : ∀ b, b < w.heap.size → tagR tag w.heap.size w'.heap.size (i + 1) b = tag b := fun b hb => tagR_lo hb
  have hS : ∀ b, Sn tag w b → Sn (tagR tag w.heap.size w'.heap.size (i + 1)) (w'.setCell ⟨P.gl, i, none⟩ (.pointer (some ⟨pi, 0, none⟩))) b := fun b hb => ⟨by rw [lo b hb.2]; exact hb.1, by have := hb.2; rw [hsz]; omega⟩
  have hSk : ∀ b, Sn tag w b → b < w.heap.size → (w'.setCell ⟨P.gl, i, none⟩ (.pointer (some ⟨pi, 0, none⟩))).heap[b]? = w.heap[b]? := fun b hb hl => hk b hl (by rintro rfl; have := hb.1; rw [h.tl] at this; omega)
  refine ⟨(hk rg h.b.lt hne.1).trans h.b, ⟨cur.setIfInBounds i (.pointer (some ⟨pi, 0, none⟩)), (h1.below hb hgl).set_ _ _, by simpa using h2, fun j hj => ?_⟩, h.lc, (hk _ h.o.lt (fun e => hne.2.2 e.symm)).trans h.o, fun j hj => ?_, ?_, by rw [lo _ h.b.lt]; exact h.tr, by show tagR _ _ _ _ P.gl = _; rw [lo _ h1.lt]; exact h.tl, by show tagR _ _ _ _ P.og = _; rw [lo _ h.o.lt]; exact h.tog, fun g hg => by rw [lo _ (h.sv_ne g hg).1]; exact h.ts g hg, ?_, h.fl, h.bd, fun b hb => by rw [hsz] at hb; rw [tagR_hi hb]; exact h.tg b (by omega)⟩
  · rw [Array.getElem?_setIfInBounds]
    by_cases hji : j = i
    · subst hji
      have : j < cur.size := by have : j < R.N := hj; omega
      simp [this]
    · rw [if_neg (fun e => hji e.symm)]
      simp only [if_neg hji]
      exact h3 j hj
  · by_cases hji : j = i
    · subst hji
      simp only [if_true]
      refine ⟨?_, hLn, hLm⟩
      refine (hL.keep (by rw [hsz]; exact Nat.le_refl _) fun b hb _ => hk' b (by omega)).mono (fun b hb => tagR_in hb.1 hb.2) (fun b hb => ?_)
      rw [hsz]
      by_cases hbm : b < w'.heap.size
      · exact hbm
      · rw [tagR_hi (by omega), h.tg b (by omega)] at hb; omega
    · simp only [if_neg hji]
      have hla := h.la j hj
      refine ⟨?_, hla.2⟩
      refine (hla.1.keep (by rw [hsz]; exact hs) fun b hb hl => hk b hl (by rintro rfl; rw [h.tl] at hb; have : j < R.N := hj; omega)).mono (fun b hb => ?_) (fun b hb => ?_)
      · by_cases hbl : b < w.heap.size
        · rw [lo b hbl]; exact hb
        · have := h.tg b (by omega); have : j < R.N := hj; omega
      · rw [hsz]
        by_cases hbm : b < w'.heap.size
        · exact hbm
        · rw [tagR_hi (by omega), h.tg b (by omega)] at hb; have : j < R.N := hj; omega
  · have h4 := h.s.keep (by rw [hsz]; exact hs) hSk (fun g hg => hk g (h.sv_ne g hg).1 (h.sv_ne g hg).2.2.1)
    obtain ⟨xs, q1, q2, q3⟩ := h4.xs
    refine ⟨xs, q1, q2, fun t x W hx hW => ?_⟩
    obtain ⟨g, c, r1, r2, r3, r4, r5, r6⟩ := q3 t x W hx hW
    refine ⟨g, c, r1, hS g r2, r3, r4, r5, fun i k hi hk' => ?_⟩
    obtain ⟨u, e1, e2⟩ := r6 i k hi hk'
    exact ⟨u, e1, e2.mono fun b hb hbs => hS b hbs⟩
  · obtain ⟨a, an, ac, r1, r2, r3⟩ := h.ac
    exact ⟨a, an, ac, r1, (r2.keep (by rw [hsz]; exact hs) hSk).mono fun b hb hbs => hS b hbs, r3⟩
end
end Go.Proofs.Ytbdklfcgcmdgaaa
