/-
  Rows that came in, opened. A tick that came in, opened.
-/
import Derived.Test.YtopakilglnpinaaGc16
import Derived.Test.YtopakilglnpinaaGc45
import Derived.SizedLaws
namespace Go.Proofs.Ytopakilglnpinaa
open Go.RowKit
set_option linter.unusedVariables false
set_option linter.unusedSimpArgs false

theorem weightsAll_mem {H : Type} {P : Program} {e : TypeId} {d : DataW H} : ∀ {l : List (DataW H)}, d ∈ l → ∀ n ∈ d.weights P e, n ∈ DataW.weightsAll P e l
  | x :: l, h, n, hn => by
    simp only [DataW.weightsAll, List.mem_append]
    rcases List.mem_cons.1 h with rfl | h
    · exact .inl hn
    · exact .inr (weightsAll_mem h n hn)
section
variable {H : Type} {enc : TypeId × Value → H} {w : World}

theorem cellsOf_row : Try.prog.cellsOf 54 = 57 := by kernel_rfl
set_option maxRecDepth 100000 in
/-- a row's cells, opened -/
theorem row_open {fuel : Nat} {cs : List Value} {d : DataW H × List MemPlace} (h : DataW.trod enc Try.prog w 0 (fun _ => true) true fuel 54 cs = some d) :
    ∃ (r : Rw) (tv : Value), r.ok ∧ cs = r.vals tv ∧ RowR (· < w.heap.size) w r tv ∧ ((d.1.weights Try.prog 54).all (· ≤ reachBytes) = true → r.t.length ≤ 140737488355328) := by
  obtain ⟨xs, n', _, rfl, hlen, hxl, hfl⟩ := DataW.trod_struct Try.underlying54 h
  rw [cellsOf_row] at hlen
  have g0 : DataW.trod enc Try.prog w 0 (fun _ => true) true n' 4 ((cs.drop 0).take (Try.prog.cellsOf 4)) = xs[0]? := hfl 0 _ rfl
  have g1 : DataW.trod enc Try.prog w 0 (fun _ => true) true n' 51 ((cs.drop 1).take (Try.prog.cellsOf 51)) = xs[1]? := hfl 1 _ rfl
  have g2 : DataW.trod enc Try.prog w 0 (fun _ => true) true n' 52 ((cs.drop 56).take (Try.prog.cellsOf 52)) = xs[2]? := hfl 2 _ rfl
  have hb : Try.prog.cellsOf 4 = 1 := by kernel_rfl
  have hc : Try.prog.cellsOf 51 = 55 := by kernel_rfl
  have hs : Try.prog.cellsOf 52 = 1 := by kernel_rfl
  rw [hb, List.drop_zero] at g0
  rw [hc] at g1
  rw [hs] at g2
  have l0 : xs[0]? = some (xs[0]'(by rw [hxl]; decide)) := List.getElem?_eq_getElem _
  have l1 : xs[1]? = some (xs[1]'(by rw [hxl]; decide)) := List.getElem?_eq_getElem _
  have l2 : xs[2]? = some (xs[2]'(by rw [hxl]; decide)) := List.getElem?_eq_getElem _
  rw [l0] at g0
  rw [l1] at g1
  rw [l2] at g2
  obtain ⟨b, hb1, _⟩ := DataW.trod_bool Try.underlying4 g0
  have hok := flat_open 7 51 cellK (by kernel_rfl) (by rw [hc, len_cellK]) n' _ _ g1
  have key : ∃ a len cap, (cs.drop 56).take 1 = [Value.slice a len cap] ∧ (∀ e s, xs[2]? = some (DataW.slice e s, (xs[2]'(by rw [hxl]; decide)).2) → len ≤ e.length) ∧ (a = none → len = 0) ∧ ((∃ e s, (xs[2]'(by rw [hxl]; decide)).1 = DataW.slice e s ∧ e.length = len) ∨ len = 0) := by
    rcases Deep.open_slice Try.underlying52 g2 with ⟨hcs, _⟩ | ⟨x, l, c, m, n, D, Pl, hcs, _, _, _, _, hx, _⟩
    · exact ⟨none, 0, 0, hcs, fun _ _ _ => Nat.zero_le _, fun _ => rfl, .inr rfl⟩
    · refine ⟨some x, l, c, hcs, fun e s he => ?_, fun h => by simp at h, .inl ⟨_, _, by rw [hx], by simp⟩⟩
      rw [l2, hx] at he
      simp at he
      rw [← he.1]; simp
  obtain ⟨a, len, cap, hsl, -, -, hd⟩ := key
  rw [hsl] at g2
  obtain ⟨l, hr, hmc, hcm⟩ := RdHs.open_ Try.underlying52 (by kernel_rfl) (by kernel_rfl) g2
  refine ⟨⟨b, (cs.drop 1).take 55, l⟩, .slice a len cap, ⟨hok, hr.2.1⟩, ?_, ⟨a, len, cap, rfl, hr, hmc, hcm⟩, fun hw => ?_⟩
  · have e1 : cs = cs.take 1 ++ ((cs.drop 1).take 55 ++ (cs.drop 56).take 1) := by
      rw [List.take_of_length_le (l := cs.drop 56) (by simp; omega)]
      conv => lhs; rw [← List.take_append_drop 1 cs, ← List.take_append_drop 55 (cs.drop 1), List.drop_drop]
    rw [hsl, hb1] at e1
    exact e1
  · have hl : l.length = len := hr.1
    rcases hd with ⟨e, s, h1, h2⟩ | h0
    · have hw' : (DataW.weightsEach Try.prog [4, 51, 52] (xs.map (·.1))).all (· ≤ reachBytes) = true := by
        have : (DataW.agg (xs.map (·.1))).weights Try.prog 54 = DataW.weightsEach Try.prog [4, 51, 52] (xs.map (·.1)) := by
          simp only [DataW.weights, Try.underlying54]
          rfl
        rw [← this]; exact hw
      have := sized_slice hw' (j := 2) (t := 52) rfl (show (xs.map (·.1))[2]? = some (DataW.slice e s) by rw [List.getElem?_map, l2, ← h1]; rfl) Try.underlying52
      have hby : 1 ≤ Try.prog.bytesOf 90 := of_decide_eq_true (by kernel_rfl)
      have h3 : (e.length + s.length) * 1 ≤ (e.length + s.length) * Try.prog.bytesOf 90 := Nat.mul_le_mul_left _ hby
      have := reachBytes_lt
      show l.length ≤ _
      omega
    · show l.length ≤ _
      omega

set_option maxRecDepth 100000 in
/-- a slice of rows, opened -/
theorem RdRs.open_ {fuel : Nat} {a : Option Addr} {len cap : Nat} {d : DataW H × List MemPlace} (h : DataW.trod enc Try.prog w 0 (fun _ => true) true fuel 32 [.slice a len cap] = some d) (hw : (d.1.weights Try.prog 32).all (· ≤ reachBytes) = true) :
    ∃ l, RdRs (· < w.heap.size) w a len l ∧ len ≤ cap ∧ cap ≤ maxLen ∧ szW l := by
  rcases Deep.open_slice Try.underlying32 h with ⟨hcs, _⟩ | ⟨x, l, c, m, n, D, Pl, hcs, _, hl, hm, hmm, hdd, hx⟩
  · simp at hcs
    obtain ⟨rfl, rfl, rfl⟩ := hcs
    exact ⟨[], ⟨rfl, by simp, by simp⟩, Nat.le_refl _, by simp, by simp [szW]⟩
  · simp at hcs
    obtain ⟨rfl, rfl, rfl⟩ := hcs
    simp at hmm
    rw [cellsOf_row] at hx
    have hw1 : (((List.range len).map D).length + ((List.range (m - len)).map fun j => D (len + j)).length) * Try.prog.bytesOf 54 ≤ reachBytes := by
      have := List.all_eq_true.1 hw ((((List.range len).map D).length + ((List.range (m - len)).map fun j => D (len + j)).length) * Try.prog.bytesOf 54) (by rw [hdd]; simp [DataW.weights, Try.underlying32])
      simpa using this
    have hw2 : ∀ i, i < len → ((D i).weights Try.prog 54).all (· ≤ reachBytes) = true := fun i hi => List.all_eq_true.2 fun q hq => by
      refine List.all_eq_true.1 hw q ?_
      rw [hdd]
      simp only [DataW.weights, Try.underlying32, List.mem_cons, List.mem_append]
      exact .inr (.inl (weightsAll_mem (d := D i) (by simp; exact ⟨i, hi, rfl⟩) q hq))
    have hby : 1 ≤ Try.prog.bytesOf 54 := of_decide_eq_true (by kernel_rfl)
    have key : ∀ i, i < len → ∃ y : Rw × Value, y.1.ok ∧ w.cells? 0 (x.add (i * 57)) 57 = some (y.1.vals y.2) ∧ RowR (· < w.heap.size) w y.1 y.2 ∧ y.1.t.length ≤ 140737488355328 := by
      intro i hi
      obtain ⟨cs, h1, h2⟩ := hx i (by omega)
      obtain ⟨r, tv, q1, rfl, q3, q4⟩ := row_open h2
      exact ⟨(r, tv), q1, h1, q3, q4 (hw2 i hi)⟩
    haveI : Inhabited (Rw × Value) := ⟨(rw0, .slice none 0 0)⟩
    obtain ⟨F, hF⟩ := Deep.choose_lt (α := Rw × Value) key
    refine ⟨(List.range len).map (fun i => (F i).1), ⟨by simp, fun y hy => ?_, fun k y hy => ?_⟩, hl, hm, ?_, fun y hy => ?_⟩
    · simp at hy
      obtain ⟨i, hi, rfl⟩ := hy
      exact (hF i hi).1
    · rw [List.getElem?_map, Option.map_eq_some_iff] at hy
      obtain ⟨k', hk', rfl⟩ := hy
      have hlt : k < len := by
        rcases Nat.lt_or_ge k len with h | h
        · exact h
        · rw [List.getElem?_eq_none (by simpa using h)] at hk'; cases hk'
      rw [List.getElem?_range hlt] at hk'
      cases hk'
      obtain ⟨h1, h2, ⟨x1, m1, c1, hv1, h4, h5, h6⟩, -⟩ := hF k hlt
      obtain ⟨_, hcl, hat⟩ := World.cells?_some h2
      have hcell : ∀ j v, ((F k).1.vals (F k).2)[j]? = some v → w.cell? ((x.add (k * 57)).add j) = some v := fun j v hv => by
        have hj : j < 57 := by rw [← hcl]; exact (List.getElem?_eq_some_iff.1 hv).1
        rw [hat j hj, hv]
      have hr := row_of_cells hcell
      rw [hcl] at hr
      have h0 := hcell 0 (.bool (F k).1.is) rfl
      obtain ⟨b, off, spot⟩ := x
      have hs : spot = none := by
        have h00 := hF 0 (by omega)
        obtain ⟨_, hcl0, hat0⟩ := World.cells?_some h00.2.1
        have := World.cell?_spot ((hat0 0 (by omega)).trans (rfl : ((F 0).1.vals (F 0).2)[0]? = some (.bool (F 0).1.is)))
        simpa [Addr.add] using this
      subst hs
      rw [add_at] at hr h0
      rw [hv1] at hr
      exact ⟨b, off, x1, m1, c1, rfl, World.block_lt_of_cell? w _ h0, World.block_lt_of_cell? w _ h0, hr.1, hr.2, h4, h5, h6⟩
    · simp at hw1 ⊢
      have h3 : (len + (m - len)) * 1 ≤ (len + (m - len)) * Try.prog.bytesOf 54 := Nat.mul_le_mul_left _ hby
      have := reachBytes_lt
      omega
    · simp at hy
      obtain ⟨i, hi, rfl⟩ := hy
      exact (hF i hi).2.2.2
set_option maxRecDepth 100000 in
/-- a word, opened -/
theorem word_open {v : Value} {d : DataW H} {pl : List MemPlace} (h : DataW.Trod enc Try.prog w 0 (fun _ => true) true 34 v d pl) (hv : ∃ cs, v = .agg cs ∧ cs.size = Try.prog.cellsOf 34) (hw : (d.weights Try.prog 34).all (· ≤ reachBytes) = true) :
    ∃ a len cap l, v = .agg #[.slice a len cap] ∧ RdRs (· < w.heap.size) w a len l ∧ len ≤ cap ∧ cap ≤ maxLen ∧ szW l := by
  obtain ⟨cs, rfl, hsz⟩ := hv
  obtain ⟨fuel, hf⟩ := h
  obtain ⟨xs, n', _, hx, hlen, hxl, hfl⟩ := DataW.trod_struct Try.underlying34 hf
  have hc : Try.prog.cellsOf 34 = 1 := by kernel_rfl
  rw [hc] at hsz
  have g0 : DataW.trod enc Try.prog w 0 (fun _ => true) true n' 32 ((cs.toList.drop 0).take (Try.prog.cellsOf 32)) = xs[0]? := hfl 0 _ rfl
  have hs : Try.prog.cellsOf 32 = 1 := by kernel_rfl
  have l0 : xs[0]? = some (xs[0]'(by rw [hxl]; decide)) := List.getElem?_eq_getElem _
  rw [hs, List.drop_zero, List.take_of_length_le (by simp [hsz])] at g0
  rw [l0] at g0
  obtain ⟨a, len, cap, hcs⟩ : ∃ a len cap, cs.toList = [Value.slice a len cap] := by
    rcases Deep.open_slice Try.underlying32 g0 with ⟨hcs, _⟩ | ⟨x', l', c', _, _, _, _, hcs, _⟩
    · exact ⟨_, _, _, hcs⟩
    · exact ⟨_, _, _, hcs⟩
  rw [hcs] at g0
  have hd : d = .agg (xs.map (·.1)) := by injection hx
  have hw2 : ((xs[0]'(by rw [hxl]; decide)).1.weights Try.prog 32).all (· ≤ reachBytes) = true := by
    refine List.all_eq_true.2 fun q hq => List.all_eq_true.1 hw q ?_
    have : (DataW.agg (xs.map (·.1))).weights Try.prog 34 = DataW.weightsEach Try.prog [32] (xs.map (·.1)) := by
      simp only [DataW.weights, Try.underlying34]
      rfl
    rw [hd, this]
    exact DataW.weights_mem_each (j := 0) rfl (by rw [List.getElem?_map, l0]; rfl) q hq
  obtain ⟨l, h1, h2, h3, h4⟩ := RdRs.open_ g0 hw2
  refine ⟨a, len, cap, l, ?_, h1, h2, h3, h4⟩
  congr 1
  apply Array.ext'
  rw [hcs]
set_option maxRecDepth 100000 in
/-- a row that came in, opened -/
theorem row_arg {v : Value} {d : DataW H} {pl : List MemPlace} (h : DataW.Trod enc Try.prog w 0 (fun _ => true) true 54 v d pl) (hv : ∃ cs, v = .agg cs ∧ cs.size = Try.prog.cellsOf 54) :
    ∃ (r : Rw) (tv : Value), r.ok ∧ v = .agg (r.vals tv).toArray ∧ RowR (· < w.heap.size) w r tv := by
  obtain ⟨cs, rfl, hsz⟩ := hv
  obtain ⟨fuel, hf⟩ := h
  obtain ⟨r, tv, h1, h2, h3, -⟩ := row_open hf
  refine ⟨r, tv, h1, ?_, h3⟩
  congr 1
  apply Array.ext'
  simpa [Value.cells] using h2
end
end Go.Proofs.Ytopakilglnpinaa
namespace Go.Proofs.Ytopakilglnpinaa
open Go.RowKit
set_option linter.unusedVariables false
set_option linter.unusedSimpArgs false

section
variable {H : Type} {enc : TypeId × Value → H} {w : World}
theorem one_u8 {l : List Value} (h : okL [.i .u8] l = true) : ∃ p : Int, l = [.int .u8 p] ∧ 0 ≤ p ∧ p ≤ 255 := by
  match l, okL_len h with
  | [a], _ =>
    simp only [okL, Bool.and_eq_true, and_true] at h
    cases a <;> simp [okK] at h
    obtain ⟨rfl, h1⟩ := h
    exact ⟨_, rfl, by simpa [Lit.wf, IntKind.min, IntKind.max, IntKind.signed, IntKind.bits] using h1⟩
theorem word_trod {fuel : Nat} {cs : List Value} {d : DataW H × List MemPlace} (h : DataW.trod enc Try.prog w 0 (fun _ => true) true fuel 34 cs = some d) (hl : cs.length = 1) (hw : (d.1.weights Try.prog 34).all (· ≤ reachBytes) = true) :
    ∃ a len cap l, cs = [.slice a len cap] ∧ RdRs (· < w.heap.size) w a len l ∧ len ≤ cap ∧ cap ≤ maxLen ∧ szW l := by
  obtain ⟨c, rfl⟩ : ∃ c, cs = [c] := by
    match cs, hl with
    | [c], _ => exact ⟨c, rfl⟩
  obtain ⟨a, len, cap, l, he, h1, h2, h3, h4⟩ := word_open (v := .agg #[c]) (d := d.1) (pl := d.2) ⟨fuel, h⟩ ⟨#[c], rfl, by kernel_rfl⟩ hw
  injection he with he
  have : c = .slice a len cap := by
    have := congrArg Array.toList he
    simpa using this
  subst this
  exact ⟨a, len, cap, l, rfl, h1, h2, h3, h4⟩
set_option maxRecDepth 100000 in
theorem ins_trod {fuel : Nat} {cs : List Value} {d : DataW H × List MemPlace} (h : DataW.trod enc Try.prog w 0 (fun _ => true) true fuel 36 cs = some d) (hw : (d.1.weights Try.prog 36).all (· ≤ reachBytes) = true) :
    ∃ (a : Nat → Option Addr) (ln cp : Nat → Nat) (ins : Nat → List Rw), cs = [insV a ln cp 0, insV a ln cp 1, insV a ln cp 2, insV a ln cp 3] ∧ (∀ i, i < 4 → RdRs (· < w.heap.size) w (a i) (ln i) (ins i)) ∧ (∀ i, i < 4 → ln i ≤ cp i ∧ cp i ≤ maxLen) ∧ ∀ i, i < 4 → szW (ins i) := by
  obtain ⟨xs, n', _, rfl, hlen, hxl, hfl⟩ := DataW.trod_struct Try.underlying36 h
  have hc4 : Try.prog.cellsOf 36 = 4 := by kernel_rfl
  have hc1 : Try.prog.cellsOf 34 = 1 := by kernel_rfl
  rw [hc4] at hlen
  have hx4 : xs.length = 4 := hxl
  have key : ∀ i, i < 4 → ∃ a len cap l, (cs.drop i).take 1 = [.slice a len cap] ∧ RdRs (· < w.heap.size) w a len l ∧ len ≤ cap ∧ cap ≤ maxLen ∧ szW l := fun i hi => by
    have g : DataW.trod enc Try.prog w 0 (fun _ => true) true n' 34 ((cs.drop i).take (Try.prog.cellsOf 34)) = xs[i]? := by
      have hi' : i = 0 ∨ i = 1 ∨ i = 2 ∨ i = 3 := by omega
      rcases hi' with rfl | rfl | rfl | rfl
      · exact hfl 0 _ rfl
      · exact hfl 1 _ rfl
      · exact hfl 2 _ rfl
      · exact hfl 3 _ rfl
    rw [hc1] at g
    have l0 : xs[i]? = some (xs[i]'(by omega)) := List.getElem?_eq_getElem _
    rw [l0] at g
    refine word_trod g (by simp; omega) ?_
    refine List.all_eq_true.2 fun q hq => List.all_eq_true.1 hw q ?_
    have : (DataW.agg (xs.map (·.1))).weights Try.prog 36 = DataW.weightsEach Try.prog [34, 34, 34, 34] (xs.map (·.1)) := by
      simp only [DataW.weights, Try.underlying36]
      rfl
    show q ∈ (DataW.agg (xs.map (·.1))).weights Try.prog 36
    rw [this]
    exact DataW.weights_mem_each (j := i) (t := 34) (by
      have hi' : i = 0 ∨ i = 1 ∨ i = 2 ∨ i = 3 := by omega
      rcases hi' with rfl | rfl | rfl | rfl <;> rfl) (by rw [List.getElem?_map, l0]; rfl) q hq
  have hne : Inhabited (Option Addr × Nat × Nat × List Rw) := ⟨(none, 0, 0, [])⟩
  obtain ⟨a0, n0, c0, l0, e0, p0⟩ := key 0 (by omega)
  obtain ⟨a1, n1, c1, l1, e1, p1⟩ := key 1 (by omega)
  obtain ⟨a2, n2, c2, l2, e2, p2⟩ := key 2 (by omega)
  obtain ⟨a3, n3, c3, l3, e3, p3⟩ := key 3 (by omega)
  have hi4 : ∀ i, i < 4 → i = 0 ∨ i = 1 ∨ i = 2 ∨ i = 3 := fun i h => by omega
  refine ⟨fun i => if i = 0 then a0 else if i = 1 then a1 else if i = 2 then a2 else a3, fun i => if i = 0 then n0 else if i = 1 then n1 else if i = 2 then n2 else n3, fun i => if i = 0 then c0 else if i = 1 then c1 else if i = 2 then c2 else c3, fun i => if i = 0 then l0 else if i = 1 then l1 else if i = 2 then l2 else l3, ?_, fun i hi => ?_, fun i hi => ?_, fun i hi => ?_⟩
  · match cs, hlen with
    | [x0, x1, x2, x3], _ =>
      simp at e0 e1 e2 e3
      subst e0 e1 e2 e3
      rfl
  · rcases hi4 i hi with rfl | rfl | rfl | rfl
    · exact p0.1
    · exact p1.1
    · exact p2.1
    · exact p3.1
  · rcases hi4 i hi with rfl | rfl | rfl | rfl
    · exact ⟨p0.2.1, p0.2.2.1⟩
    · exact ⟨p1.2.1, p1.2.2.1⟩
    · exact ⟨p2.2.1, p2.2.2.1⟩
    · exact ⟨p3.2.1, p3.2.2.1⟩
  · rcases hi4 i hi with rfl | rfl | rfl | rfl
    · exact p0.2.2.2
    · exact p1.2.2.2
    · exact p2.2.2.2
    · exact p3.2.2.2
set_option maxRecDepth 100000 in
theorem tick_trod {fuel : Nat} {cs : List Value} {d : DataW H × List MemPlace} (h : DataW.trod enc Try.prog w 0 (fun _ => true) true fuel 56 cs = some d) (hw : (d.1.weights Try.prog 56).all (· ≤ reachBytes) = true) :
    ∃ (a : Nat → Option Addr) (ln cp : Nat → Nat) (tv : Value) (t : Tk), cs = tkV a ln cp tv t ∧ TkIn (· < w.heap.size) w a ln cp tv t := by
  obtain ⟨xs, n', _, rfl, hlen, hxl, hfl⟩ := DataW.trod_struct Try.underlying56 h
  have hc : Try.prog.cellsOf 56 = 62 := by kernel_rfl
  have hc4 : Try.prog.cellsOf 36 = 4 := by kernel_rfl
  have hc1 : Try.prog.cellsOf 5 = 1 := by kernel_rfl
  rw [hc] at hlen
  have hx3 : xs.length = 3 := hxl
  have g0 : DataW.trod enc Try.prog w 0 (fun _ => true) true n' 36 ((cs.drop 0).take (Try.prog.cellsOf 36)) = xs[0]? := hfl 0 _ rfl
  have g1 : DataW.trod enc Try.prog w 0 (fun _ => true) true n' 54 ((cs.drop 4).take (Try.prog.cellsOf 54)) = xs[1]? := hfl 1 _ rfl
  have g2 : DataW.trod enc Try.prog w 0 (fun _ => true) true n' 5 ((cs.drop 61).take (Try.prog.cellsOf 5)) = xs[2]? := hfl 2 _ rfl
  rw [hc4, List.drop_zero] at g0
  rw [cellsOf_row] at g1
  rw [hc1] at g2
  have l0 : xs[0]? = some (xs[0]'(by omega)) := List.getElem?_eq_getElem _
  have l1 : xs[1]? = some (xs[1]'(by omega)) := List.getElem?_eq_getElem _
  have l2 : xs[2]? = some (xs[2]'(by omega)) := List.getElem?_eq_getElem _
  rw [l0] at g0
  rw [l1] at g1
  rw [l2] at g2
  have hwe : (DataW.agg (xs.map (·.1))).weights Try.prog 56 = DataW.weightsEach Try.prog [36, 54, 5] (xs.map (·.1)) := by
    simp only [DataW.weights, Try.underlying56]
    rfl
  have hw0 : ((xs[0]'(by omega)).1.weights Try.prog 36).all (· ≤ reachBytes) = true := by
    refine List.all_eq_true.2 fun q hq => List.all_eq_true.1 hw q ?_
    show q ∈ (DataW.agg (xs.map (·.1))).weights Try.prog 56
    rw [hwe]
    exact DataW.weights_mem_each (j := 0) rfl (by rw [List.getElem?_map, l0]; rfl) q hq
  have hw1 : ((xs[1]'(by omega)).1.weights Try.prog 54).all (· ≤ reachBytes) = true := by
    refine List.all_eq_true.2 fun q hq => List.all_eq_true.1 hw q ?_
    show q ∈ (DataW.agg (xs.map (·.1))).weights Try.prog 56
    rw [hwe]
    exact DataW.weights_mem_each (j := 1) rfl (by rw [List.getElem?_map, l1]; rfl) q hq
  obtain ⟨a, ln, cp, ins, e0, q1, q2, q3⟩ := ins_trod g0 hw0
  obtain ⟨r, tv, r1, e1, r2, r3⟩ := row_open g1
  have hok := flat_open 1 5 [.i .u8] (by kernel_rfl) (by rw [hc1]; rfl) n' _ _ g2
  obtain ⟨p, e2, p1, p2⟩ := one_u8 hok
  refine ⟨a, ln, cp, tv, ⟨ins, r, p⟩, ?_, ⟨q1, q2, q3, r1, r2, r3 hw1, p1, p2⟩⟩
  have e : cs = cs.take 4 ++ ((cs.drop 4).take 57 ++ (cs.drop 61).take 1) := by
    rw [List.take_of_length_le (l := cs.drop 61) (by simp; omega)]
    conv => lhs; rw [← List.take_append_drop 4 cs, ← List.take_append_drop 57 (cs.drop 4), List.drop_drop]
  rw [e0, e1, e2] at e
  rw [e]
  rfl
theorem tick_open {v : Value} {d : DataW H} {pl : List MemPlace} (h : DataW.Trod enc Try.prog w 0 (fun _ => true) true 56 v d pl) (hv : ∃ cs, v = .agg cs ∧ cs.size = Try.prog.cellsOf 56) (hw : (d.weights Try.prog 56).all (· ≤ reachBytes) = true) :
    ∃ (a : Nat → Option Addr) (ln cp : Nat → Nat) (tv : Value) (t : Tk), v = .agg (tkV a ln cp tv t).toArray ∧ TkIn (· < w.heap.size) w a ln cp tv t := by
  obtain ⟨cs, rfl, hsz⟩ := hv
  obtain ⟨fuel, hf⟩ := h
  obtain ⟨a, ln, cp, tv, t, h1, h2⟩ := tick_trod hf hw
  refine ⟨a, ln, cp, tv, t, ?_, h2⟩
  congr 1
  apply Array.ext'
  simpa [Value.cells] using h1
end
end Go.Proofs.Ytopakilglnpinaa
