
/-
  A config that came in, opened; the laid variable.
-/
import Derived.Test.YtopakilglnpinaaGreatDoorOpen
import Derived.Test.YtopakilglnpinaaGreatDoorBn30
import Derived.LaidMore
namespace Go.Proofs.YtopakilglnpinaaGreatDoor
open Go.RowKit Go.ChangeShapes Go.WideShapes
set_option linter.unusedVariables false
set_option linter.unusedSimpArgs false

section
variable {H : Type} {enc : TypeId × Value → H} {w : World}
theorem flat_slice {d : Nat} {t e : TypeId} {ks : List Kd} (ht : Tryz.prog.underlying t = some (.slice e)) (hf : flatT Tryz.prog d e = some ks) (hc : Tryz.prog.cellsOf e = ks.length) (hk0 : 0 < ks.length) {fuel : Nat} {a : Option Addr} {len cap : Nat} {x : DataW H × List MemPlace}
    (h : DataW.trod enc Tryz.prog w 0 (fun _ => true) true fuel t [.slice a len cap] = some x) :
    (len ≤ cap ∧ cap ≤ maxLen) ∧ ∀ i, i < len → ∃ b off cs, a = some ⟨b, off, none⟩ ∧ b < w.heap.size ∧ okL ks cs = true ∧ ∀ (j : Nat) (v : Value), cs[j]? = some v → w.cell? ⟨b, off + i * ks.length + j, none⟩ = some v := by
  rcases Deep.open_slice ht h with ⟨hcs, _⟩ | ⟨y, l, c, m, n, D, Pl, hcs, _, hl, hm, hmm, hdd, hx⟩
  · simp at hcs
    obtain ⟨rfl, rfl, rfl⟩ := hcs
    exact ⟨⟨Nat.le_refl _, by simp⟩, fun i hi => absurd hi (by omega)⟩
  · simp at hcs
    obtain ⟨rfl, rfl, rfl⟩ := hcs
    refine ⟨⟨hl, hm⟩, fun i hi => ?_⟩
    have hle : len ≤ m := by rw [hmm]; split <;> omega
    obtain ⟨cs, h1, h2⟩ := hx i (by omega)
    have hok := flat_open d e ks hf hc n cs _ h2
    obtain ⟨_, hcl, hat⟩ := World.cells?_some h1
    rw [hc] at hcl hat
    have hl2 := okL_len hok
    obtain ⟨b, off, spot⟩ := y
    have hcell : ∀ (j : Nat) (v : Value), cs[j]? = some v → w.cell? (((⟨b, off, spot⟩ : Addr).add (i * ks.length)).add j) = some v := fun j v hv => by
      have hj : j < ks.length := by have := (List.getElem?_eq_some_iff.1 hv).1; omega
      rw [hat j hj, hv]
    have h0 := hcell 0 _ (List.getElem?_eq_getElem (by omega))
    have hs : spot = none := by
      obtain ⟨cs0, k1, k2⟩ := hx 0 (by omega)
      have hok0 := flat_open d e ks hf hc n cs0 _ k2
      obtain ⟨_, kcl, kat⟩ := World.cells?_some k1
      rw [hc] at kcl kat
      have := World.cell?_spot ((kat 0 hk0).trans (List.getElem?_eq_getElem (by rw [kcl]; exact hk0)))
      simpa [Addr.add] using this
    subst hs
    simp only [add_at] at h0 hcell
    exact ⟨b, off, cs, rfl, World.block_lt_of_cell? w _ h0, hok, hcell⟩
theorem i64_of {v : Value} {l : List Value} {ks : List Kd} (h : okL (.i .i64 :: ks) (v :: l) = true) : ∃ z : Int, v = .int .i64 z := by
  simp only [okL, Bool.and_eq_true] at h
  cases v <;> simp [okK] at h
  obtain ⟨⟨rfl, -⟩, -⟩ := h
  exact ⟨_, rfl⟩
theorem u32_of {v : Value} {l : List Value} {ks : List Kd} (h : okL (.i .u32 :: ks) (v :: l) = true) : ∃ z : Int, v = .int .u32 z := by
  simp only [okL, Bool.and_eq_true] at h
  cases v <;> simp [okK] at h
  obtain ⟨⟨rfl, -⟩, -⟩ := h
  exact ⟨_, rfl⟩
set_option maxRecDepth 100000 in
theorem RdZ.open_ {fuel : Nat} {a : Option Addr} {len cap : Nat} {x : DataW H × List MemPlace} (h : DataW.trod enc Tryz.prog w 0 (fun _ => true) true fuel 22 [.slice a len cap] = some x) :
    ∃ zs, RdZ (· < w.heap.size) w a len zs ∧ len ≤ cap ∧ cap ≤ maxLen := by
  obtain ⟨h1, h2⟩ := flat_slice (d := 1) (ks := [.i .i64]) Tryz.underlying22 (by kernel_rfl) (by kernel_rfl) (by simp) h
  have key : ∀ i, i < len → ∃ z : Int, ∃ b off, a = some ⟨b, off, none⟩ ∧ b < w.heap.size ∧ w.cell? ⟨b, off + i, none⟩ = some (.int .i64 z) := by
    intro i hi
    obtain ⟨b, off, cs, ha, hb, hok, hcell⟩ := h2 i hi
    match cs, okL_len hok with
    | [v], _ =>
      obtain ⟨z, rfl⟩ := i64_of hok
      exact ⟨z, b, off, ha, hb, by have := hcell 0 _ rfl; simpa using this⟩
  obtain ⟨F, hF⟩ := Deep.choose_lt (α := Int) key
  refine ⟨(List.range len).map F, ⟨by simp, fun k z hz => ?_⟩, h1⟩
  rw [List.getElem?_map, Option.map_eq_some_iff] at hz
  obtain ⟨k', hk', rfl⟩ := hz
  have hlt : k < len := by
    rcases Nat.lt_or_ge k len with h | h
    · exact h
    · rw [List.getElem?_eq_none (by simpa using h)] at hk'; cases hk'
  rw [List.getElem?_range hlt] at hk'
  cases hk'
  obtain ⟨b, off, ha, hb, hc⟩ := hF k hlt
  exact ⟨b, off, ha, hb, hb, hc⟩
set_option maxRecDepth 100000 in
theorem RdSt.open_ {fuel : Nat} {a : Option Addr} {len cap : Nat} {x : DataW H × List MemPlace} (h : DataW.trod enc Tryz.prog w 0 (fun _ => true) true fuel 23 [.slice a len cap] = some x) :
    ∃ l, RdSt (· < w.heap.size) w a len l ∧ len ≤ cap ∧ cap ≤ maxLen := by
  obtain ⟨h1, h2⟩ := flat_slice (d := 3) (ks := [.i .i64, .i .u32, .i .i64]) Tryz.underlying23 (by kernel_rfl) (by kernel_rfl) (by simp) h
  have key : ∀ i, i < len → ∃ s : Int × Int × Int, ∃ b off, a = some ⟨b, off, none⟩ ∧ b < w.heap.size ∧ w.cell? ⟨b, off + i * 3, none⟩ = some (.int .i64 s.1) ∧ w.cell? ⟨b, off + i * 3 + 1, none⟩ = some (.int .u32 s.2.1) ∧ w.cell? ⟨b, off + i * 3 + 2, none⟩ = some (.int .i64 s.2.2) := by
    intro i hi
    obtain ⟨b, off, cs, ha, hb, hok, hcell⟩ := h2 i hi
    match cs, okL_len hok with
    | [v0, v1, v2], _ =>
      obtain ⟨z0, rfl⟩ := i64_of hok
      have hok1 : okL [.i .u32, .i .i64] [v1, v2] = true := by simp only [okL, Bool.and_eq_true] at hok ⊢; exact hok.2
      obtain ⟨z1, rfl⟩ := u32_of hok1
      have hok2 : okL [.i .i64] [v2] = true := by simp only [okL, Bool.and_eq_true] at hok1 ⊢; exact hok1.2
      obtain ⟨z2, rfl⟩ := i64_of hok2
      exact ⟨(z0, z1, z2), b, off, ha, hb, hcell 0 _ rfl, hcell 1 _ rfl, hcell 2 _ rfl⟩
  obtain ⟨F, hF⟩ := Deep.choose_lt (α := Int × Int × Int) key
  refine ⟨(List.range len).map F, ⟨by simp, fun k z hz => ?_⟩, h1⟩
  rw [List.getElem?_map, Option.map_eq_some_iff] at hz
  obtain ⟨k', hk', rfl⟩ := hz
  have hlt : k < len := by
    rcases Nat.lt_or_ge k len with h | h
    · exact h
    · rw [List.getElem?_eq_none (by simpa using h)] at hk'; cases hk'
  rw [List.getElem?_range hlt] at hk'
  cases hk'
  obtain ⟨b, off, ha, hb, hc⟩ := hF k hlt
  exact ⟨b, off, ha, hb, hb, hc⟩
theorem i64_one {l : List Value} (h : okL [.i .i64] l = true) : ∃ z : Int, l = [.int .i64 z] := by
  match l, okL_len h with
  | [v], _ =>
    obtain ⟨z, rfl⟩ := i64_of h
    exact ⟨z, rfl⟩
theorem slice_one {t e : TypeId} (ht : Tryz.prog.underlying t = some (.slice e)) {fuel : Nat} {cs : List Value} {x : DataW H × List MemPlace} (h : DataW.trod enc Tryz.prog w 0 (fun _ => true) true fuel t cs = some x) : ∃ a len cap, cs = [Value.slice a len cap] := by
  rcases Deep.open_slice ht h with ⟨hcs, _⟩ | ⟨x', l', c', _, _, _, _, hcs, _⟩
  · exact ⟨_, _, _, hcs⟩
  · exact ⟨_, _, _, hcs⟩
set_option maxRecDepth 100000 in
set_option maxHeartbeats 1000000 in
theorem cfg_trod {fuel : Nat} {cs : List Value} {d : DataW H × List MemPlace} (h : DataW.trod enc Tryz.prog w 0 (fun _ => true) true fuel 25 cs = some d) :
    ∃ (A : CfA) (c : Cfg), cs = cfV A c ∧ CfR (· < w.heap.size) w A c := by
  obtain ⟨xs, n', _, rfl, hlen, hxl, hfl⟩ := DataW.trod_struct Tryz.underlying25 h
  have hc : Tryz.prog.cellsOf 25 = 9 := by kernel_rfl
  have hci : Tryz.prog.cellsOf 3 = 1 := by kernel_rfl
  have hcs : Tryz.prog.cellsOf 22 = 1 := by kernel_rfl
  have hct : Tryz.prog.cellsOf 23 = 1 := by kernel_rfl
  rw [hc] at hlen
  have hx3 : xs.length = 9 := hxl
  match cs, hlen with
  | [v0, v1, v2, v3, v4, v5, v6, v7, v8], _ =>
    match xs, hx3 with
    | [y0, y1, y2, y3, y4, y5, y6, y7, y8], _ =>
      have g0 : DataW.trod enc Tryz.prog w 0 (fun _ => true) true n' 3 (([v0, v1, v2, v3, v4, v5, v6, v7, v8].drop 0).take (Tryz.prog.cellsOf 3)) = some y0 := hfl 0 _ rfl
      have g1 : DataW.trod enc Tryz.prog w 0 (fun _ => true) true n' 22 (([v0, v1, v2, v3, v4, v5, v6, v7, v8].drop 1).take (Tryz.prog.cellsOf 22)) = some y1 := hfl 1 _ rfl
      have g2 : DataW.trod enc Tryz.prog w 0 (fun _ => true) true n' 22 (([v0, v1, v2, v3, v4, v5, v6, v7, v8].drop 2).take (Tryz.prog.cellsOf 22)) = some y2 := hfl 2 _ rfl
      have g3 : DataW.trod enc Tryz.prog w 0 (fun _ => true) true n' 3 (([v0, v1, v2, v3, v4, v5, v6, v7, v8].drop 3).take (Tryz.prog.cellsOf 3)) = some y3 := hfl 3 _ rfl
      have g4 : DataW.trod enc Tryz.prog w 0 (fun _ => true) true n' 22 (([v0, v1, v2, v3, v4, v5, v6, v7, v8].drop 4).take (Tryz.prog.cellsOf 22)) = some y4 := hfl 4 _ rfl
      have g5 : DataW.trod enc Tryz.prog w 0 (fun _ => true) true n' 23 (([v0, v1, v2, v3, v4, v5, v6, v7, v8].drop 5).take (Tryz.prog.cellsOf 23)) = some y5 := hfl 5 _ rfl
      have g6 : DataW.trod enc Tryz.prog w 0 (fun _ => true) true n' 3 (([v0, v1, v2, v3, v4, v5, v6, v7, v8].drop 6).take (Tryz.prog.cellsOf 3)) = some y6 := hfl 6 _ rfl
      have g7 : DataW.trod enc Tryz.prog w 0 (fun _ => true) true n' 3 (([v0, v1, v2, v3, v4, v5, v6, v7, v8].drop 7).take (Tryz.prog.cellsOf 3)) = some y7 := hfl 7 _ rfl
      have g8 : DataW.trod enc Tryz.prog w 0 (fun _ => true) true n' 3 (([v0, v1, v2, v3, v4, v5, v6, v7, v8].drop 8).take (Tryz.prog.cellsOf 3)) = some y8 := hfl 8 _ rfl
      rw [hci] at g0 g3 g6 g7 g8
      rw [hcs] at g1 g2 g4
      rw [hct] at g5
      simp only [List.drop_zero, List.drop_succ_cons, List.take_succ_cons, List.take_zero] at g0 g1 g2 g3 g4 g5 g6 g7 g8
      obtain ⟨z0, e0⟩ := i64_one (flat_open 1 3 [.i .i64] (by kernel_rfl) (by rw [hci]; rfl) n' _ _ g0)
      obtain ⟨z3, e3⟩ := i64_one (flat_open 1 3 [.i .i64] (by kernel_rfl) (by rw [hci]; rfl) n' _ _ g3)
      obtain ⟨z6, e6⟩ := i64_one (flat_open 1 3 [.i .i64] (by kernel_rfl) (by rw [hci]; rfl) n' _ _ g6)
      obtain ⟨z7, e7⟩ := i64_one (flat_open 1 3 [.i .i64] (by kernel_rfl) (by rw [hci]; rfl) n' _ _ g7)
      obtain ⟨z8, e8⟩ := i64_one (flat_open 1 3 [.i .i64] (by kernel_rfl) (by rw [hci]; rfl) n' _ _ g8)
      obtain ⟨a1, n1, c1, e1⟩ := slice_one Tryz.underlying22 g1
      obtain ⟨a2, n2, c2, e2⟩ := slice_one Tryz.underlying22 g2
      obtain ⟨a4, n4, c4, e4⟩ := slice_one Tryz.underlying22 g4
      obtain ⟨a5, n5, c5, e5⟩ := slice_one Tryz.underlying23 g5
      rw [e1] at g1
      rw [e2] at g2
      rw [e4] at g4
      rw [e5] at g5
      obtain ⟨l1, r1, m1⟩ := RdZ.open_ g1
      obtain ⟨l2, r2, m2⟩ := RdZ.open_ g2
      obtain ⟨l4, r4, m4⟩ := RdZ.open_ g4
      obtain ⟨l5, r5, m5⟩ := RdSt.open_ g5
      simp only [List.cons.injEq, and_true] at e0 e1 e2 e3 e4 e5 e6 e7 e8
      subst e0 e1 e2 e3 e4 e5 e6 e7 e8
      exact ⟨⟨a1, n1, c1, a2, n2, c2, a4, n4, c4, a5, n5, c5⟩, ⟨z0, l1, l2, z3, l4, l5, z6, z7, z8⟩, rfl, ⟨r1, r2, r4, r5, m1, m2, m4, m5⟩⟩
theorem cfg_open {v : Value} {d : DataW H} {pl : List MemPlace} (h : DataW.Trod enc Tryz.prog w 0 (fun _ => true) true 25 v d pl) (hv : ∃ cs, v = .agg cs ∧ cs.size = Tryz.prog.cellsOf 25) :
    ∃ (A : CfA) (c : Cfg), v = .agg (cfV A c).toArray ∧ CfR (· < w.heap.size) w A c := by
  obtain ⟨cs, rfl, hsz⟩ := hv
  obtain ⟨fuel, hf⟩ := h
  obtain ⟨A, c, h1, h2⟩ := cfg_trod hf
  refine ⟨A, c, ?_, h2⟩
  congr 1
  apply Array.ext'
  simpa [Value.cells] using h1
end
end Go.Proofs.YtopakilglnpinaaGreatDoor
