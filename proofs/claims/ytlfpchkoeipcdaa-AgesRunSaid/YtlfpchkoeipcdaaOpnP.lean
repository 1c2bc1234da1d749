/-
  Slices of pairs of integers, opened.
-/
import Derived.Test.YtlfpchkoeipcdaaAgsB
import Derived.Test.YtlfpchkoeipcdaaCls
namespace Go.Proofs.Ytlfpchkoeipcdaa
open Go.RowKit Go.WideShapes
set_option linter.unusedVariables false
set_option linter.unusedSimpArgs false
section
variable {H : Type} {enc : TypeId × Value → H} {P : Program} {w : World} {spare : Nat → Bool} {held : Bool}
theorem RdP.open_ {t e : TypeId} {a : Option Addr} {len cap : Nat} {d : DataW H × List MemPlace} {fuel : Nat} (ht : P.underlying t = some (.slice e)) (hf : flatT P 7 e = some [.i .i64, .i .i64]) (hc : P.cellsOf e = 2)
    (h : DataW.trod enc P w 0 spare held fuel t [.slice a len cap] = some d) : ∃ l, RdP w.heap.size w a len l ∧ len ≤ cap ∧ cap ≤ maxLen := by
  rcases Deep.open_slice ht h with ⟨hcs, _⟩ | ⟨x, l, c, m, n, D, Pl, hcs, _, hl, hm, hmm, _, hx⟩
  · simp at hcs
    obtain ⟨rfl, rfl, rfl⟩ := hcs
    exact ⟨[], ⟨rfl, by simp⟩, Nat.le_refl _, by simp⟩
  · simp at hcs
    obtain ⟨rfl, rfl, rfl⟩ := hcs
    have hle : len ≤ m := by rw [hmm]; split <;> omega
    rw [hc] at hx
    have key : ∀ i, i < len → ∃ y : Int × Int, ((-9223372036854775808 ≤ y.1 ∧ y.1 ≤ 9223372036854775807) ∧ -9223372036854775808 ≤ y.2 ∧ y.2 ≤ 9223372036854775807) ∧ w.cells? 0 (x.add (i * 2)) 2 = some [.int .i64 y.1, .int .i64 y.2] := by
      intro i hi
      obtain ⟨cs, h1, h2⟩ := hx i (by omega)
      obtain ⟨p, q, rfl, hp, hq⟩ := two_i64 (flat_open 7 e _ hf (by rw [hc]; rfl) n cs _ h2)
      exact ⟨(p, q), ⟨hp, hq⟩, h1⟩
    obtain ⟨F, hF⟩ := Deep.choose_lt (α := Int × Int) key
    refine ⟨(List.range len).map F, ⟨by simp, fun k y hy => ?_⟩, hl, hm⟩
    rw [List.getElem?_map, Option.map_eq_some_iff] at hy
    obtain ⟨k', hk', rfl⟩ := hy
    have hlt : k < len := by
      rcases Nat.lt_or_ge k len with h | h
      · exact h
      · rw [List.getElem?_eq_none (by simpa using h)] at hk'; cases hk'
    rw [List.getElem?_range hlt] at hk'
    cases hk'
    obtain ⟨h1, h2⟩ := hF k hlt
    obtain ⟨_, hcl, hat⟩ := World.cells?_some h2
    have h0 := hat 0 (by omega)
    have h01 := hat 1 (by omega)
    obtain ⟨b, off, spot⟩ := x
    have hs : spot = none := by
      have h00 := hF 0 (by omega)
      obtain ⟨_, _, hat0⟩ := World.cells?_some h00.2
      have := World.cell?_spot ((hat0 0 (by omega)).trans (rfl : ([Value.int .i64 (F 0).1, Value.int .i64 (F 0).2] : List Value)[0]? = some (Value.int .i64 (F 0).1)))
      simpa [Addr.add] using this
    subst hs
    rw [add_at, add_at] at h0 h01
    simp only [Nat.add_zero] at h0
    exact ⟨⟨b, off, rfl, World.block_lt_of_cell? w _ (h0.trans rfl), h0.trans rfl, h01.trans rfl⟩, h1⟩
end
end Go.Proofs.Ytlfpchkoeipcdaa
