/-
  A slice of ticks is opened.
-/
import Derived.Test.YtopakilglnpinaaGc49
namespace Go.Proofs.Ytopakilglnpinaa
open Go.RowKit
set_option linter.unusedVariables false
set_option linter.unusedSimpArgs false

section
variable {H : Type} {enc : TypeId × Value → H} {w : World}
theorem cellsOf_tick : Try.prog.cellsOf 56 = 62 := by kernel_rfl
theorem tkAt_of {b o : Nat} {a : Nat → Option Addr} {ln cp : Nat → Nat} {tv : Value} {t : Tk} (h : TkIn (· < w.heap.size) w a ln cp tv t) (hc : ∀ j v, (tkV a ln cp tv t)[j]? = some v → w.cell? ⟨b, o + j, none⟩ = some v) : TkAt (· < w.heap.size) w b o a ln cp tv t := by
  have hl := Rw.len h.ro tv
  have hr := row_of_cells (w := w) (p := ⟨b, o + 4, none⟩) (l := t.own.vals tv) (fun j v hv => by
    rw [add_at, show o + 4 + j = o + (4 + j) from by omega]
    refine hc (4 + j) v ?_
    have hj : j < (t.own.vals tv).length := (List.getElem?_eq_some_iff.1 hv).1
    rw [Nat.add_comm 4 j]
    show (t.own.vals tv ++ [Value.int .u8 t.says])[j]? = some v
    rw [List.getElem?_append_left hj, hv])
  rw [hl] at hr
  refine ⟨fun i hi => ?_, h.rd, h.le, h.sz, hr.1, hr.2, h.ro, h.rt, h.rz, hc 61 _ ?_, h.sr⟩
  · match i, hi with
    | 0, _ => exact hc 0 _ rfl
    | 1, _ => exact hc 1 _ rfl
    | 2, _ => exact hc 2 _ rfl
    | 3, _ => exact hc 3 _ rfl
  · show (t.own.vals tv ++ [Value.int .u8 t.says])[57]? = _
    rw [List.getElem?_append_right (by omega), hl]
    rfl
theorem RdTk.open_ {fuel : Nat} {a : Option Addr} {len cap : Nat} {d : DataW H × List MemPlace} (h : DataW.trod enc Try.prog w 0 (fun _ => true) true fuel 22 [.slice a len cap] = some d) (hw : (d.1.weights Try.prog 22).all (· ≤ reachBytes) = true) :
    ∃ l, RdTk (· < w.heap.size) w a len l ∧ len ≤ cap ∧ cap ≤ maxLen := by
  rcases Deep.open_slice Try.underlying22 h with ⟨hcs, _⟩ | ⟨x, l, c, m, n, D, Pl, hcs, _, hl, hm, hmm, hdd, hx⟩
  · simp at hcs
    obtain ⟨rfl, rfl, rfl⟩ := hcs
    exact ⟨[], ⟨rfl, fun k t ht => by simp at ht⟩, Nat.le_refl _, by simp⟩
  · simp at hcs
    obtain ⟨rfl, rfl, rfl⟩ := hcs
    simp at hmm
    rw [cellsOf_tick] at hx
    have hw2 : ∀ i, i < len → ((D i).weights Try.prog 56).all (· ≤ reachBytes) = true := fun i hi => List.all_eq_true.2 fun q hq => by
      refine List.all_eq_true.1 hw q ?_
      rw [hdd]
      simp only [DataW.weights, Try.underlying22, List.mem_cons, List.mem_append]
      exact .inr (.inl (weightsAll_mem (d := D i) (by simp; exact ⟨i, hi, rfl⟩) q hq))
    have key : ∀ i, i < len → ∃ y : (Nat → Option Addr) × (Nat → Nat) × (Nat → Nat) × Value × Tk, w.cells? 0 (x.add (i * 62)) 62 = some (tkV y.1 y.2.1 y.2.2.1 y.2.2.2.1 y.2.2.2.2) ∧ TkIn (· < w.heap.size) w y.1 y.2.1 y.2.2.1 y.2.2.2.1 y.2.2.2.2 := by
      intro i hi
      obtain ⟨cs, h1, h2⟩ := hx i (by omega)
      obtain ⟨a', ln, cp, tv, t, rfl, h3⟩ := tick_trod h2 (hw2 i hi)
      exact ⟨(a', ln, cp, tv, t), h1, h3⟩
    haveI : Inhabited ((Nat → Option Addr) × (Nat → Nat) × (Nat → Nat) × Value × Tk) := ⟨(fun _ => none, fun _ => 0, fun _ => 0, .slice none 0 0, ⟨fun _ => [], rw0, 0⟩)⟩
    obtain ⟨F, hF⟩ := Deep.choose_lt (α := (Nat → Option Addr) × (Nat → Nat) × (Nat → Nat) × Value × Tk) key
    refine ⟨(List.range len).map (fun i => (F i).2.2.2.2), ⟨by simp, fun k y hy => ?_⟩, hl, hm⟩
    rw [List.getElem?_map, Option.map_eq_some_iff] at hy
    obtain ⟨k', hk', rfl⟩ := hy
    have hlt : k < len := by
      rcases Nat.lt_or_ge k len with h | h
      · exact h
      · rw [List.getElem?_eq_none (by simpa using h)] at hk'; cases hk'
    rw [List.getElem?_range hlt] at hk'
    cases hk'
    obtain ⟨h2, h3⟩ := hF k hlt
    obtain ⟨_, hcl, hat⟩ := World.cells?_some h2
    have hcell : ∀ j v, (tkV (F k).1 (F k).2.1 (F k).2.2.1 (F k).2.2.2.1 (F k).2.2.2.2)[j]? = some v → w.cell? ((x.add (k * 62)).add j) = some v := fun j v hv => by
      have hj : j < 62 := by rw [← hcl]; exact (List.getElem?_eq_some_iff.1 hv).1
      rw [hat j hj, hv]
    obtain ⟨b, off, spot⟩ := x
    have hs : spot = none := by
      have h00 := hF 0 (by omega)
      obtain ⟨_, hcl0, hat0⟩ := World.cells?_some h00.1
      have := World.cell?_spot ((hat0 0 (by omega)).trans (rfl : (tkV (F 0).1 (F 0).2.1 (F 0).2.2.1 (F 0).2.2.2.1 (F 0).2.2.2.2)[0]? = some (insV (F 0).1 (F 0).2.1 (F 0).2.2.1 0)))
      simpa [Addr.add] using this
    subst hs
    have h0 := hcell 0 _ (rfl : (tkV (F k).1 (F k).2.1 (F k).2.2.1 (F k).2.2.2.1 (F k).2.2.2.2)[0]? = some (insV (F k).1 (F k).2.1 (F k).2.2.1 0))
    rw [add_at] at h0
    exact ⟨b, off, _, _, _, _, rfl, World.block_lt_of_cell? w _ h0, World.block_lt_of_cell? w _ h0, tkAt_of h3 fun j v hv => by
      have := hcell j v hv
      rwa [add_at, add_at] at this⟩
end
end Go.Proofs.Ytopakilglnpinaa
