
/-
  sennitlaw13.Spoil; slices.Clone, slices.Clip; words.Copy.
-/
import Derived.Test.YtbdklfcgcmdgaaaWrdF
namespace Go.Proofs.Ytbdklfcgcmdgaaa
open Go.RowKit
set_option linter.unusedVariables false
set_option linter.unusedSimpArgs false

/-- blocks of S alone, of tables, have been written; each is as long as it was -/
structure Spd (S : Nat → Prop) (w w' : World) : Prop where
  os : w'.os = w.os
  tape : w'.tape = w.tape
  output : w'.output = w.output
  size : w.heap.size ≤ w'.heap.size
  far : ∀ b, b < w.heap.size → ¬ S b → w'.heap[b]? = w.heap[b]?
  kind : ∀ (b : Nat) (cur : Array Value) (t : TypeId) (fr : Nat × Nat), w.heap[b]? = some (.cells cur t fr) → ∃ cur', w'.heap[b]? = some (.cells cur' t fr) ∧ cur'.size = cur.size ∧ (t ≠ 114 → cur' = cur)
theorem Spd.refl (S : Nat → Prop) (w : World) : Spd S w w := ⟨rfl, rfl, rfl, Nat.le_refl _, fun _ _ _ => rfl, fun b cur t fr h => ⟨cur, h, rfl, fun _ => rfl⟩⟩
theorem Spd.trans {S : Nat → Prop} {a b c : World} (h : Spd S a b) (k : Spd S b c) : Spd S a c :=
  ⟨k.os.trans h.os, k.tape.trans h.tape, k.output.trans h.output, Nat.le_trans h.size k.size, fun i hi hs => (k.far i (Nat.lt_of_lt_of_le hi h.size) hs).trans (h.far i hi hs), fun i cur t fr hc => by
    obtain ⟨c1, h1, h2, h3⟩ := h.kind i cur t fr hc
    obtain ⟨c2, k1, k2, k3⟩ := k.kind i c1 t fr h1
    exact ⟨c2, k1, k2.trans h2, fun hn => (k3 hn).trans (h3 hn)⟩⟩
theorem Spd.alloc {S : Nat → Prop} {a b : World} (h : Spd S a b) (o : Obj) : Spd S a (b.alloc o) :=
  ⟨h.os, h.tape, h.output, by have := h.size; simp; omega, fun k hk hn => (Below.heap_alloc _ _ _ (by have := h.size; omega)).trans (h.far k hk hn), fun i cur t fr hc => by
    obtain ⟨c1, h1, h2, h3⟩ := h.kind i cur t fr hc
    exact ⟨c1, (Below.heap_alloc _ _ _ (lt_of_some h1)).trans h1, h2, h3⟩⟩
theorem Spd.mono {S S' : Nat → Prop} {a b : World} (h : Spd S a b) (hs : ∀ k, k < a.heap.size → S k → S' k) : Spd S' a b := ⟨h.os, h.tape, h.output, h.size, fun k hk hn => h.far k hk fun hS => hn (hs k hk hS), h.kind⟩
theorem Spd.chg {S : Nat → Prop} {a b : World} (h : Spd S a b) : Chg S a b := ⟨h.os, h.tape, h.output, h.size, h.far⟩
theorem Spd.put {S : Nat → Prop} {a b : World} (h : Spd S a b) {g o : Nat} {cur : Array Value} {l : List Value} (hg : b.heap[g]? = some (.cells cur 114 (0, 0))) (hS : S g ∨ a.heap.size ≤ g) (hl : o + l.length ≤ cur.size) : Spd S a (putRow b ⟨g, o, none⟩ l) := by
  have hb : Blk b g 114 cur.toList.toArray := by simpa [Blk] using hg
  have hp := hb.put o l
  refine ⟨?_, ?_, ?_, ?_, fun k hk hn => ?_, fun i c t fr hc => ?_⟩
  · simp [putRow, hg, World.setRow]; exact h.os
  · simp [putRow, hg, World.setRow]; exact h.tape
  · simp [putRow, hg, World.setRow]; exact h.output
  · have := h.size; simpa using this
  · have hne : k ≠ g := by rintro rfl; rcases hS with hS | hS; exact hn hS; omega
    exact (putRow_other _ _ _ _ (by simpa using hne)).trans (h.far k hk hn)
  · obtain ⟨c1, h1, h2, h3⟩ := h.kind i c t fr hc
    by_cases hi : i = g
    · subst hi
      rw [hg] at h1
      cases h1
      refine ⟨_, hp, ?_, fun hn => absurd rfl hn⟩
      rw [← h2]
      simp [spl]; omega
    · exact ⟨c1, (putRow_other _ _ _ _ (by simpa using hi)).trans h1, h2, h3⟩
theorem RoomV.spd {S S' : Nat → Prop} {w w' : World} {tv : Value} (h : RoomV S w tv) (hs : Spd S' w w') : RoomV S w' tv := fun x m cap e k hlt => by
  obtain ⟨b, off, cur, h1, h2, h3, h4⟩ := h x m cap e k hlt
  obtain ⟨c1, k1, k2, -⟩ := hs.kind b cur _ _ h3
  exact ⟨b, off, c1, h1, h2, k1, by omega⟩
def markR : List Value := .bool true :: .int .i64 (-99) :: cellR

set_option maxRecDepth 100000 in
set_option maxHeartbeats 4000000 in
theorem spoil_any (S : Nat → Prop) (r : Rw) (hr : r.ok) (tv : Value) (w : World) (hm : ∃ x m cap, tv = .slice x m cap ∧ m ≤ cap ∧ cap ≤ maxLen) (hroom : RoomV S w tv) :
    Calls Try.prog 27 #[.agg (r.vals tv).toArray] w fun e w' => (∃ v, e = .returned v) ∧ Spd S w w' := by
  obtain ⟨x, m, cap, rfl, hm1, hm2⟩ := hm
  unfold maxLen at hm2
  have hvl := Rw.len hr (.slice x m cap)
  have hcl : r.c.length = 55 := (okL_len hr.1).trans len_cellK
  have hst : Spd S w (w.alloc (.cells (r.vals (.slice x m cap)).toArray 54)) := (Spd.refl S w).alloc _
  have f56 : (w.alloc (.cells (r.vals (.slice x m cap)).toArray 54)).cell? ⟨w.heap.size, 56, none⟩ = some (.slice x m cap) := by
    rw [(Blk.new w _ _).cell]; simp [Rw.vals, List.getElem?_append, hcl]
  have HR := Lib.hid hroom
  have hcr := cellR_cell1
  clear hroom
  go_enter Try.func27, Try.ntmps27
  go_upto_region 1 with fail
  generalize w.alloc (.cells (r.vals (.slice x m cap)).toArray 54) = w0 at hst f56 ⊢
  have H0 := Lib.hid hst
  have hcc : ((cap : Nat) : Int) ≤ (cap : Int) := Int.le_refl _
  clear hst
  go_wp2
  go_loopw [3] (fun i wr => ∃ k : Nat, k ≤ cap ∧ i = .int .i64 k ∧ Spd S w wr) (fun i _ => cap - (intOf i).toNat)
  case atStart => exact ⟨0, by omega, rfl, H0.out⟩
  case round =>
    obtain ⟨k, hk, rfl, hs⟩ := hrel
    by_cases hlt : k < cap
    · obtain ⟨b, off, cur, rfl, h2, h3, h4⟩ := (HR.out.spd hs) x m cap rfl k hlt
      have hcp : canPut wr ⟨b, off + k * 56, none⟩ 56 = true := by simp [canPut, h3]; omega
      have HS := Lib.hid (hs.put (l := .bool true :: .int .i64 (-99) :: cellR) h3 (.inl h2) (o := off + k * 56) (by simp [len_cellR]; omega))
      clear h3 h4 hs
      go_wp2
      exact ⟨⟨k + 1, by omega, by go_num, HS.out⟩, by simp [intOf]; omega⟩
    · have hkl : k = cap := by omega
      subst hkl
      have HS := Lib.hid hs
      clear hs
      go_wp2
      go_end0
      exact ⟨⟨_, rfl⟩, HS.out⟩
end Go.Proofs.Ytbdklfcgcmdgaaa
