/-
  AgreesOff: rows and held cells that are laid before the ring hears, and filled behind it.
-/
import Derived.Test.YtbdklfcgcmdgaaaGb38
namespace Go.Proofs.Ytbdklfcgcmdgaaa
open Go.RowKit
set_option linter.unusedVariables false
set_option linter.unusedSimpArgs false

/-- a world, its newest blocks forgotten -/
def cutW (w : World) (n : Nat) : World := { w with heap := w.heap.extract 0 n }
theorem cutW_size {w : World} {n : Nat} (h : n ≤ w.heap.size) : (cutW w n).heap.size = n := by simp [cutW]; omega
theorem cutW_below {w : World} {n : Nat} (h : n ≤ w.heap.size) : Below n (cutW w n) w :=
  ⟨rfl, rfl, rfl, by rw [cutW_size h]; exact h, fun k hk => by
    show w.heap[k]? = (w.heap.extract 0 n)[k]?
    rw [Array.getElem?_extract, if_pos (by omega), Nat.zero_add]⟩
/-- rows of zeros that were made before -/
theorem OwnI.startC {W : World} {a : Nat} {S : Nat → Prop} (hS : ¬ S a) {N : Nat} (hb : Blk W a 54 (zrep rowZ N).toArray) (h : Nat → Rw) : ∃ V : World, V.heap.size = a ∧ OwnI V S h N 0 W := by
  have hl := hb.lt
  have hz := cutW_size (w := W) (n := a) (by omega)
  refine ⟨cutW W a, hz, List.replicate N (rw0, .slice none 0 0), by simp, fun s hs => ⟨.slice none 0 0, by simp [List.getElem?_replicate, hs]⟩, ⟨[], ?_⟩, fun p hp => ?_, Nat.le_refl _, by rw [hz]; exact hS, by rw [hz]; exact cutW_below (by omega)⟩
  · rw [List.append_nil, flatP_rep, hz]; exact hb
  · obtain ⟨-, rfl⟩ := List.mem_replicate.1 hp
    exact ⟨rw0_ok', rw0_row' _ _⟩

/-! ### held cells in a block of the call's own -/
def HdsI (g : Nat) (f : Nat → Hd) (N k : Nat) (w : World) : Prop :=
  ∃ L : List Hd, Blk w g 114 (flatH L).toArray ∧ L.length = N ∧ (∀ x ∈ L, x.ok) ∧ ∀ s, s < N → L[s]? = some (if s < k then f s else hd0)
theorem HdsI.start {W : World} {g N : Nat} (hb : Blk W g 114 (zrep heldZ N).toArray) (f : Nat → Hd) : HdsI g f N 0 W :=
  ⟨List.replicate N hd0, by rw [← flatH_rep]; exact hb, by simp, fun c hc => by rw [(List.mem_replicate.1 hc).2]; exact hd0_ok, fun s hs => by simp [List.getElem?_replicate, hs]⟩
theorem HdsI.keep {g N k : Nat} {f : Nat → Hd} {w w' : World} (h : HdsI g f N k w) (hb : w'.heap[g]? = w.heap[g]?) : HdsI g f N k w' := by
  obtain ⟨L, h1, h2⟩ := h
  exact ⟨L, hb.trans h1, h2⟩
theorem HdsI.lt {g N k : Nat} {f : Nat → Hd} {w : World} (h : HdsI g f N k w) : g < w.heap.size := by
  obtain ⟨L, h1, -⟩ := h
  exact h1.lt
theorem HdsI.skip {g N k : Nat} {f : Nat → Hd} {w : World} (h : HdsI g f N k w) (hf : f k = hd0) : HdsI g f N (k + 1) w := by
  obtain ⟨L, h1, h2, h3, h4⟩ := h
  refine ⟨L, h1, h2, h3, fun s hs => ?_⟩
  rw [h4 s hs]
  by_cases hsk : s = k
  · subst hsk; rw [if_neg (by omega), if_pos (by omega), hf]
  · by_cases hlt : s < k
    · rw [if_pos hlt, if_pos (by omega)]
    · rw [if_neg hlt, if_neg (by omega)]
theorem HdsI.step {g N k : Nat} {f : Nat → Hd} {w : World} (h : HdsI g f N k w) (hk : k < N) (hf : (f k).ok) : canPut w ⟨g, k * 56, none⟩ 56 = true ∧ HdsI g f N (k + 1) (putRow w ⟨g, k * 56, none⟩ (f k).vals) := by
  obtain ⟨L, h1, h2, h3, h4⟩ := h
  have hl := len_flatH h3
  have hin : k * 56 + 56 ≤ L.length * 56 := by
    have : (k + 1) * 56 ≤ L.length * 56 := Nat.mul_le_mul_right _ (by omega)
    omega
  refine ⟨by rw [h1.rules.2.2.2.2]; simp [hl]; omega, L.set k (f k), ?_, by simpa using h2, ok_set h3 k hf, fun s hs => ?_⟩
  · have := h1.put (k * 56) (f k).vals
    rw [← flatH_set h3 (by omega) _ hf]
    simpa [spl] using this
  · rw [List.getElem?_set]
    by_cases hsk : k = s
    · subst hsk; rw [if_pos rfl, if_pos (by omega), if_pos (by omega)]
    · rw [if_neg hsk, h4 s hs]
      by_cases hlt : s < k
      · rw [if_pos hlt, if_pos (by omega)]
      · rw [if_neg hlt, if_neg (by omega)]
/-- one, read -/
theorem HdsI.at_ {g N : Nat} {f : Nat → Hd} {w : World} (h : HdsI g f N N w) {s : Nat} (hs : s < N) : (f s).ok ∧ hasRow w ⟨g, s * 56, none⟩ 56 = true ∧ rowOf w ⟨g, s * 56, none⟩ 56 = (f s).vals := by
  obtain ⟨L, h1, h2, h3, h4⟩ := h
  have hk := h4 s hs
  rw [if_pos hs] at hk
  generalize f s = x at hk ⊢
  have hxo := h3 _ (List.mem_of_getElem? hk)
  have hr := RdHs.of_blk (r := []) (by simpa using h1) h3
  obtain ⟨b, off, is, n, r, he, -, hbw, hl, -, -, -, e1, e2, -⟩ := hr.at_ s (by omega)
  cases he
  rw [Nat.zero_add] at e1 e2
  rw [hk] at hl
  cases hl
  exact ⟨hxo, e1, e2⟩

/-! ### the ring, with nothing of the law's in its state -/
section
variable {w : World} {rg : Nat} {av : Value} {R : RingM} {tag tag' : Nat → Nat} {P : RgP} {wr wm w5 : World} {f : Nat → List Rw}
theorem LSt.turnV (h : LSt f 0 w rg av R tag P (.slice none 0 0) [] wr) {S : Nat → Prop} (hc : Chg S wr wm) (hS : ∀ b, S b → tag b = 98 ∧ w.heap.size ≤ b) : LSt f 0 w rg av R tag P (.slice none 0 0) [] wm :=
  ⟨h.r.chg hc fun b hb => by have := (hS b hb).1; have := h.r.bd.2; omega, WasB.start _ _ _ _, h.lo, h.bel.trans (hc.below h.bel.size fun b hb => (hS b hb).2)⟩
theorem LSt.sealV (h : LSt f 0 w rg av R tag P (.slice none 0 0) [] wr) (ht : ∀ b, tag' b = tag b ∨ (tag b = 98 ∧ tag' b = 0 ∧ b < wr.heap.size)) : LSt f 0 w rg av R tag' P (.slice none 0 0) [] wr :=
  ⟨h.r.seal ht, WasB.start _ _ _ _, fun b hb => by
    rcases ht b with e | ⟨-, e, -⟩
    · rw [e]; exact h.lo b hb
    · exact e, h.bel⟩
theorem LSt.grewV (h : LSt f 0 w rg av R tag P (.slice none 0 0) [] wr) {v : Value} (htv : ∀ g, v.ownBlock = some g → w.heap.size ≤ g ∧ tag g = 98) {o : Obj} (hg : (wr.alloc o).grownBy w5 v.ownBlock) : LSt f 0 w rg av R tag P (.slice none 0 0) [] w5 :=
  ⟨h.r.grow hg fun g e => (htv g e).2, WasB.start _ _ _ _, h.lo, (h.bel.alloc h.bel.size _).grown hg (by have := h.bel.size; simp; omega) fun q hq => (htv q hq).1⟩
end
def tagS (tag : Nat → Nat) (c b : Nat) : Nat := if b = c then 0 else tag b
theorem tagS_same (tag : Nat → Nat) (c : Nat) : tagS tag c c = 0 := if_pos rfl
theorem tagS_ne {tag : Nat → Nat} {c b : Nat} (h : b ≠ c) : tagS tag c b = tag b := if_neg h
/-! ### a tick's held cells -/
def WasH (base : Nat) (C : Nat → Nat → Hd) (N : Nat) (tag : Nat → Nat) (j : Nat) (w : World) (u : Value) : Prop :=
  ∃ g, u = .slice (some ⟨g, 0, none⟩) N N ∧ base ≤ g ∧ g < w.heap.size ∧ tag g = 0 ∧ HdsI g (C j) N N w
section
variable {base : Nat} {C : Nat → Nat → Hd} {N M : Nat} {tag tag' : Nat → Nat} {k : Nat} {v : Value} {xs : List Value} {wr wm w3 : World}
theorem WasH.move {j : Nat} {u : Value} (h : WasH base C N tag j wr u) (hs : wr.heap.size ≤ wm.heap.size) (hk : ∀ b, base ≤ b → b < wr.heap.size → tag b = 0 → wm.heap[b]? = wr.heap[b]? ∧ tag' b = 0) : WasH base C N tag' j wm u := by
  obtain ⟨g, h1, h2, h3, h4, h5⟩ := h
  exact ⟨g, h1, h2, by omega, (hk g h2 h3 h4).2, h5.keep (hk g h2 h3 h4).1⟩
def WasHs (base : Nat) (C : Nat → Nat → Hd) (N : Nat) (tag : Nat → Nat) (k : Nat) (v : Value) (xs : List Value) (wr : World) : Prop := GrowL base 52 (WasH base C N tag) tag k v xs wr
theorem WasHs.start (base : Nat) (C : Nat → Nat → Hd) (N : Nat) (tag : Nat → Nat) (wr : World) : WasHs base C N tag 0 (.slice none 0 0) [] wr := GrowL.start _ _ _ _ _
theorem WasHs.rgs (h : WasHs base C N tag k v xs wr) (hM : M ≤ 16) (hc : Chg (Rgs tag M) wr wm) (ht : ∀ b, b < wr.heap.size → tag' b = tag b) : WasHs base C N tag' k v xs wm :=
  GrowL.move h hc (fun b _ hb e => by have := h.tv b e; have := hb.2; omega) ht fun j u hu => hu.move hc.size fun b _ hl h0 => ⟨hc.block b hl fun hr => by have := hr.1; omega, by rw [ht b hl]; exact h0⟩
theorem WasHs.below (h : WasHs base C N tag k v xs wr) (hb : Below wr.heap.size wr wm) : WasHs base C N tag k v xs wm :=
  GrowL.move h (Chg.of_below hb fun _ => False) (fun _ _ h => h.elim) (fun _ _ => rfl) fun j u hu => hu.move hb.size fun b _ hl h0 => ⟨hb.block b hl, h0⟩
/-- stores into blocks of nobody's that are not the list's; what is read alone stays so -/
theorem WasHs.turn (h : WasHs base C N tag k v xs wr) {S : Nat → Prop} (hc : Chg S wr wm) (hS : ∀ b, S b → tag b = 98 ∧ v.ownBlock ≠ some b) (h0 : ∀ b, tag b = 0 → tag' b = 0) (hv : ∀ g, v.ownBlock = some g → tag' g = 98) : WasHs base C N tag' k v xs wm :=
  ⟨own_block h.own fun b hb => hc.block b (h.own.lt b hb).2 fun hs => (hS b hs).2 hb, hv, fun j hj => by
    obtain ⟨u, e1, e2⟩ := h.he j hj
    exact ⟨u, e1, e2.move hc.size fun b _ hl h00 => ⟨hc.block b hl fun hs => by have := (hS b hs).1; omega, h0 b h00⟩⟩⟩
/-- a tick's are put to it -/
theorem WasHs.push (h : WasHs base C N tag k v xs wr) {cb : Nat} (h1 : base ≤ cb) (h2 : cb < wr.heap.size) (h3 : tag cb = 0) (hC : HdsI cb (C k) N N wr) {o : Obj} (hg : (wr.alloc o).grownBy w3 v.ownBlock) {g cap : Nat} (htg : ∀ b, wr.heap.size ≤ b → tag b = 98)
    (ho : w3.ownsRow base 52 1 (.slice (some ⟨g, 0, none⟩) (k + 1) cap) (k + 1) (xs ++ [.slice (some ⟨cb, 0, none⟩) N N])) (hlie : v.ownBlock = some g ∨ g = (wr.alloc o).heap.size) : WasHs base C N tag (k + 1) (.slice (some ⟨g, 0, none⟩) (k + 1) cap) (xs ++ [.slice (some ⟨cb, 0, none⟩) N N]) w3 := by
  have hs2 : (wr.alloc o).heap.size = wr.heap.size + 1 := by simp
  have hs3 := hg.size
  have hk : ∀ b, b < wr.heap.size → tag b = 0 → w3.heap[b]? = wr.heap[b]? := fun b hb h0 => (hg.block b (by omega) (fun e => by have := h.tv b e.symm; omega)).trans (Below.heap_alloc _ _ _ hb)
  exact GrowL.push h ⟨cb, rfl, h1, by omega, h3, hC.keep (hk cb h2 h3)⟩ hg htg (fun j u hu => hu.move (by omega) fun b _ hl h0 => ⟨hk b hl h0, h0⟩) ho hlie
end
theorem app_hlist : AppOk Try.prog 116 52 1 := appOk_of Try.underlying116 (by kernel_rfl)
/-- what is said, by tick and node, of those that are on -/
def saidH (on : Nat → Nat → Bool) (C : Nat → Nat → List Value) (t s : Nat) : Hd := if on t s = true then ⟨true, nrm (C t s)⟩ else hd0
theorem saidH_ok {on : Nat → Nat → Bool} {C : Nat → Nat → List Value} (h : ∀ t s, okL cellK (C t s) = true) (t s : Nat) : (saidH on C t s).ok := by
  unfold saidH
  split
  · exact nrm_ok (h t s)
  · exact hd0_ok
end Go.Proofs.Ytbdklfcgcmdgaaa
