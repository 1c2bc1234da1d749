/-
  A lane behind a tick's beginning, and behind its end: where it lies then. sennitlaw13.Other: a row as the document has it. sennitlaw13.Others: rows as the document has them; sennitlaw13.Great: more than is gone through?
-/
import Derived.Test.YtdilbjikeilhbaaGreatDoorGe09
import Derived.Test.YtdilbjikeilhbaaGreatDoorGe08
import Derived.Deep.RegionLaw
namespace Go.Proofs.YtdilbjikeilhbaaGreatDoor
open Go.RowKit
set_option linter.unusedVariables false
set_option linter.unusedSimpArgs false

def slotM (L : LaneM) : Nat := L.T % (L.n + 1)
def putG (G : Nat → Nat) (j g0 g1 g2 g3 : Nat) (k : Nat) : Nat := if k / 4 = j then (if k % 4 = 0 then g0 else if k % 4 = 1 then g1 else if k % 4 = 2 then g2 else g3) else G k
def GrowS (S : Nat → Prop) (lo m b : Nat) : Prop := S b ∨ (lo ≤ b ∧ b < m)
theorem made_put {n T k : Nat} (h : Made n (T + 1) k) (hne : k / 4 ≠ T % (n + 1)) : Made n T k := by
  obtain ⟨h1, h2⟩ := h
  refine ⟨h1, ?_⟩
  rcases Nat.lt_or_ge T (n + 1) with h3 | h3
  · rw [Nat.mod_eq_of_lt h3] at hne; omega
  · omega
theorem LaneAt.ne {S : Nat → Prop} {w : World} {p gp : Nat} {G : Nat → Nat} {L : LaneM} (h : LaneAt S w p gp G L) : p ≠ gp ∧ ∀ k, Made L.n L.T k → G k ≠ p ∧ G k ≠ gp := by
  refine ⟨h.b.ne_ h.g (by decide), fun k hk => ?_⟩
  obtain ⟨cs, hb, -⟩ := h.r k hk
  exact ⟨hb.ne_ h.b (by decide), hb.ne_ h.g (by decide)⟩
theorem momCells_put {n T : Nat} {G : Nat → Nat} {g0 g1 g2 g3 : Nat} {j : Nat} (hj : j = T % (n + 1)) :
    (momCells n T G).take (j * 4) ++ [slV g0 n, slV g1 n, slV g2 n, slV g3 n] ++ (momCells n T G).drop (j * 4 + 4) = momCells n (T + 1) (putG G j g0 g1 g2 g3) := by
  have hjn : j < n + 1 := by rw [hj]; exact Nat.mod_lt _ (by omega)
  have hl := momCells_len n T G
  apply List.ext_getElem?
  intro k
  by_cases hk : k < 4 * (n + 1)
  · rw [momCells_at hk]
    have hkm : ∀ {k : Nat}, k < 4 * (n + 1) → k / 4 ≠ j → (k / 4 < T + 1 ↔ k / 4 < T) := fun {k} hk hne => by
      constructor
      · intro h
        exact (made_put ⟨hk, h⟩ (by rw [← hj]; exact hne)).2
      · omega
    by_cases h1 : k < j * 4
    · rw [List.append_assoc, List.getElem?_append_left (by rw [List.length_take]; omega), List.getElem?_take, if_pos h1, momCells_at hk]
      have hne : k / 4 ≠ j := by omega
      simp only [putG, hne, if_false, hkm hk hne]
    · by_cases h2 : k < j * 4 + 4
      · rw [List.getElem?_append_left (by simp; omega), List.getElem?_append_right (by rw [List.length_take]; omega), List.length_take]
        have e : k - min (j * 4) (momCells n T G).length = k % 4 := by omega
        rw [e]
        have hd : k / 4 = j := by omega
        have hlt : k / 4 < T + 1 := by
          have : T % (n + 1) ≤ T := Nat.mod_le _ _
          omega
        rw [if_pos hlt]
        have hc : k % 4 = 0 ∨ k % 4 = 1 ∨ k % 4 = 2 ∨ k % 4 = 3 := by omega
        rcases hc with hc | hc | hc | hc <;> simp [hc, putG, hd, slV]
      · have e3 : (List.take (j * 4) (momCells n T G) ++ [slV g0 n, slV g1 n, slV g2 n, slV g3 n]).length = j * 4 + 4 := by simp; omega
        rw [List.getElem?_append_right (by omega), e3, List.getElem?_drop, show j * 4 + 4 + (k - (j * 4 + 4)) = k from by omega, momCells_at hk]
        have hne : k / 4 ≠ j := by omega
        simp only [putG, hne, if_false, hkm hk hne]
  · rw [List.getElem?_eq_none (by simp; omega), List.getElem?_eq_none (by rw [momCells_len]; omega)]

structure SideAt (lo hi : Nat) (w : World) (gt gn n : Nat) (f0 f1 : Nat → Rw) : Prop where
  t : RowsB (fun b => lo ≤ b ∧ b < hi ∧ b ≠ gt ∧ b ≠ gn) w gt 134 (tab n f0)
  r : RowsB (fun b => lo ≤ b ∧ b < hi ∧ b ≠ gt ∧ b ≠ gn) w gn 134 (tab n f1)
  o : lo ≤ gt ∧ lo ≤ gn ∧ gt ≠ gn ∧ gt < hi ∧ gn < hi
theorem SideAt.keep {lo hi : Nat} {w w' : World} {gt gn n : Nat} {f0 f1 : Nat → Rw} (h : SideAt lo hi w gt gn n f0 f1) (hs : w.heap.size ≤ w'.heap.size) (hk : ∀ b, lo ≤ b → b < hi → w'.heap[b]? = w.heap[b]?) : SideAt lo hi w' gt gn n f0 f1 :=
  ⟨h.t.keep hs fun b hb hl => hk b (by rcases hb with rfl | hb; exact h.o.1; exact hb.1) (by rcases hb with rfl | hb; exact h.o.2.2.2.1; exact hb.2.1),
   h.r.keep hs fun b hb hl => hk b (by rcases hb with rfl | hb; exact h.o.2.1; exact hb.1) (by rcases hb with rfl | hb; exact h.o.2.2.2.2; exact hb.2.1), h.o⟩

theorem LaneAt.put_ {S : Nat → Prop} {w w5 : World} {p gp : Nat} {G : Nat → Nat} {L : LaneM} {ins : Nat → List Rw} (h : LaneAt S w p gp G L) (hins : ∀ i, ∀ r ∈ ins i, r.ok)
    {lo m0 m : Nat} (hlo : w.heap.size ≤ lo) (hm0 : lo ≤ m0) (hm : m0 ≤ m) (hm5 : m ≤ w5.heap.size) {g0 g1 g2 g3 j : Nat} (hj : j = slotM L)
    (hb : Blk w5 p 327 (laneV (L.put ins) gp).toArray)
    (hg : Blk w5 gp 363 ((momCells L.n L.T G).take (j * 4) ++ [slV g0 L.n, slV g1 L.n, slV g2 L.n, slV g3 L.n] ++ (momCells L.n L.T G).drop (j * 4 + 4)).toArray)
    (ho : ∀ b, S b → b ≠ p → b ≠ gp → w5.heap[b]? = w.heap[b]?)
    (hA : SideAt lo m0 w5 g0 g1 L.n (momM L.n L.me ins 0) (momM L.n L.me ins 1)) (hB : SideAt m0 m w5 g2 g3 L.n (momM L.n L.me ins 2) (momM L.n L.me ins 3)) :
    LaneAt (GrowS S w.heap.size m) w5 p gp (putG G j g0 g1 g2 g3) (L.put ins) := by
  have hz : w.heap.size ≤ w5.heap.size := by omega
  obtain ⟨hpg, hG⟩ := h.ne
  have hn : (L.put ins).n = L.n := rfl
  have hT : (L.put ins).T = L.T + 1 := rfl
  have hjn : j < L.n + 1 := by rw [hj]; exact Nat.mod_lt _ (by omega)
  obtain ⟨a1, a2, a3, a4, a5⟩ := hA.o
  obtain ⟨b1, b2, b3, b4, b5⟩ := hB.o
  have hnew : ∀ k, k / 4 = j → w.heap.size ≤ putG G j g0 g1 g2 g3 k ∧ putG G j g0 g1 g2 g3 k < m := fun k hk => by
    unfold putG
    rw [if_pos hk]
    repeat' split
    all_goals omega
  have hold : ∀ k, k / 4 ≠ j → putG G j g0 g1 g2 g3 k = G k := fun k hk => by unfold putG; rw [if_neg hk]
  -- the tables
  have htab : ∀ b, b < w.heap.size → TabS S p gp G L.n L.T b → TabS (GrowS S w.heap.size m) p gp (putG G j g0 g1 g2 g3) L.n (L.T + 1) b := fun b hbl hb => by
    refine ⟨.inl hb.1, hb.2.1, hb.2.2.1, fun k hk => ?_⟩
    by_cases hkj : k / 4 = j
    · have := hnew k hkj; omega
    · rw [hold k hkj]; exact hb.2.2.2 k (made_put hk (by rw [hj] at hkj; exact hkj))
  have hplt := h.b.lt
  have hglt := h.g.lt
  have hnt : ∀ b, (lo ≤ b ∧ b < m ∧ b ≠ g0 ∧ b ≠ g1 ∧ b ≠ g2 ∧ b ≠ g3) → TabS (GrowS S w.heap.size m) p gp (putG G j g0 g1 g2 g3) L.n (L.T + 1) b := fun b hb => by
    refine ⟨.inr ⟨by omega, hb.2.1⟩, by omega, by omega, fun k hk => ?_⟩
    by_cases hkj : k / 4 = j
    · unfold putG
      rw [if_pos hkj]
      repeat' split
      all_goals omega
    · rw [hold k hkj]
      have := h.lt _ (h.sr k (made_put hk (by rw [hj] at hkj; exact hkj)))
      omega
  have hpast : ∀ k, k / 4 = j → (L.put ins).past (k / 4) (k % 4) = momM L.n L.me ins (k % 4) := fun k hk => by
    show (if k / 4 = L.T % (L.n + 1) then momM L.n L.me ins else L.past (k / 4)) (k % 4) = _
    rw [if_pos (by rw [hk, hj]; rfl)]
  have hpast' : ∀ k, k / 4 ≠ j → (L.put ins).past (k / 4) (k % 4) = L.past (k / 4) (k % 4) := fun k hk => by
    show (if k / 4 = L.T % (L.n + 1) then momM L.n L.me ins else L.past (k / 4)) (k % 4) = _
    rw [if_neg (by rw [hj] at hk; exact hk)]
  refine ⟨hb, ?_, fun k hk => ?_, .inl h.sp, .inl h.sg, fun k hk => ?_, fun k k' hk hk' he => ?_, fun b hb => ?_, h.bd, LaneM.put_ok h.ok hins, LaneM.put_okT h.okt ins⟩
  · rw [momCells_put (by rw [hj]; rfl)] at hg
    exact hg
  · rw [hn, hT] at hk ⊢
    by_cases hkj : k / 4 = j
    · rw [hpast k hkj]
      have hc : k % 4 = 0 ∨ k % 4 = 1 ∨ k % 4 = 2 ∨ k % 4 = 3 := by omega
      have eg : putG G j g0 g1 g2 g3 k = if k % 4 = 0 then g0 else if k % 4 = 1 then g1 else if k % 4 = 2 then g2 else g3 := by unfold putG; rw [if_pos hkj]
      rw [eg]
      rcases hc with hc | hc | hc | hc <;> rw [hc]
      · exact hA.t.mono fun b hl hb => hnt b ⟨hb.1, by omega, hb.2.2.1, hb.2.2.2, by omega, by omega⟩
      · exact hA.r.mono fun b hl hb => hnt b ⟨hb.1, by omega, hb.2.2.1, hb.2.2.2, by omega, by omega⟩
      · exact hB.t.mono fun b hl hb => hnt b ⟨by omega, hb.2.1, by omega, by omega, hb.2.2.1, hb.2.2.2⟩
      · exact hB.r.mono fun b hl hb => hnt b ⟨by omega, hb.2.1, by omega, by omega, hb.2.2.1, hb.2.2.2⟩
    · have hm1 := made_put hk (by rw [hj] at hkj; exact hkj)
      rw [hold k hkj, hpast' k hkj]
      have hr := h.r k hm1
      refine ((hr.mono (S' := fun b => TabS S p gp G L.n L.T b ∧ b < w.heap.size) fun b hl hb => ⟨hb, hl⟩).keep hz fun b hb hl => ?_).mono fun b _ hb => htab b hb.2 hb.1
      rcases hb with rfl | hb
      · exact ho _ (h.sr k hm1) (hG k hm1).1 (hG k hm1).2
      · exact ho b hb.1.1 hb.1.2.1 hb.1.2.2.1
  · rw [hn, hT] at hk
    by_cases hkj : k / 4 = j
    · exact .inr (hnew k hkj)
    · rw [hold k hkj]; exact .inl (h.sr k (made_put hk (by rw [hj] at hkj; exact hkj)))
  · rw [hn, hT] at hk hk'
    by_cases hkj : k / 4 = j
    · by_cases hkj' : k' / 4 = j
      · unfold putG at he
        rw [if_pos hkj, if_pos hkj'] at he
        have : k % 4 = k' % 4 := by
          have hc : k % 4 = 0 ∨ k % 4 = 1 ∨ k % 4 = 2 ∨ k % 4 = 3 := by omega
          have hc' : k' % 4 = 0 ∨ k' % 4 = 1 ∨ k' % 4 = 2 ∨ k' % 4 = 3 := by omega
          rcases hc with hc | hc | hc | hc <;> rcases hc' with hc' | hc' | hc' | hc' <;> simp [hc, hc'] at he ⊢ <;> omega
        omega
      · have h1 := hnew k hkj
        have h2 := h.lt _ (h.sr k' (made_put hk' (by rw [hj] at hkj'; exact hkj')))
        rw [he, hold k' hkj'] at h1
        omega
    · by_cases hkj' : k' / 4 = j
      · have h1 := hnew k' hkj'
        have h2 := h.lt _ (h.sr k (made_put hk (by rw [hj] at hkj; exact hkj)))
        rw [← he, hold k hkj] at h1
        omega
      · rw [hold k hkj, hold k' hkj'] at he
        exact h.inj k k' (made_put hk (by rw [hj] at hkj; exact hkj)) (made_put hk' (by rw [hj] at hkj'; exact hkj')) he
  · rcases hb with hb | hb
    · have := h.lt b hb; omega
    · omega
theorem LaneAt.was {S : Nat → Prop} {w : World} {p gp cl cn now : Nat} {G : Nat → Nat} {L : LaneM} (h : LaneAt S w p gp G L) (hcl : Blk w cl 140 #[.pointer (some ⟨p, 0, none⟩)]) (hcn : Blk w cn 3 #[.int .i64 now]) (hT : L.T = now + 1) (hnow : L.n ≤ now) (hbig : now ≤ 1000000000) :
    WasOk w cl cn L.n (fun ago => L.past ((now - ago) % (L.n + 1))) := by
  intro w' ago hb h1 h2
  obtain ⟨j, hj⟩ : ∃ j, j = (now - ago) % (L.n + 1) := ⟨_, rfl⟩
  have hjn : j < L.n + 1 := by rw [hj]; exact Nat.mod_lt _ (by omega)
  have hjT : j < L.T := by
    have : (now - ago) % (L.n + 1) ≤ now - ago := Nat.mod_le _ _
    omega
  have h' := h.below hb
  obtain ⟨m1, m2⟩ := h'.mom hjn hjT
  obtain ⟨c0, -, -, -, c4⟩ := h'.cells
  have k0 := (hcl.below hb hcl.lt).cell 0
  have k1 := (hcn.below hb hcn.lt).cell 0
  simp at k0 k1
  have hs := hb.size
  refine ⟨G (4 * j), G (4 * j + 1), G (4 * j + 2), G (4 * j + 3), was_any p gp cl cn L.n now ago j _ w' c0 c4 k0 k1 m1 m2 rfl (by simp [momV, slV, cell1]) h.bd.1 h.bd.2.1 (by omega) hbig hj ⟨h'.b.lt, h'.g.lt, (hcl.below hb hcl.lt).lt, (hcn.below hb hcn.lt).lt⟩, fun w'' hb' => ?_⟩
  have key : ∀ q, q < 4 → RdRs (· < w.heap.size) w'' (some ⟨G (4 * j + q), 0, none⟩) L.n (tab L.n (L.past ((now - ago) % (L.n + 1)) q)) := fun q hq => by
    have hm : Made L.n L.T (4 * j + q) := ⟨by omega, by omega⟩
    have hr := (h.r _ hm).rd (fun r hr => by
      obtain ⟨k, -, rfl⟩ := tab_mem hr
      exact h.ok _ _ _)
    rw [tab_len, show (4 * j + q) / 4 = j from by omega, show (4 * j + q) % 4 = q from by omega, hj] at hr
    rw [hj]
    exact ((hr.mono (S' := (· < w.heap.size)) fun b hl _ => hl).below hb' (fun b hb _ => hb))
  have e0 := key 0 (by omega)
  exact ⟨e0, key 1 (by omega), key 2 (by omega), key 3 (by omega)⟩
end Go.Proofs.YtdilbjikeilhbaaGreatDoor
namespace Go.Proofs.YtdilbjikeilhbaaGreatDoor
open Go.RowKit
set_option linter.unusedVariables false
set_option linter.unusedSimpArgs false

@[go_sem] theorem bd_rheldP (ρ : Operand → Value) (d : Option Tmp) (x y : Operand) (ty : TypeId) (s : String) (af : Array Edge) (g : Option (Nat × Bool)) (w : World) (h1 : lenC (ρ x) 1 = true) (h2 : lenC (ρ y) 55 = true) : (execOp ρ { dst := d, op := .build 643 #[(0, x), (1, y)], type := ty, pos := s, after := af, guard := g }).run Tryz.prog w = .ok (.value (.agg (cellsL (ρ x) ++ cellsL (ρ y)).toArray)) w := bd_rheld ρ d x y ty s af g w h1 h2
structure OP (w : World) (rv c : List Value) (is : Bool) (l : List Hd) (k : Nat) (v : Value) (wr : World) : Prop where
  b0 : Blk wr w.heap.size 134 rv.toArray
  b1 : Blk wr (w.heap.size + 1) 628 rowZ.toArray
  b2 : Blk wr (w.heap.size + 1 + 1) 628 (Value.bool is :: (c ++ [v])).toArray
  own : wr.ownsRow (w.heap.size + 1 + 1 + 1) 643 56 v k ((l.take k).flatMap Hd.vals)
  sz : w.heap.size + 1 + 1 + 1 ≤ wr.heap.size
  bel : Below w.heap.size w wr
theorem OP.start (w : World) (rv c : List Value) (is : Bool) (l : List Hd) : OP w rv c is l 0 (.slice none 0 0) (((w.alloc (.cells rv.toArray 134)).alloc (.cells rowZ.toArray 628)).alloc (.cells (Value.bool is :: (c ++ [.slice none 0 0])).toArray 628)) :=
  ⟨((Blk.new _ _ _).alloc _).alloc _, (new1 _ _ _ _).alloc _, new2 _ _ _ _ _, by simpa using World.ownsRow_nil _ _ _ _, by simp, (((Below.refl _ _).alloc (Nat.le_refl _) _).alloc (by simp) _).alloc (by simp; omega) _⟩

theorem OP.step {w : World} {rv c : List Value} (hcl : c.length = 55) {is : Bool} {l : List Hd} {k : Nat} {v v' : Value} {wr wm w1 : World} (h : OP w rv c is l k v wr) (hm : Below wr.heap.size wr wm) (hg : wm.grownBy w1 v.ownBlock)
    {y : Hd} (hy : l[k]? = some y) (ho : w1.ownsRow (w.heap.size + 1 + 1 + 1) 643 56 v' (k + 1) ((l.take k).flatMap Hd.vals ++ y.vals)) :
    OP w rv c is l (k + 1) v' (w1.setCell ⟨w.heap.size + 1 + 1, 56, none⟩ v') := by
  have hne : ∀ b, b < w.heap.size + 1 + 1 + 1 → some b ≠ v.ownBlock := fun b hb => own_ne h.own hb
  have hs := h.sz
  have hmk : ∀ (b : Nat) (t : TypeId) (cs : Array Value), b < w.heap.size + 1 + 1 + 1 → Blk wr b t cs → Blk w1 b t cs := fun b t cs hb hk => by
    have h1 := hk.below hm hk.lt
    exact (hg.block b h1.lt (hne b hb)).trans h1
  have hb2 := (hmk _ _ _ (by omega) h.b2).set_ 56 v'
  have e : (Value.bool is :: (c ++ [v])).toArray.setIfInBounds 56 v' = (Value.bool is :: (c ++ [v'])).toArray := by
    simp [List.set_append, hcl]
  rw [e] at hb2
  have hB1 : Below w.heap.size w w1 := (h.bel.trans (hm.mono (by omega))).grown hg (by have := hm.size; omega) (fun q hq => by have := (h.own.lt q hq).1; omega)
  refine ⟨(hmk _ _ _ (by omega) h.b0).far (by first | (simp; done) | (simp; omega)) _, (hmk _ _ _ (by omega) h.b1).far (by first | (simp; done) | (simp; omega)) _, hb2, ?_, ?_, hB1.setCell (by simp; omega) _⟩
  · rw [List.take_add_one, hy, List.flatMap_append]
    refine own_block (by simpa using ho) (fun q hq => Below.heap_setCell _ _ _ _ ?_)
    have := (ho.lt q hq).1
    simp; omega
  · have := hm.size; have := hg.size; simp; omega

end Go.Proofs.YtdilbjikeilhbaaGreatDoor
namespace Go.Proofs.YtdilbjikeilhbaaGreatDoor
open Go.RowKit
set_option linter.unusedVariables false
set_option linter.unusedSimpArgs false

def OS (w : World) (e : TypeId) (l : List Rw) (k : Nat) (v : Value) (wr : World) : Prop :=
  (∃ ps : List (Rw × Value), ps.length = k ∧ ps.map Prod.fst = l.take k ∧ OwnR w.heap.size wr e v ps) ∧ Below w.heap.size w wr
theorem OS.start (w : World) (e : TypeId) (l : List Rw) : OS w e l 0 (.slice none 0 0) w := ⟨⟨[], rfl, by simp, OwnR.nil _ _ _⟩, Below.refl _ _⟩
theorem OS.step {w : World} {e : TypeId} {l : List Rw} {k : Nat} {v : Value} {wr wm w1 : World} (hbel : Below w.heap.size w wr) {ps : List (Rw × Value)} (p1 : ps.length = k) (p2 : ps.map Prod.fst = l.take k) (p3 : OwnR w.heap.size wr e v ps) (hm : Below wr.heap.size wr wm) {y : Rw} {tv : Value} (hyk : y.ok) (hy : l[k]? = some y)
    (ht : RowR (wr.heap.size ≤ ·) wm y tv) {g cap : Nat}
    (ho : w1.ownsRow w.heap.size e 57 (.slice (some ⟨g, 0, none⟩) (k + 1) cap) (k + 1) (flatP ps ++ y.vals tv)) (hg : wm.grownBy w1 v.ownBlock) (hlie : v.ownBlock = some g ∨ g = wm.heap.size) :
    OS w e l (k + 1) (.slice (some ⟨g, 0, none⟩) (k + 1) cap) w1 := by
  have hl := fun b hb => (p3.1.lt b hb).2
  have hms := hm.size
  have hbs := hbel.size
  have hB1 : Below w.heap.size w w1 := (hbel.trans (hm.mono hbs)).grown hg (by omega) (fun q hq => by have := (p3.1.lt q hq).1; omega)
  have p3m : OwnR w.heap.size wm e v ps := p3.keep hms (fun b _ hb => hm.block b hb)
  have hpush := p3m.push hyk (ht.mono (fun b hb hS => ⟨by omega, fun e => by have := hl b e.symm; omega⟩)) p1 ho hg hlie
  exact ⟨⟨ps ++ [(y, tv)], by simp [p1], by rw [List.map_append, p2, List.take_add_one, hy]; rfl, hpush⟩, hB1⟩
def RowsPost (l : List Rw) (w : World) (e : Ending) (w' : World) : Prop :=
  ∃ a cap, e = .returned (.slice a l.length cap) ∧ RdRs (w.heap.size ≤ ·) w' a l.length l ∧ l.length ≤ cap ∧ cap ≤ maxLen ∧ Below w.heap.size w w'
theorem OS.post {w : World} {e : TypeId} {l : List Rw} {k : Nat} {v : Value} {wr : World} (h : OS w e l k v wr) (hk : k = l.length) : RowsPost l w (.returned v) wr := by
  obtain ⟨⟨ps, p1, p2, p3⟩, hB⟩ := h
  obtain ⟨a, cap, rfl, h1, h2, h3⟩ := p3.rd
  subst hk
  rw [List.take_length] at p2
  rw [p1, p2] at h1
  rw [p1] at h2 ⊢
  exact ⟨a, cap, rfl, h1, h2, h3, hB⟩

/-! ### Great -/
end Go.Proofs.YtdilbjikeilhbaaGreatDoor
