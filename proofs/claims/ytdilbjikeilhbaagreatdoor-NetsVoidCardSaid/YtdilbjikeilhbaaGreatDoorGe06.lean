/-
  sennitref13.Plain. words.Norm. Where a lane lies in memory; Norm, whose block is known whole. (*tracks.Lane).distance; laws for a lane's structs as rows of cells.
-/
import Derived.Test.YtdilbjikeilhbaaGreatDoorGe05
import Derived.Test.YtdilbjikeilhbaaGreatDoorGe04
import Derived.Deep.CutRange
import Derived.Test.YtdilbjikeilhbaaGreatDoorGe03
import Derived.WalkSpells
import Derived.Deep.CutBlock
import Derived.Deep.DeepCutAuto
import Derived.Deep.QuietTactic
import Derived.BigQuiet
import Derived.Deep.RegionHeld3
import Derived.Deep.DrawnRows
namespace Go.Proofs.YtdilbjikeilhbaaGreatDoor
open Go.RowKit
set_option linter.unusedVariables false
set_option linter.unusedSimpArgs false

theorem fillH_snoc (k : Nat) (l : List Hd) : fillH (k + 1) l = fillH k l ++ [match l[k]? with | some h => h.nrm | none => hd0] := by
  unfold fillH
  by_cases h : k < l.length
  · have e1 : k + 1 - l.length = 0 := by omega
    have e2 : k - l.length = 0 := by omega
    rw [e1, e2, List.take_add_one, List.getElem?_eq_getElem h]
    simp only [Option.toList_some, List.map_append, List.map_cons, List.map_nil, List.replicate_zero, List.append_nil]
  · have e1 : k + 1 - l.length = (k - l.length) + 1 := by omega
    rw [e1, List.take_of_length_le (by omega), List.take_of_length_le (by omega), List.getElem?_eq_none (by omega), List.replicate_succ']
    simp

structure RP (w : World) (rv c : List Value) (t : List Hd) (k : Nat) (v : Value) (wr : World) : Prop where
  b0 : Blk wr w.heap.size 628 rv.toArray
  b1 : Blk wr (w.heap.size + 1) 628 rowZ.toArray
  b2 : Blk wr (w.heap.size + 1 + 1) 628 (Value.bool true :: (c ++ [v])).toArray
  own : wr.ownsRow (w.heap.size + 1 + 1 + 1) 643 56 v k ((fillH k t).flatMap Hd.vals)
  sz : w.heap.size + 1 + 1 + 1 ≤ wr.heap.size
  bel : Below w.heap.size w wr

theorem new2 (w : World) (A B : Obj) (z : List Value) (t : TypeId) : Blk (((w.alloc A).alloc B).alloc (.cells z.toArray t)) (w.heap.size + 1 + 1) t z.toArray := by
  have := Blk.new ((w.alloc A).alloc B) t z.toArray
  have e : ((w.alloc A).alloc B).heap.size = w.heap.size + 1 + 1 := by simp
  rwa [e] at this
theorem new1 (w : World) (A : Obj) (z : List Value) (t : TypeId) : Blk ((w.alloc A).alloc (.cells z.toArray t)) (w.heap.size + 1) t z.toArray := by
  have := Blk.new (w.alloc A) t z.toArray
  have e : (w.alloc A).heap.size = w.heap.size + 1 := by simp
  rwa [e] at this

structure R3 (w : World) (rv : List Value) (wr : World) : Prop where
  b0 : Blk wr w.heap.size 628 rv.toArray
  b1 : Blk wr (w.heap.size + 1) 628 rowZ.toArray
  b2 : Blk wr (w.heap.size + 1 + 1) 628 rowZ.toArray
  sz : w.heap.size + 1 + 1 + 1 = wr.heap.size
  bel : Below w.heap.size w wr
theorem R3.start (w : World) (rv : List Value) : R3 w rv (((w.alloc (.cells rv.toArray 628)).alloc (.cells rowZ.toArray 628)).alloc (.cells rowZ.toArray 628)) :=
  ⟨((Blk.new _ _ _).alloc _).alloc _, (new1 _ _ _ _).alloc _, new2 _ _ _ _ _, by simp, (((Below.refl _ _).alloc (Nat.le_refl _) _).alloc (by simp) _).alloc (by simp; omega) _⟩
theorem R3.end_ {w : World} {rv : List Value} {wr : World} (h : R3 w rv wr) : hasRow wr ⟨w.heap.size + 1 + 1, 0, none⟩ 57 = true ∧ rowOf wr ⟨w.heap.size + 1 + 1, 0, none⟩ 57 = rowZ ∧ canPut wr ⟨w.heap.size + 1, 0, none⟩ 57 = true ∧
    hasRow (putRow wr ⟨w.heap.size + 1, 0, none⟩ rowZ) ⟨w.heap.size + 1, 0, none⟩ 57 = true ∧ rowOf (putRow wr ⟨w.heap.size + 1, 0, none⟩ rowZ) ⟨w.heap.size + 1, 0, none⟩ 57 = rowZ ∧ Below w.heap.size w (putRow wr ⟨w.heap.size + 1, 0, none⟩ rowZ) := by
  obtain ⟨q1, q2, -⟩ := h.b2.whole len_rowZ
  obtain ⟨-, -, q3⟩ := h.b1.whole len_rowZ
  obtain ⟨p1, p2, -⟩ := (h.b1.put_all rfl).whole len_rowZ
  exact ⟨q1, q2, q3, p1, p2, Below.put h.bel (by simp) _⟩

theorem RP.step {w : World} {rv c : List Value} (hcl : c.length = 55) {t : List Hd} (ht : ∀ x ∈ t, x.ok) {k : Nat} {v v' : Value} {wr wm w1 : World} (h : RP w rv c t k v wr) (hm : Below wr.heap.size wr wm) (hg : wm.grownBy w1 v.ownBlock)
    {y : Hd} (hy : y = match t[k]? with | some h => h.nrm | none => hd0)
    (ho : w1.ownsRow (w.heap.size + 1 + 1 + 1) 643 56 v' (k + 1) ((fillH k t).flatMap Hd.vals ++ y.vals)) :
    RP w rv c t (k + 1) v' (w1.setCell ⟨w.heap.size + 1 + 1, 56, none⟩ v') := by
  have hne : ∀ b, b < w.heap.size + 1 + 1 + 1 → some b ≠ v.ownBlock := fun b hb => own_ne h.own hb
  have hs := h.sz
  have hmk : ∀ (b : Nat) (t : TypeId) (cs : Array Value), b < w.heap.size + 1 + 1 + 1 → Blk wr b t cs → Blk w1 b t cs := fun b t cs hb hk => by
    have h1 := hk.below hm hk.lt
    exact (hg.block b h1.lt (hne b hb)).trans h1
  have hb2 := (hmk _ _ _ (by omega) h.b2).set_ 56 v'
  have e : (Value.bool true :: (c ++ [v])).toArray.setIfInBounds 56 v' = (Value.bool true :: (c ++ [v'])).toArray := by
    simp [List.set_append, hcl]
  rw [e] at hb2
  have hB1 : Below w.heap.size w w1 := (h.bel.trans (hm.mono (by omega))).grown hg (by have := hm.size; omega) (fun q hq => by have := (h.own.lt q hq).1; omega)
  refine ⟨(hmk _ _ _ (by omega) h.b0).far (by first | (simp; done) | (simp; omega)) _, (hmk _ _ _ (by omega) h.b1).far (by first | (simp; done) | (simp; omega)) _, hb2, ?_, ?_, hB1.setCell (by simp; omega) _⟩
  · rw [fillH_snoc, ← hy, List.flatMap_append]
    refine own_block (by simpa using ho) (fun q hq => Below.heap_setCell _ _ _ _ ?_)
    have := (ho.lt q hq).1
    simp; omega
  · have := hm.size; have := hg.size; simp; omega

end Go.Proofs.YtdilbjikeilhbaaGreatDoor
namespace Go.Proofs.YtdilbjikeilhbaaGreatDoor
open Go.RowKit
set_option linter.unusedVariables false
set_option linter.unusedSimpArgs false

theorem row1 {w : World} {p : Addr} {v : Value} (h : w.cell? p = some v) : hasRow w p 1 = true ∧ rowOf w p 1 = [v] := by
  have h0 : p.add 0 = p := by obtain ⟨b, o, sp⟩ := p; unfold Addr.add; split <;> simp_all
  simp [hasRow, rowOf, h0, h]

def WordPost (l : List Rw) (w : World) (e : Ending) (w' : World) : Prop :=
  ∃ a cap, e = .returned (.agg #[.slice a l.length cap]) ∧ RdRs (w.heap.size ≤ ·) w' a l.length l ∧ l.length ≤ cap ∧ cap ≤ maxLen ∧ Below w.heap.size w w'
end Go.Proofs.YtdilbjikeilhbaaGreatDoor
namespace Go.Proofs.YtdilbjikeilhbaaGreatDoor
open Go.RowKit
set_option linter.unusedVariables false
set_option linter.unusedSimpArgs false

theorem RowsB.keep {S : Nat → Prop} {w w' : World} {g : Nat} {t : TypeId} {L : List Rw} (h : RowsB S w g t L) (hs : w.heap.size ≤ w'.heap.size) (hk : ∀ b, b = g ∨ S b → b < w.heap.size → w'.heap[b]? = w.heap[b]?) : RowsB S w' g t L := by
  obtain ⟨cs, h1, h2, h3⟩ := h
  refine ⟨cs, (hk g (.inl rfl) h1.lt).trans h1, h2, fun k r hr => ?_⟩
  obtain ⟨tv, h4, h5⟩ := h3 k r hr
  exact ⟨tv, h4, h5.keep hs fun b hb hl => hk b (.inr hb) hl⟩
theorem RowsB.mono {S S' : Nat → Prop} {w : World} {g : Nat} {t : TypeId} {L : List Rw} (h : RowsB S w g t L) (hs : ∀ b, b < w.heap.size → S b → S' b) : RowsB S' w g t L := by
  obtain ⟨cs, h1, h2, h3⟩ := h
  refine ⟨cs, h1, h2, fun k r hr => ?_⟩
  obtain ⟨tv, h4, h5⟩ := h3 k r hr
  exact ⟨tv, h4, h5.mono hs⟩
theorem RowsB.chg {S S' : Nat → Prop} {w w' : World} {g : Nat} {t : TypeId} {L : List Rw} (h : RowsB S w g t L) (hc : Chg S' w w') (hg : ¬ S' g) (hd : ∀ b, b < w.heap.size → S b → ¬ S' b) : RowsB S w' g t L :=
  h.keep hc.size fun b hb hl => hc.block b hl (by rcases hb with rfl | hb; exact hg; exact hd b hl hb)
theorem RowsB.row {S : Nat → Prop} {w : World} {g : Nat} {t : TypeId} {L : List Rw} (h : RowsB S w g t L) {k : Nat} {r : Rw} (hk : L[k]? = some r) (hr : r.ok) :
    ∃ tv, hasRow w ⟨g, k * 57, none⟩ 57 = true ∧ rowOf w ⟨g, k * 57, none⟩ 57 = r.vals tv ∧ YtdilbjikeilhbaaGreatDoor.canPut w ⟨g, k * 57, none⟩ 57 = true ∧ RowX S w r tv := by
  obtain ⟨cs, h1, h2, h3⟩ := h
  obtain ⟨tv, h4, h5⟩ := h3 k r hk
  have hkl : k < L.length := (List.getElem?_eq_some_iff.1 hk).1
  have hle : k * 57 + 57 ≤ cs.length := by
    have : (k + 1) * 57 ≤ L.length * 57 := Nat.mul_le_mul_right _ hkl
    omega
  obtain ⟨-, -, q3, q4, q5⟩ := h1.rules
  refine ⟨tv, by rw [q3]; simp; omega, ?_, by rw [q5]; simpa using hle, h5⟩
  rw [q4 _ _ hle]
  apply List.ext_getElem?
  intro i
  rw [List.getElem?_take, List.getElem?_drop]
  by_cases hi : i < 57
  · rw [if_pos hi, h4 i hi]
  · rw [if_neg hi, List.getElem?_eq_none (by rw [Rw.len hr]; omega)]

/-! ### Norm, the block known whole -/
def NormB (N : Nat) (l : List Rw) (w : World) (e : Ending) (w' : World) : Prop :=
  ∃ g, e = .returned (.agg #[.slice (some ⟨g, 0, none⟩) N N]) ∧ w.heap.size ≤ g ∧ RowsB (fun b => w.heap.size ≤ b ∧ b ≠ g) w' g 134 (tab N (inRow N l)) ∧ Below w.heap.size w w'
set_option maxRecDepth 100000 in
set_option maxHeartbeats 1000000 in
theorem norm_blk (S : Nat → Prop) (N : Nat) (hN : N ≤ 16) (a : Option Addr) (len cap : Nat) (l : List Rw) (w : World) (hrd : RdRs S w a len l) (hm1 : len ≤ cap) (hm2 : cap ≤ maxLen) :
    Calls Tryz.prog 185 #[.int .i64 N, .agg #[.slice a len cap]] w (NormB N l w) := by
  have hmf : ∀ (fn : Fn) (first cap : Array Value) (w : World), (Instr.makeFunc fn first cap).run Tryz.prog w = .ok (.func fn first cap) w := fun _ _ _ _ => rfl
  have HR := Lib.hid hrd
  clear hrd
  have hm : mayN N = true := by simp [mayN]; omega
  have HNN := Lib.hid hN
  go_enter Tryz.func185, Tryz.ntmps185
  go_wp2_with fail
  refine (may_any N _).mono ?_
  rintro e w' ⟨rfl, rfl⟩
  rw [hm]
  go_wp2_with fail
  have hB : Below w.heap.size w (((w.alloc (.cells #[.int .i64 N] 3)).alloc (.cells #[.slice a len cap] 61)).alloc (.cells #[.slice none 0 0] 61)) := (((Below.refl _ _).alloc (Nat.le_refl _) _).alloc (by simp) _).alloc (by simp; omega) _
  have h0 : (((w.alloc (.cells #[.int .i64 N] 3)).alloc (.cells #[.slice a len cap] 61)).alloc (.cells #[.slice none 0 0] 61)).cell? ⟨w.heap.size, 0, none⟩ = some (.int .i64 N) :=
    (((Blk.new w 3 #[Value.int .i64 N]).alloc _).alloc _).cell 0
  have h2 : Blk (((w.alloc (.cells #[.int .i64 N] 3)).alloc (.cells #[.slice a len cap] 61)).alloc (.cells #[.slice none 0 0] 61)) (w.heap.size + 1 + 1) 61 #[.slice none 0 0] := new2 w _ _ [.slice none 0 0] _
  have hsz : (((w.alloc (.cells #[.int .i64 N] 3)).alloc (.cells #[.slice a len cap] 61)).alloc (.cells #[.slice none 0 0] 61)).heap.size = w.heap.size + 1 + 1 + 1 := by simp
  generalize (((w.alloc (.cells #[.int .i64 N] 3)).alloc (.cells #[.slice a len cap] 61)).alloc (.cells #[.slice none 0 0] 61)) = w0 at hB h0 h2 hsz ⊢
  refine (fillr_any S N HNN.out w.heap.size a len cap l w0 h0 (by omega) (HR.out.below hB (fun _ _ h => h)) hm1 hm2).mono ?_
  rintro e w1 ⟨rfl, hrows, hb1⟩
  have k2 := h2.below hb1 h2.lt
  have c2 := k2.cell 0
  have z2 := k2.frozen 0
  simp at c2
  have hfin : NormB N l w (.returned (.agg #[.slice (some ⟨w0.heap.size, 0, none⟩) N N])) (w1.setCell ⟨w.heap.size + 1 + 1, 0, none⟩ (.slice (some ⟨w0.heap.size, 0, none⟩) N N)) := by
    rw [fillR_tab] at hrows
    refine ⟨_, rfl, by omega, ?_, (hB.trans (hb1.mono (by omega))).setCell (by simp; omega) _⟩
    have hc := (Chg.refl (· = w.heap.size + 1 + 1) w1).set_at 0 (.slice (some ⟨w0.heap.size, 0, none⟩) N N)
    exact (hrows.chg hc (by omega) (fun b _ h h' => by omega)).mono (fun b _ h => by omega)
  have hc : (w1.setCell ⟨w.heap.size + 1 + 1, 0, none⟩ (.slice (some ⟨w0.heap.size, 0, none⟩) N N)).cell? ⟨w.heap.size + 1 + 1, 0, none⟩ = some (.slice (some ⟨w0.heap.size, 0, none⟩) N N) := (k2.set_ 0 _).cell 0
  have HF := Lib.hid (And.intro hc hfin)
  clear hrows hb1 hfin k2 hB h0 h2 hc hsz
  go_wp2_with fail
  try simp only [Exit.inBlock, Exit.then]
  first | refine bodyPost_ret (ret_row (n := 1) rfl (by kernel_rfl) _ _ _ rfl ?_) rfl ?_ | refine bodyPost_end (ret_row (n := 1) rfl (by kernel_rfl) _ _ _ rfl ?_) rfl ?_
  · exact (row1 HF.out.1).1
  · rw [(row1 HF.out.1).2]; exact HF.out.2
end Go.Proofs.YtdilbjikeilhbaaGreatDoor
namespace Go.Proofs.YtdilbjikeilhbaaGreatDoor
open Go.RowKit
set_option linter.unusedVariables false
set_option linter.unusedSimpArgs false

theorem canPut_putL {w : World} {p : Addr} {l : List Value} (h : canPut w p l.length = true) (q : Addr) (n : Nat) : canPut (putRow w p l) q n = canPut w q n := by
  obtain ⟨pb, po, ps⟩ := p
  obtain ⟨qb, qo, qs⟩ := q
  by_cases e : qb = pb
  · subst e
    unfold canPut at h
    split at h
    · rename_i cur t hg
      simp only [Bool.and_eq_true, decide_eq_true_eq] at h
      have hp : (putRow w ⟨qb, po, ps⟩ l).heap[qb]? = some (.cells (cur.toList.take po ++ l ++ cur.toList.drop (po + l.length)).toArray t (0, 0)) := by
        have hb : Blk w qb t cur.toList.toArray := by unfold Blk; simpa using hg
        have := hb.put po l
        unfold Blk at this
        rw [← this]
        rfl
      unfold canPut
      simp only
      rw [hp, hg]
      have hle := h.2
      have : (cur.toList.take po ++ l ++ cur.toList.drop (po + l.length)).toArray.size = cur.size := by
        simp; omega
      simp only [this]
    · cases h
  · have : (putRow w ⟨pb, po, ps⟩ l).heap[qb]? = w.heap[qb]? := putRow_other _ _ _ _ e
    unfold canPut
    simp only
    rw [this]
theorem cell_put {w : World} {p q : Addr} {v : Value} {l : List Value} (h : w.cell? p = some v) (hne : p.block ≠ q.block) : (putRow w q l).cell? p = some v := (World.cell?_of_block (putRow_other _ _ _ _ hne)).trans h
theorem row_put {w : World} {p q : Addr} {n : Nat} {l : List Value} (hne : p.block ≠ q.block) : hasRow (putRow w q l) p n = hasRow w p n ∧ rowOf (putRow w q l) p n = rowOf w p n := row_block (putRow_other _ _ _ _ hne)

/-! ### structs of a lane -/
theorem ag_side : aggOf Tryz.prog 360 2 = true := by kernel_rfl
theorem ag_mom : aggOf Tryz.prog 363 4 = true := by kernel_rfl
section
variable (ρ : Operand → Value) (d : Option Tmp) (x y : Operand) (ty : TypeId) (s : String) (af : Array Edge) (g : Option (Nat × Bool)) (w : World)
@[go_sem ↓] theorem ld_side (h : hasRowV w 2 (ρ x) = true) :
    (execOp ρ { dst := d, op := .load 360 x, type := ty, pos := s, after := af, guard := g }).run Tryz.prog w = .ok (.value (.agg (rowV w 2 (ρ x)).toArray)) w := exec_load ag_side ρ d x ty s af g w h
@[go_sem ↓] theorem ld_mom (h : hasRowV w 4 (ρ x) = true) :
    (execOp ρ { dst := d, op := .load 363 x, type := ty, pos := s, after := af, guard := g }).run Tryz.prog w = .ok (.value (.agg (rowV w 4 (ρ x)).toArray)) w := exec_load ag_mom ρ d x ty s af g w h
@[go_sem ↓] theorem st_side (h1 : okAgg 2 (ρ y) = true) (h2 : canPutV w 2 (ρ x) = true) :
    (execOp ρ { dst := d, op := .store 360 x y, type := ty, pos := s, after := af, guard := g }).run Tryz.prog w = .ok .skip (putV w (ρ x) (ρ y)) := exec_store ag_side ρ d x y ty s af g w h1 h2
@[go_sem ↓] theorem st_mom (h1 : okAgg 4 (ρ y) = true) (h2 : canPutV w 4 (ρ x) = true) :
    (execOp ρ { dst := d, op := .store 363 x y, type := ty, pos := s, after := af, guard := g }).run Tryz.prog w = .ok .skip (putV w (ρ x) (ρ y)) := exec_store ag_mom ρ d x y ty s af g w h1 h2
end

@[go_sem ↓] theorem fld_word (v : Value) (w : World) : (Instr.field 61 (.agg #[v]) 0).run Tryz.prog w = .ok v w := by
  have hA := run_isAggB w ⟨_, Tryz.underlying59⟩
  have hg : isAggB Tryz.prog 59 = false := by kernel_rfl
  rw [hg] at hA
  unfold Instr.field
  simp only [Sem.run_bind, run_underlying Tryz.underlying61, Result.andThen_ok]
  simp [part, hA, asAgg]
@[go_sem ↓] theorem fld_side0 (a b : Value) (w : World) : (Instr.field 360 (.agg #[a, b]) 0).run Tryz.prog w = .ok a w := (by kernel_rfl)
@[go_sem ↓] theorem fld_side1 (a b : Value) (w : World) : (Instr.field 360 (.agg #[a, b]) 1).run Tryz.prog w = .ok b w := (by kernel_rfl)
@[go_sem ↓] theorem idx_mom0 (a b c d : Value) (w : World) : (Instr.index 363 (.agg #[a, b, c, d]) (.int .i64 0)).run Tryz.prog w = .ok (.agg #[a, b]) w := (by kernel_rfl)
@[go_sem ↓] theorem idx_mom1 (a b c d : Value) (w : World) : (Instr.index 363 (.agg #[a, b, c, d]) (.int .i64 1)).run Tryz.prog w = .ok (.agg #[c, d]) w := (by kernel_rfl)

set_option maxRecDepth 100000 in
set_option maxHeartbeats 400000 in
theorem distance_any (p n me way s : Nat) (w : World) (hn : w.cell? ⟨p, 0, none⟩ = some (.int .i64 n)) (hme : w.cell? ⟨p, 1, none⟩ = some (.int .i64 me)) (h4 : 4 ≤ n) (h16 : n ≤ 16) (hm : me < n) (hs : s < n) :
    Calls Tryz.prog 186 #[.pointer (some ⟨p, 0, none⟩), .int .i64 way, .int .i64 s] w fun e w' => e = .returned (.int .i64 (distM n me way s)) ∧ ∃ k, w' = w.drewN k := by
  have hn0 : ¬ (n : Int) = 0 := by omega
  unfold distM
  by_cases hw : way = 0
  · rw [if_pos hw]
    have hwb : ((way : Int) == 0) = true := by simp; omega
    have he : Hid (((me : Int) - s + n).tmod n = ((me + n - s) % n : Nat)) := Lib.hid (by rw [Int.tmod_eq_emod_of_nonneg (by omega)]; rw [show (me : Int) - s + n = ((me + n - s : Nat) : Int) from by omega]; norm_cast)
    have he2 : Hid (((me : Int) - s + n) % n = ((me + n - s) % n : Nat)) := Lib.hid (by rw [show (me : Int) - s + n = ((me + n - s : Nat) : Int) from by omega]; norm_cast)
    clear hw
    go_enter Tryz.func186, Tryz.ntmps186
    go_wp2
    go_quiet (fail)
    go_wp2
    go_ret
    exact ⟨by first | (rw [he.out]; rfl) | (rw [he2.out]; rfl), _, rfl⟩
  · rw [if_neg hw]
    have hwb : ((way : Int) == 0) = false := by simp; omega
    have he : Hid (((s : Int) - me + n).tmod n = ((s + n - me) % n : Nat)) := Lib.hid (by rw [Int.tmod_eq_emod_of_nonneg (by omega)]; rw [show (s : Int) - me + n = ((s + n - me : Nat) : Int) from by omega]; norm_cast)
    have he2 : Hid (((s : Int) - me + n) % n = ((s + n - me) % n : Nat)) := Lib.hid (by rw [show (s : Int) - me + n = ((s + n - me : Nat) : Int) from by omega]; norm_cast)
    clear hw
    go_enter Tryz.func186, Tryz.ntmps186
    go_wp2
    go_quiet (fail)
    go_wp2
    go_ret
    exact ⟨by first | (rw [he.out]; rfl) | (rw [he2.out]; rfl), _, rfl⟩
end Go.Proofs.YtdilbjikeilhbaaGreatDoor
