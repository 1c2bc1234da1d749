/-
  Where a lane lies; what was so many ticks ago.
-/
import Derived.Test.YtopakilglnpinaaGc21
import Derived.Test.YtopakilglnpinaaGc22
namespace Go.Proofs.Ytopakilglnpinaa
open Go.RowKit
set_option linter.unusedVariables false
set_option linter.unusedSimpArgs false

def momCells (n T : Nat) (G : Nat → Nat) : List Value := (List.range (4 * (n + 1))).map fun k => if k / 4 < T then .slice (some ⟨G k, 0, none⟩) n n else .slice none 0 0
theorem momCells_len (n T : Nat) (G : Nat → Nat) : (momCells n T G).length = 4 * (n + 1) := by simp [momCells]
theorem momCells_at {n T : Nat} {G : Nat → Nat} {k : Nat} (h : k < 4 * (n + 1)) : (momCells n T G)[k]? = some (if k / 4 < T then .slice (some ⟨G k, 0, none⟩) n n else .slice none 0 0) := by simp [momCells, h]
/-- is that list there? -/
def Made (n T k : Nat) : Prop := k < 4 * (n + 1) ∧ k / 4 < T
/-- where the tables may lie -/
def TabS (S : Nat → Prop) (p gp : Nat) (G : Nat → Nat) (n T : Nat) (b : Nat) : Prop := S b ∧ b ≠ p ∧ b ≠ gp ∧ ∀ k, Made n T k → b ≠ G k
def laneV (L : LaneM) (gp : Nat) : List Value := [.int .i64 L.n, .int .i64 L.me, .int .i64 L.T, .bool L.b, .slice (some ⟨gp, 0, none⟩) (L.n + 1) (L.n + 1)]
structure LaneAt (S : Nat → Prop) (w : World) (p gp : Nat) (G : Nat → Nat) (L : LaneM) : Prop where
  b : Blk w p 85 (laneV L gp).toArray
  g : Blk w gp 95 (momCells L.n L.T G).toArray
  r : ∀ k, Made L.n L.T k → RowsB (TabS S p gp G L.n L.T) w (G k) 54 (tab L.n (L.past (k / 4) (k % 4)))
  sp : S p
  sg : S gp
  sr : ∀ k, Made L.n L.T k → S (G k)
  inj : ∀ k k', Made L.n L.T k → Made L.n L.T k' → G k = G k' → k = k'
  lt : ∀ b, S b → b < w.heap.size
  bd : 4 ≤ L.n ∧ L.n ≤ 16 ∧ L.me < L.n
  ok : L.okP
  okt : L.okT
theorem LaneAt.keep {S : Nat → Prop} {w w' : World} {p gp : Nat} {G : Nat → Nat} {L : LaneM} (h : LaneAt S w p gp G L) (hs : w.heap.size ≤ w'.heap.size) (hk : ∀ b, S b → b < w.heap.size → w'.heap[b]? = w.heap[b]?) : LaneAt S w' p gp G L :=
  ⟨(hk p h.sp h.b.lt).trans h.b, (hk gp h.sg h.g.lt).trans h.g, fun k hm => (h.r k hm).keep hs fun b hb hl => hk b (by rcases hb with rfl | hb; exact h.sr k hm; exact hb.1) hl, h.sp, h.sg, h.sr, h.inj, fun b hb => Nat.lt_of_lt_of_le (h.lt b hb) hs, h.bd, h.ok, h.okt⟩
theorem LaneAt.below {S : Nat → Prop} {w w' : World} {p gp : Nat} {G : Nat → Nat} {L : LaneM} (h : LaneAt S w p gp G L) (hb : Below w.heap.size w w') : LaneAt S w' p gp G L := h.keep hb.size fun b _ hl => hb.block b hl
theorem LaneAt.cells {S : Nat → Prop} {w : World} {p gp : Nat} {G : Nat → Nat} {L : LaneM} (h : LaneAt S w p gp G L) :
    w.cell? ⟨p, 0, none⟩ = some (.int .i64 L.n) ∧ w.cell? ⟨p, 1, none⟩ = some (.int .i64 L.me) ∧ w.cell? ⟨p, 2, none⟩ = some (.int .i64 L.T) ∧ w.cell? ⟨p, 3, none⟩ = some (.bool L.b) ∧ w.cell? ⟨p, 4, none⟩ = some (.slice (some ⟨gp, 0, none⟩) (L.n + 1) (L.n + 1)) := by
  obtain ⟨q, -⟩ := h.b.rules
  exact ⟨by rw [q]; rfl, by rw [q]; rfl, by rw [q]; rfl, by rw [q]; rfl, by rw [q]; rfl⟩
def slV (g n : Nat) : Value := .slice (some ⟨g, 0, none⟩) n n
/-- a tick's four lists -/
def momV (G : Nat → Nat) (n j : Nat) : List Value := [slV (G (4 * j)) n, slV (G (4 * j + 1)) n, slV (G (4 * j + 2)) n, slV (G (4 * j + 3)) n]
theorem LaneAt.mom {S : Nat → Prop} {w : World} {p gp : Nat} {G : Nat → Nat} {L : LaneM} (h : LaneAt S w p gp G L) {j : Nat} (hj : j < L.n + 1) (hT : j < L.T) :
    hasRow w ⟨gp, j * 4, none⟩ 4 = true ∧ rowOf w ⟨gp, j * 4, none⟩ 4 = momV G L.n j := by
  obtain ⟨-, -, q3, q4, -⟩ := h.g.rules
  have hl := momCells_len L.n L.T G
  refine ⟨by rw [q3]; simp; omega, ?_⟩
  rw [q4 _ _ (by omega)]
  have e : ∀ i, i < 4 → (momCells L.n L.T G)[j * 4 + i]? = some (slV (G (4 * j + i)) L.n) := fun i hi => by
    rw [momCells_at (by omega), if_pos (by omega), show j * 4 + i = 4 * j + i from by omega]; rfl
  apply List.ext_getElem?
  intro i
  rw [List.getElem?_take, List.getElem?_drop]
  by_cases hi : i < 4
  · rw [if_pos hi, e i hi]
    have : i = 0 ∨ i = 1 ∨ i = 2 ∨ i = 3 := by omega
    rcases this with rfl | rfl | rfl | rfl <;> rfl
  · rw [if_neg hi, List.getElem?_eq_none (by simp [momV]; omega)]

def WasPost (mv : List Value) (w : World) (e : Ending) (w' : World) : Prop := e = .returned (.agg mv.toArray) ∧ Below w.heap.size w w'
set_option maxRecDepth 100000 in
set_option maxHeartbeats 1000000 in
theorem was_any (p gp cl cn n now ago j : Nat) (mv : List Value) (w : World) (hn : w.cell? ⟨p, 0, none⟩ = some (.int .i64 n)) (hpast : w.cell? ⟨p, 4, none⟩ = some (.slice (some ⟨gp, 0, none⟩) (n + 1) (n + 1)))
    (hcl : w.cell? ⟨cl, 0, none⟩ = some (.pointer (some ⟨p, 0, none⟩))) (hcn : w.cell? ⟨cn, 0, none⟩ = some (.int .i64 now)) (hm1 : hasRow w ⟨gp, j * 4, none⟩ 4 = true) (hm2 : rowOf w ⟨gp, j * 4, none⟩ 4 = mv) (hl : mv.length = 4) (hc1 : mv.all cell1 = true)
    (h4 : 4 ≤ n) (h16 : n ≤ 16) (hago : ago ≤ now) (hnow : now ≤ 1000000000) (hj : j = (now - ago) % (n + 1)) (hp : p < w.heap.size ∧ gp < w.heap.size ∧ cl < w.heap.size ∧ cn < w.heap.size) :
    Calls Try.prog 23 #[.int .i64 ago, .pointer (some ⟨cl, 0, none⟩), .pointer (some ⟨cn, 0, none⟩)] w (WasPost mv w) := by
  have F0 : Hid (∀ w' : World, Below w.heap.size w w' → w'.cell? ⟨p, 0, none⟩ = some (.int .i64 n) ∧ w'.cell? ⟨p, 4, none⟩ = some (.slice (some ⟨gp, 0, none⟩) (n + 1) (n + 1)) ∧ w'.cell? ⟨cl, 0, none⟩ = some (.pointer (some ⟨p, 0, none⟩)) ∧ w'.cell? ⟨cn, 0, none⟩ = some (.int .i64 now) ∧ hasRow w' ⟨gp, j * 4, none⟩ 4 = true ∧ rowOf w' ⟨gp, j * 4, none⟩ 4 = mv) := Lib.hid fun w' h => by
    have hr := row_below h (p := ⟨gp, j * 4, none⟩) hp.2.1 4
    exact ⟨(h.cell (p := ⟨p, 0, none⟩) hp.1).trans hn, (h.cell (p := ⟨p, 4, none⟩) hp.1).trans hpast, (h.cell (p := ⟨cl, 0, none⟩) hp.2.2.1).trans hcl, (h.cell (p := ⟨cn, 0, none⟩) hp.2.2.2).trans hcn, hr.1.trans hm1, hr.2.trans hm2⟩
  have hjn : j < n + 1 := by rw [hj]; exact Nat.mod_lt _ (by omega)
  have he : Hid (((now : Int) - ago).tmod (n + 1) = (j : Int)) := Lib.hid (by rw [hj, Int.tmod_eq_emod_of_nonneg (by omega)]; rw [show (now : Int) - ago = ((now - ago : Nat) : Int) from by omega]; norm_cast)
  have he2 : Hid (((now : Int) - ago) % (n + 1) = (j : Int)) := Lib.hid (by rw [hj]; rw [show (now : Int) - ago = ((now - ago : Nat) : Int) from by omega]; norm_cast)
  clear hn hpast hcl hcn hm1 hm2 hj
  go_enter Try.func23, Try.ntmps23
  go_upto_region 1 with fail
  have w1 : IntKind.i64.wrap ((now : Int) - ago) = (now : Int) - ago := IntWalk.i64_in _ (by omega)
  have w2 : IntKind.i64.wrap ((n : Int) + 1) = (n : Int) + 1 := IntWalk.i64_in _ (by omega)
  have e1 : ((now : Int) - ago).tmod (n + 1) = (j : Int) := he.out
  have e2 : ((now : Int) - ago) % (n + 1) = (j : Int) := he2.out
  have e3 : ¬ ((n : Int) + 1 = 0) := by omega
  have e4 : (j : Int) < n + 1 := by omega
  have e5 : (0 : Int) ≤ j := by omega
  have hsz : Hid (w.heap.size ≤ w.heap.size) := Lib.hid (Nat.le_refl _)
  have HB : Hid (Below w.heap.size w (w.alloc (.cells #[Value.slice none 0 0, Value.slice none 0 0, Value.slice none 0 0, Value.slice none 0 0] 95))) := Lib.hid ((Below.refl _ _).alloc (Nat.le_refl _) _)
  have HB2 : Hid (Below w.heap.size w (w.alloc (.cells mv.toArray 95))) := Lib.hid ((Below.refl _ _).alloc (Nat.le_refl _) _)
  go_region_held3 (fun w' => w'.cell? ⟨p, 0, none⟩ = some (.int .i64 n) ∧ w'.cell? ⟨p, 4, none⟩ = some (.slice (some ⟨gp, 0, none⟩) (n + 1) (n + 1)) ∧ w'.cell? ⟨cl, 0, none⟩ = some (.pointer (some ⟨p, 0, none⟩)) ∧ w'.cell? ⟨cn, 0, none⟩ = some (.int .i64 now) ∧ hasRow w' ⟨gp, j * 4, none⟩ 4 = true ∧ rowOf w' ⟨gp, j * 4, none⟩ 4 = mv)
    (first | exact F0.out _ HB.out.drew | exact F0.out _ HB2.out.drew | exact F0.out _ HB2.out)
    (fail)
  go_wp2_with fail
  try simp only [Exit.inBlock, Exit.then]
  obtain ⟨q1, q2, -⟩ := ((Blk.new w 95 mv.toArray).drew).whole (n := 4) hl
  first | refine bodyPost_ret (ret_row (n := 4) rfl (by kernel_rfl) _ _ _ rfl ?_) rfl ?_ | refine bodyPost_end (ret_row (n := 4) rfl (by kernel_rfl) _ _ _ rfl ?_) rfl ?_
  · exact q1
  · rw [q2]; exact ⟨rfl, HB2.out.drew⟩
end Go.Proofs.Ytopakilglnpinaa
