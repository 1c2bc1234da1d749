/-
  Where a lane lies; what was so many ticks ago. A list of rows in a block of the call's own.
-/
import Derived.Test.YtnckfjmaochnkaaGreatDoorGd10
import Derived.Test.YtnckfjmaochnkaaGreatDoorGd12
import Derived.Test.YtnckfjmaochnkaaGreatDoorGd08
import Derived.Test.YtnckfjmaochnkaaGreatDoorGd11
namespace Go.Proofs.YtnckfjmaochnkaaGreatDoor
open Go.RowKit
set_option linter.unusedVariables false
set_option linter.unusedSimpArgs false

def momCells (n T : Nat) (G : Nat → Nat) : List Value := (List.range (4 * (n + 1))).map fun k => if k / 4 < T then .slice (some ⟨G k, 0, none⟩) n n else .slice none 0 0
theorem momCells_len (n T : Nat) (G : Nat → Nat) : (momCells n T G).length = 4 * (n + 1) := by simp [momCells]
theorem momCells_at {n T : Nat} {G : Nat → Nat} {k : Nat} (h : k < 4 * (n + 1)) : (momCells n T G)[k]? = some (if k / 4 < T then .slice (some ⟨G k, 0, none⟩) n n else .slice none 0 0) := by simp [momCells, h]
/-- is that list there? -/
def Made (n T k : Nat) : Prop := k < 4 * (n + 1) ∧ k / 4 < T
/-- where the tables may lie -/
def TabS (S : Nat → Prop) (p gp : Nat) (G : Nat → Nat) (n T : Nat) (b : Nat) : Prop := S b ∧ b ≠ p ∧ b ≠ gp ∧ ∀ k, Made n T k → b ≠ G k
def laneV (L : LaneM) (gp : Nat) : List Value := [.int .i64 L.n, .int .i64 L.me, .int .i64 L.T, .bool L.b, .slice (some ⟨gp, 0, none⟩) (L.n + 1) (L.n + 1)]
structure LaneAt (S : Nat → Prop) (w : World) (p gp : Nat) (G : Nat → Nat) (L : LaneM) : Prop where
  b : Blk w p 142 (laneV L gp).toArray
  g : Blk w gp 147 (momCells L.n L.T G).toArray
  r : ∀ k, Made L.n L.T k → RowsB (TabS S p gp G L.n L.T) w (G k) 118 (tab L.n (L.past (k / 4) (k % 4)))
  sp : S p
  sg : S gp
  sr : ∀ k, Made L.n L.T k → S (G k)
  inj : ∀ k k', Made L.n L.T k → Made L.n L.T k' → G k = G k' → k = k'
  lt : ∀ b, S b → b < w.heap.size
  bd : 4 ≤ L.n ∧ L.n ≤ 16 ∧ L.me < L.n
  ok : L.okP
  okt : L.okT
theorem LaneAt.keep {S : Nat → Prop} {w w' : World} {p gp : Nat} {G : Nat → Nat} {L : LaneM} (h : LaneAt S w p gp G L) (hs : w.heap.size ≤ w'.heap.size) (hk : ∀ b, S b → b < w.heap.size → w'.heap[b]? = w.heap[b]?) : LaneAt S w' p gp G L :=
  ⟨(hk p h.sp h.b.lt).trans h.b, (hk gp h.sg h.g.lt).trans h.g, fun k hm => (h.r k hm).keep hs fun b hb hl => hk b (by rcases hb with rfl | hb; exact h.sr k hm; exact hb.1) hl, h.sp, h.sg, h.sr, h.inj, fun b hb => Nat.lt_of_lt_of_le (h.lt b hb) hs, h.bd, h.ok, h.okt⟩
theorem LaneAt.below {S : Nat → Prop} {w w' : World} {p gp : Nat} {G : Nat → Nat} {L : LaneM} (h : LaneAt S w p gp G L) (hb : Below w.heap.size w w') : LaneAt S w' p gp G L := h.keep hb.size fun b _ hl => hb.block b hl
theorem LaneAt.cells {S : Nat → Prop} {w : World} {p gp : Nat} {G : Nat → Nat} {L : LaneM} (h : LaneAt S w p gp G L) :
    w.cell? ⟨p, 0, none⟩ = some (.int .i64 L.n) ∧ w.cell? ⟨p, 1, none⟩ = some (.int .i64 L.me) ∧ w.cell? ⟨p, 2, none⟩ = some (.int .i64 L.T) ∧ w.cell? ⟨p, 3, none⟩ = some (.bool L.b) ∧ w.cell? ⟨p, 4, none⟩ = some (.slice (some ⟨gp, 0, none⟩) (L.n + 1) (L.n + 1)) := by
  obtain ⟨q, -⟩ := h.b.rules
  exact ⟨by rw [q]; rfl, by rw [q]; rfl, by rw [q]; rfl, by rw [q]; rfl, by rw [q]; rfl⟩
def slV (g n : Nat) : Value := .slice (some ⟨g, 0, none⟩) n n
/-- a tick's four lists -/
def momV (G : Nat → Nat) (n j : Nat) : List Value := [slV (G (4 * j)) n, slV (G (4 * j + 1)) n, slV (G (4 * j + 2)) n, slV (G (4 * j + 3)) n]
theorem LaneAt.mom {S : Nat → Prop} {w : World} {p gp : Nat} {G : Nat → Nat} {L : LaneM} (h : LaneAt S w p gp G L) {j : Nat} (hj : j < L.n + 1) (hT : j < L.T) :
    hasRow w ⟨gp, j * 4, none⟩ 4 = true ∧ rowOf w ⟨gp, j * 4, none⟩ 4 = momV G L.n j := by
  obtain ⟨-, -, q3, q4, -⟩ := h.g.rules
  have hl := momCells_len L.n L.T G
  refine ⟨by rw [q3]; simp; omega, ?_⟩
  rw [q4 _ _ (by omega)]
  have e : ∀ i, i < 4 → (momCells L.n L.T G)[j * 4 + i]? = some (slV (G (4 * j + i)) L.n) := fun i hi => by
    rw [momCells_at (by omega), if_pos (by omega), show j * 4 + i = 4 * j + i from by omega]; rfl
  apply List.ext_getElem?
  intro i
  rw [List.getElem?_take, List.getElem?_drop]
  by_cases hi : i < 4
  · rw [if_pos hi, e i hi]
    have : i = 0 ∨ i = 1 ∨ i = 2 ∨ i = 3 := by omega
    rcases this with rfl | rfl | rfl | rfl <;> rfl
  · rw [if_neg hi, List.getElem?_eq_none (by simp [momV]; omega)]

def WasPost (mv : List Value) (w : World) (e : Ending) (w' : World) : Prop := e = .returned (.agg mv.toArray) ∧ Below w.heap.size w w'
set_option maxRecDepth 100000 in
set_option maxHeartbeats 1000000 in
theorem was_any (p gp cl cn n now ago j : Nat) (mv : List Value) (w : World) (hn : w.cell? ⟨p, 0, none⟩ = some (.int .i64 n)) (hpast : w.cell? ⟨p, 4, none⟩ = some (.slice (some ⟨gp, 0, none⟩) (n + 1) (n + 1)))
    (hcl : w.cell? ⟨cl, 0, none⟩ = some (.pointer (some ⟨p, 0, none⟩))) (hcn : w.cell? ⟨cn, 0, none⟩ = some (.int .i64 now)) (hm1 : hasRow w ⟨gp, j * 4, none⟩ 4 = true) (hm2 : rowOf w ⟨gp, j * 4, none⟩ 4 = mv) (hl : mv.length = 4) (hc1 : mv.all cell1 = true)
    (h4 : 4 ≤ n) (h16 : n ≤ 16) (hago : ago ≤ now) (hnow : now ≤ 1000000000) (hj : j = (now - ago) % (n + 1)) (hp : p < w.heap.size ∧ gp < w.heap.size ∧ cl < w.heap.size ∧ cn < w.heap.size) :
    Calls Tryz.prog 40 #[.int .i64 ago, .pointer (some ⟨cl, 0, none⟩), .pointer (some ⟨cn, 0, none⟩)] w (WasPost mv w) := by
  have F0 : Hid (∀ w' : World, Below w.heap.size w w' → w'.cell? ⟨p, 0, none⟩ = some (.int .i64 n) ∧ w'.cell? ⟨p, 4, none⟩ = some (.slice (some ⟨gp, 0, none⟩) (n + 1) (n + 1)) ∧ w'.cell? ⟨cl, 0, none⟩ = some (.pointer (some ⟨p, 0, none⟩)) ∧ w'.cell? ⟨cn, 0, none⟩ = some (.int .i64 now) ∧ hasRow w' ⟨gp, j * 4, none⟩ 4 = true ∧ rowOf w' ⟨gp, j * 4, none⟩ 4 = mv) := Lib.hid fun w' h => by
    have hr := row_below h (p := ⟨gp, j * 4, none⟩) hp.2.1 4
    exact ⟨(h.cell (p := ⟨p, 0, none⟩) hp.1).trans hn, (h.cell (p := ⟨p, 4, none⟩) hp.1).trans hpast, (h.cell (p := ⟨cl, 0, none⟩) hp.2.2.1).trans hcl, (h.cell (p := ⟨cn, 0, none⟩) hp.2.2.2).trans hcn, hr.1.trans hm1, hr.2.trans hm2⟩
  have hjn : j < n + 1 := by rw [hj]; exact Nat.mod_lt _ (by omega)
  have he : Hid (((now : Int) - ago).tmod (n + 1) = (j : Int)) := Lib.hid (by rw [hj, Int.tmod_eq_emod_of_nonneg (by omega)]; rw [show (now : Int) - ago = ((now - ago : Nat) : Int) from by omega]; norm_cast)
  have he2 : Hid (((now : Int) - ago) % (n + 1) = (j : Int)) := Lib.hid (by rw [hj]; rw [show (now : Int) - ago = ((now - ago : Nat) : Int) from by omega]; norm_cast)
  clear hn hpast hcl hcn hm1 hm2 hj
  go_enter Tryz.func40, Tryz.ntmps40
  go_upto_region 1 with fail
  have w1 : IntKind.i64.wrap ((now : Int) - ago) = (now : Int) - ago := IntWalk.i64_in _ (by omega)
  have w2 : IntKind.i64.wrap ((n : Int) + 1) = (n : Int) + 1 := IntWalk.i64_in _ (by omega)
  have e1 : ((now : Int) - ago).tmod (n + 1) = (j : Int) := he.out
  have e2 : ((now : Int) - ago) % (n + 1) = (j : Int) := he2.out
  have e3 : ¬ ((n : Int) + 1 = 0) := by omega
  have e4 : (j : Int) < n + 1 := by omega
  have e5 : (0 : Int) ≤ j := by omega
  have hsz : Hid (w.heap.size ≤ w.heap.size) := Lib.hid (Nat.le_refl _)
  have HB : Hid (Below w.heap.size w (w.alloc (.cells #[Value.slice none 0 0, Value.slice none 0 0, Value.slice none 0 0, Value.slice none 0 0] 147))) := Lib.hid ((Below.refl _ _).alloc (Nat.le_refl _) _)
  have HB2 : Hid (Below w.heap.size w (w.alloc (.cells mv.toArray 147))) := Lib.hid ((Below.refl _ _).alloc (Nat.le_refl _) _)
  go_region_held3 (fun w' => w'.cell? ⟨p, 0, none⟩ = some (.int .i64 n) ∧ w'.cell? ⟨p, 4, none⟩ = some (.slice (some ⟨gp, 0, none⟩) (n + 1) (n + 1)) ∧ w'.cell? ⟨cl, 0, none⟩ = some (.pointer (some ⟨p, 0, none⟩)) ∧ w'.cell? ⟨cn, 0, none⟩ = some (.int .i64 now) ∧ hasRow w' ⟨gp, j * 4, none⟩ 4 = true ∧ rowOf w' ⟨gp, j * 4, none⟩ 4 = mv)
    (first | exact F0.out _ HB.out.drew | exact F0.out _ HB2.out.drew | exact F0.out _ HB2.out)
    (fail)
  go_wp2_with fail
  try simp only [Exit.inBlock, Exit.then]
  obtain ⟨q1, q2, -⟩ := ((Blk.new w 147 mv.toArray).drew).whole (n := 4) hl
  first | refine bodyPost_ret (ret_row (n := 4) rfl (by kernel_rfl) _ _ _ rfl ?_) rfl ?_ | refine bodyPost_end (ret_row (n := 4) rfl (by kernel_rfl) _ _ _ rfl ?_) rfl ?_
  · exact q1
  · rw [q2]; exact ⟨rfl, HB2.out.drew⟩
end Go.Proofs.YtnckfjmaochnkaaGreatDoor
namespace Go.Proofs.YtnckfjmaochnkaaGreatDoor
open Go.RowKit
set_option linter.unusedVariables false
set_option linter.unusedSimpArgs false

/-! ### a list of rows in a block of the call's own -/
theorem len_flatP {ps : List (Rw × Value)} (h : ∀ p ∈ ps, p.1.ok) : (flatP ps).length = ps.length * 57 := by
  unfold flatP
  induction ps with
  | nil => rfl
  | cons x l ih => rw [List.flatMap_cons, List.length_append, Rw.len (h x (by simp)), ih (fun y hy => h y (by simp [hy])), List.length_cons, Nat.succ_mul, Nat.add_comm]
theorem flatP_set {ps : List (Rw × Value)} (h : ∀ p ∈ ps, p.1.ok) {k : Nat} (hk : k < ps.length) (x : Rw × Value) (hx : x.1.ok) : (flatP ps).take (k * 57) ++ x.1.vals x.2 ++ (flatP ps).drop (k * 57 + 57) = flatP (ps.set k x) := by
  induction ps generalizing k with
  | nil => simp at hk
  | cons y l ih =>
    have hy := Rw.len (h y (by simp)) y.2
    cases k with
    | zero =>
      simp only [Nat.zero_mul, List.set_cons_zero, flatP, List.flatMap_cons, List.take_zero, List.nil_append, Nat.zero_add]
      rw [← hy, List.drop_left]
    | succ k =>
      have := ih (fun z hz => h z (by simp [hz])) (k := k) (by simpa using hk)
      simp only [List.set_cons_succ, flatP, List.flatMap_cons] at this ⊢
      rw [← this]
      rw [show (k + 1) * 57 = (y.1.vals y.2).length + k * 57 from by omega, List.take_append, List.drop_append]
      simp [Nat.add_sub_cancel_left, List.take_of_length_le (show (y.1.vals y.2).length ≤ (y.1.vals y.2).length + k * 57 by omega), Nat.add_assoc]
/-- block g of the call's own holds rows -/
structure HB (W : World) (g : Nat) (S : Nat → Prop) (ps : List (Rw × Value)) (w : World) : Prop where
  b : ∃ rest : List Value, Blk w g 118 (flatP ps ++ rest).toArray
  ps : ∀ p ∈ ps, p.1.ok ∧ RowR S w p.1 p.2
  lt : W.heap.size ≤ g
  no : ¬ S g
  bel : Below W.heap.size W w
theorem HB.drew {W : World} {g : Nat} {S : Nat → Prop} {ps : List (Rw × Value)} {w : World} (h : HB W g S ps w) : HB W g S ps w.drew := ⟨h.b, h.ps, h.lt, h.no, h.bel.drew⟩
theorem HB.rd {W : World} {g : Nat} {S : Nat → Prop} {ps : List (Rw × Value)} {w : World} (h : HB W g S ps w) : RdRs (fun b => b = g ∨ S b) w (some ⟨g, 0, none⟩) ps.length (ps.map Prod.fst) := by
  obtain ⟨rest, hb⟩ := h.b
  refine ⟨by simp, fun r hr => ?_, fun k r hk => ?_⟩
  · obtain ⟨p, hp, rfl⟩ := List.mem_map.1 hr
    exact (h.ps p hp).1
  · rw [List.getElem?_map, Option.map_eq_some_iff] at hk
    obtain ⟨p, hk, rfl⟩ := hk
    have hkl : k < ps.length := (List.getElem?_eq_some_iff.1 hk).1
    obtain ⟨hpo, x, m, c2, hpv, h5, h6, h7⟩ := h.ps p (List.mem_of_getElem? hk)
    have hlen := Rw.len hpo p.2
    have hfl := len_flatP (fun p hp => (h.ps p hp).1)
    have hrow := row_of_cells (w := w) (p := ⟨g, 0 + k * 57, none⟩) (l := p.1.vals p.2) (fun j u hu => by
      have hj : j < 57 := by rw [← hlen]; exact (List.getElem?_eq_some_iff.1 hu).1
      have hin : k * 57 + 57 ≤ ps.length * 57 := by
        have : (k + 1) * 57 ≤ ps.length * 57 := Nat.mul_le_mul_right _ (by omega)
        omega
      rw [add_at, hb.cell, show 0 + k * 57 + j = k * 57 + j from by omega]
      have := flatP_at (fun p hp => (h.ps p hp).1) hk hj
      simp only [List.getElem?_toArray]
      rw [List.getElem?_append_left (by omega), this, hu])
    rw [hlen, hpv] at hrow
    exact ⟨g, 0, x, m, c2, rfl, .inl rfl, hb.lt, hrow.1, hrow.2, h5.mono (fun b _ h => .inr h), h6, h7⟩
theorem HB.set_ {W : World} {g : Nat} {S : Nat → Prop} {ps : List (Rw × Value)} {w : World} (h : HB W g S ps w) {i : Nat} (hi : i < ps.length) {r : Rw} {tv : Value} (hr : r.ok) (ht : RowR S w r tv) :
    canPut w ⟨g, i * 57, none⟩ 57 = true ∧ HB W g S (ps.set i (r, tv)) (putRow w ⟨g, i * 57, none⟩ (r.vals tv)) := by
  obtain ⟨rest, hb⟩ := h.b
  have hok : ∀ p ∈ ps, p.1.ok := fun p hp => (h.ps p hp).1
  have hl := len_flatP hok
  have hx1 := Rw.len hr tv
  have hin : i * 57 + 57 ≤ ps.length * 57 := by
    have : (i + 1) * 57 ≤ ps.length * 57 := Nat.mul_le_mul_right _ (by omega)
    omega
  have hk : ∀ {r' : Rw} {tv' : Value}, RowR S w r' tv' → RowR S (putRow w ⟨g, i * 57, none⟩ (r.vals tv)) r' tv' := fun {r' tv'} h' => h'.keep (by simp) (fun b hSb _ => putRow_other _ _ _ _ (by rintro rfl; exact h.no hSb))
  refine ⟨?_, ⟨⟨rest, ?_⟩, fun p hp => ?_, h.lt, h.no, Below.put h.bel (p := ⟨g, i * 57, none⟩) h.lt _⟩⟩
  · rw [hb.rules.2.2.2.2, List.length_append, hl]; simp; omega
  · have h2 := hb.put (i * 57) (r.vals tv)
    have hs := flatP_set hok hi (r, tv) hr
    rw [hx1, List.take_append_of_le_length (by omega), List.drop_append_of_le_length (by omega), ← List.append_assoc, hs] at h2
    exact h2
  · rcases List.mem_or_eq_of_mem_set hp with hp | rfl
    · exact ⟨hok p hp, hk (h.ps p hp).2⟩
    · exact ⟨hr, hk ht⟩
/-- what was made by an append onto nothing -/
theorem HB.of_own {W w : World} {g cap n : Nat} {S : Nat → Prop} {ps : List (Rw × Value)} {base : Nat} (ho : w.ownsRow base 118 57 (.slice (some ⟨g, 0, none⟩) n cap) n (flatP ps)) (hp : ∀ p ∈ ps, p.1.ok ∧ RowR S w p.1 p.2) (hg : W.heap.size ≤ g) (hS : ¬ S g) (hb : Below W.heap.size W w) : HB W g S ps w := by
  rcases ho.2 with ⟨h, -⟩ | ⟨g', cap', cur, he, h1, h2, h3, h4, h5, h6⟩
  · cases h
  · cases he
    refine ⟨⟨cur.toList.drop (n * 57), ?_⟩, hp, hg, hS, hb⟩
    have e : (flatP ps ++ cur.toList.drop (n * 57)).toArray = cur := by
      rw [← h6, List.take_append_drop]
    rw [e]
    exact h2
end Go.Proofs.YtnckfjmaochnkaaGreatDoor
