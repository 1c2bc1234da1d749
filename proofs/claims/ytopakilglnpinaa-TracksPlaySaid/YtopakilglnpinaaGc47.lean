/-
  What TracksPlay stands on: a word as the document has it; rows that are spoiled; where two lanes lie.
-/
import Derived.Test.YtopakilglnpinaaGc35
import Derived.Test.YtopakilglnpinaaGc37
import Derived.Test.YtopakilglnpinaaGc41
import Derived.Test.YtopakilglnpinaaGc46
namespace Go.Proofs.Ytopakilglnpinaa
open Go.RowKit
set_option linter.unusedVariables false
set_option linter.unusedSimpArgs false

set_option maxRecDepth 100000 in
set_option maxHeartbeats 1000000 in
theorem other14_any (S : Nat → Prop) (a : Option Addr) (len cap : Nat) (l : List Rw) (w : World) (hrd : RdRs S w a len l) (hm1 : len ≤ cap) (hm2 : cap ≤ maxLen) (hbig : len ≤ 100000) (hbt : ∀ r ∈ l, r.t.length ≤ 100000) :
    Calls Try.prog 12 #[.agg #[.slice a len cap]] w (WordPost l w) := by
  have hll := hrd.1
  subst hll
  have HR := Lib.hid hrd
  have HT := Lib.hid hbt
  clear hrd hbt
  obtain ⟨w0, hw0⟩ : ∃ w0, w0 = ((w.alloc (.cells #[.slice a l.length cap] 34)).alloc (.cells #[.slice none 0 0] 63)) := ⟨_, rfl⟩
  have hB : Below w.heap.size w w0 := by rw [hw0]; exact ((Below.refl _ _).alloc (Nat.le_refl _) _).alloc (by simp) _
  have b1 : Blk w0 w.heap.size 34 #[.slice a l.length cap] := by rw [hw0]; exact (Blk.new w _ _).alloc _
  have b2 : Blk w0 (w.heap.size + 1) 63 #[.slice none 0 0] := by rw [hw0]; exact new1 w _ [Value.slice none 0 0] _
  have c1 := b1.cell 0
  simp at c1
  have HC := Lib.hid (othersR_any S a l.length cap l w0 (HR.out.keep hB.size fun b _ hb => hB.block b hb) hm1 hm2 hbig HT.out)
  have HB := Lib.hid (And.intro hB b2)
  clear hB b1 b2
  go_enter Try.func12, Try.ntmps12
  go_upto_region 1 with fail
  rw [← hw0]
  clear hw0
  go_wp2_with fail
  refine HC.out.mono ?_
  rintro e w1 ⟨oa, ocap, rfl, h1, h2, h3, h4⟩
  have k2 := HB.out.2.below h4 HB.out.2.lt
  have z2 := k2.frozen 0
  have d2 := k2.cell 0
  simp at d2
  have HW : Hid (WordPost l w (.returned (.agg #[.slice oa l.length ocap])) (w1.setCell ⟨w.heap.size + 1, 0, none⟩ (.slice oa l.length ocap)) ∧ Blk (w1.setCell ⟨w.heap.size + 1, 0, none⟩ (.slice oa l.length ocap)) (w.heap.size + 1) 63 #[.slice oa l.length ocap]) := Lib.hid (by
    have hs := HB.out.1.size
    have hl := HB.out.2.lt
    have hb1 : Below w.heap.size w w1 := HB.out.1.trans (h4.mono hs)
    refine ⟨⟨oa, ocap, rfl, ?_, h2, h3, hb1.setCell (by simp) _⟩, by simpa using k2.set_ 0 (.slice oa l.length ocap)⟩
    exact (h1.keep (by simp) fun b hb _ => Below.heap_setCell w1 ⟨w.heap.size + 1, 0, none⟩ _ b (by show b ≠ w.heap.size + 1; omega)).mono fun b _ hb => by omega)
  clear HC h1 h2 h3 h4 k2
  go_wp2_with fail
  try simp only [Exit.inBlock, Exit.then]
  have r1 := HW.out.2.cell 0
  simp only [List.getElem?_toArray, List.getElem?_cons_zero] at r1
  first | refine bodyPost_ret (ret_row (n := 1) rfl (by kernel_rfl) _ _ _ rfl ?_) rfl ?_ | refine bodyPost_end (ret_row (n := 1) rfl (by kernel_rfl) _ _ _ rfl ?_) rfl ?_
  · exact (row1 r1).1
  · rw [(row1 r1).2]; exact HW.out.1

/-! ### rows that are spoiled -/
theorem SpA.spd {T T' : Nat → Prop} {w w' : World} {g n : Nat} (h : SpA T w g n) (hs : Spd T' w w') : SpA T w' g n := by
  obtain ⟨cur, h1, h2, h3⟩ := h
  refine ⟨cur, (hs.row h1 (by decide)).trans h1, h2, fun k hk => ?_⟩
  obtain ⟨r, tv, q1, q2, q3, q4⟩ := h3 k hk
  exact ⟨r, tv, q1, q2, q3.spd hs, q4⟩
theorem SpS.spd {T T' : Nat → Prop} {w w' : World} {a : Option Addr} {n : Nat} (h : SpS T w a n) (hs : Spd T' w w') : SpS T w' a n := by
  rcases h with h | ⟨g, h1, h2, h3⟩
  · exact .inl h
  · exact .inr ⟨g, h1, h2, h3.spd hs⟩
/-- one of them, read -/
theorem SpS.at_ {T : Nat → Prop} {w : World} {a : Option Addr} {n k : Nat} (h : SpS T w a n) (hk : k < n) : ∃ (g : Nat) (cur : Array Value) (r : Rw) (tv : Value), a = some ⟨g, 0, none⟩ ∧ T g ∧ g < w.heap.size ∧ w.heap[g]? = some (.cells cur 54 (0, 0)) ∧ k * 57 + 57 ≤ cur.size ∧ r.ok ∧ (∃ x m cap, tv = .slice x m cap ∧ m ≤ cap ∧ cap ≤ maxLen) ∧ RoomV T w tv ∧ hasRow w ⟨g, k * 57, none⟩ 57 = true ∧ rowOf w ⟨g, k * 57, none⟩ 57 = r.vals tv ∧ canPut w ⟨g, k * 57, none⟩ 57 = true := by
  rcases h with h | ⟨g, h1, h2, cur, h3, h4, h5⟩
  · omega
  · obtain ⟨r, tv, q1, q2, q3, q4⟩ := h5 k hk
    have hin : k * 57 + 57 ≤ cur.size := by
      have : (k + 1) * 57 ≤ n * 57 := Nat.mul_le_mul_right _ (by omega)
      omega
    have hlen := Rw.len q1 tv
    have hrow := row_of_cells (w := w) (p := ⟨g, k * 57, none⟩) (l := r.vals tv) (fun j u hu => by
      have hj : j < 57 := by rw [← hlen]; exact (List.getElem?_eq_some_iff.1 hu).1
      rw [add_at, cell_of_row w g _ cur _ (0, 0) h3, q4 j hj, hu])
    rw [hlen] at hrow
    exact ⟨g, cur, r, tv, h1, h2, lt_of_some h3, h3, hin, q1, q2, q3, hrow.1, hrow.2, by simp [canPut, h3]; omega⟩
theorem putRow_at {w : World} {g o : Nat} {t : TypeId} {cur : Array Value} (h : w.heap[g]? = some (.cells cur t (0, 0))) (l : List Value) : (putRow w ⟨g, o, none⟩ l).heap[g]? = some (.cells (cur.toList.take o ++ l ++ cur.toList.drop (o + l.length)).toArray t (0, 0)) := by
  have hb : Blk w g t cur.toList.toArray := by rw [Array.toArray_toList]; exact h
  exact hb.put o l
theorem RoomV.zero {T : Nat → Prop} {w : World} {tv : Value} (h : RoomV T w tv) {g o : Nat} {cur : Array Value} (hg : w.heap[g]? = some (.cells cur 54 (0, 0))) (l : List Value) : RoomV T (putRow w ⟨g, o, none⟩ l) tv := fun x m cap e k hk => by
  obtain ⟨b, off, c, h1, h2, h3, h4⟩ := h x m cap e k hk
  refine ⟨b, off, c, h1, h2, (putRow_other _ _ _ _ ?_).trans h3, h4⟩
  rintro rfl
  rw [hg] at h3
  have h3 := Option.some.inj h3
  injection h3 with _ h5 _
  exact absurd h5 (by decide)
theorem SpS.zero {T : Nat → Prop} {w : World} {a : Option Addr} {n : Nat} (h : SpS T w a n) {g k : Nat} {cur : Array Value} (hg : w.heap[g]? = some (.cells cur 54 (0, 0))) (hk : k * 57 + 57 ≤ cur.size) : SpS T (putRow w ⟨g, k * 57, none⟩ rowZ) a n := by
  rcases h with h | ⟨g', h1, h2, c', h3, h4, h5⟩
  · exact .inl h
  refine .inr ⟨g', h1, h2, ?_⟩
  by_cases hgg : g' = g
  · subst hgg
    rw [hg] at h3
    have hc : cur = c' := by
      have h3 := Option.some.inj h3
      injection h3
    subst hc
    have hlz : rowZ.length = 57 := len_rowZ
    have hsz : (cur.toList.take (k * 57) ++ rowZ ++ cur.toList.drop (k * 57 + rowZ.length)).length = cur.size := by simp [hlz]; omega
    refine ⟨_, putRow_at hg rowZ, by rw [List.size_toArray, hsz]; exact h4, fun j hj => ?_⟩
    by_cases hjk : j = k
    · subst hjk
      refine ⟨rw0, .slice none 0 0, rw0_ok, ⟨none, 0, 0, rfl, Nat.le_refl _, by simp⟩, RoomV.nil _ _, fun i hi => ?_⟩
      rw [rw0_vals]
      simp only [List.getElem?_toArray]
      rw [List.append_assoc, List.getElem?_append_right (by simp; omega), List.getElem?_append_left (by simp [hlz]; omega)]
      congr 1
      simp
      omega
    · obtain ⟨r, tv, q1, q2, q3, q4⟩ := h5 j hj
      refine ⟨r, tv, q1, q2, q3.zero hg _, fun i hi => ?_⟩
      rw [← q4 i hi]
      simp only [List.getElem?_toArray]
      by_cases hlt : j < k
      · have : j * 57 + i < k * 57 := by
          have : (j + 1) * 57 ≤ k * 57 := Nat.mul_le_mul_right _ (by omega)
          omega
        rw [List.append_assoc, List.getElem?_append_left (by simp; omega), List.getElem?_take, if_pos this]
        simp
      · have : k * 57 + 57 ≤ j * 57 := by
          have : (k + 1) * 57 ≤ j * 57 := Nat.mul_le_mul_right _ (by omega)
          omega
        rw [List.getElem?_append_right (by simp [hlz]; omega), List.getElem?_drop]
        have e : k * 57 + rowZ.length + (j * 57 + i - (cur.toList.take (k * 57) ++ rowZ).length) = j * 57 + i := by simp [hlz]; omega
        rw [e]
        simp
  · refine ⟨c', (putRow_other _ _ _ _ hgg).trans h3, h4, fun j hj => ?_⟩
    obtain ⟨r, tv, q1, q2, q3, q4⟩ := h5 j hj
    exact ⟨r, tv, q1, q2, q3.zero hg _, q4⟩

/-- the cells of rows that may be spoiled -/
def RowsC (S : Nat → Prop) (w : World) (cs : List Value) (L : List Rw) : Prop :=
  cs.length = L.length * 57 ∧ ∀ k r, L[k]? = some r → ∃ tv, (∀ i, i < 57 → cs[k * 57 + i]? = (r.vals tv)[i]?) ∧ RowX S w r tv
theorem RowsC.spa {S T : Nat → Prop} {w : World} {g : Nat} {cur : Array Value} {cs : List Value} {L : List Rw} (h : RowsC S w cs L) (hok : ∀ r ∈ L, r.ok) (hg : w.heap[g]? = some (.cells cur 54 (0, 0))) (hc : cur.toList.take cs.length = cs) (hT : ∀ b, b < w.heap.size → S b → T b) : SpA T w g L.length := by
  obtain ⟨h1, h2⟩ := h
  have hle : cs.length ≤ cur.size := by
    have := congrArg List.length hc
    rw [List.length_take] at this
    simp at this
    omega
  refine ⟨cur, hg, by omega, fun k hk => ?_⟩
  obtain ⟨r, hr⟩ : ∃ r, L[k]? = some r := ⟨_, List.getElem?_eq_getElem hk⟩
  obtain ⟨tv, q1, q2, q3⟩ := h2 k r hr
  obtain ⟨x, m, cap, rfl, -, q4, q5⟩ := q2
  refine ⟨r, _, hok r (List.mem_of_getElem? hr), ⟨x, m, cap, rfl, q4, q5⟩, q3.mono hT, fun i hi => ?_⟩
  rw [← q1 i hi]
  have hin : k * 57 + i < cs.length := by
    have : (k + 1) * 57 ≤ L.length * 57 := Nat.mul_le_mul_right _ (by omega)
    omega
  have e : cs[k * 57 + i]? = (cur.toList.take cs.length)[k * 57 + i]? := by rw [hc]
  rw [e, List.getElem?_take, if_pos hin]
  simp
theorem RowsC.keep {S : Nat → Prop} {w w' : World} {cs : List Value} {L : List Rw} (h : RowsC S w cs L) (hs : w.heap.size ≤ w'.heap.size) (hk : ∀ b, S b → b < w.heap.size → w'.heap[b]? = w.heap[b]?) : RowsC S w' cs L :=
  ⟨h.1, fun k r hr => by
    obtain ⟨tv, q1, q2⟩ := h.2 k r hr
    exact ⟨tv, q1, q2.keep hs hk⟩⟩
theorem RowsB.sp {S T : Nat → Prop} {w : World} {g : Nat} {L : List Rw} (h : RowsB S w g 54 L) (hok : ∀ r ∈ L, r.ok) (hT : ∀ b, b < w.heap.size → S b → T b) (hg : T g) : SpS T w (some ⟨g, 0, none⟩) L.length := by
  obtain ⟨cs, h1, h2, h3⟩ := h
  exact .inr ⟨g, rfl, hg, RowsC.spa ⟨h2, h3⟩ hok h1 (by simp) hT⟩

/-! ### where the two lanes lie -/
structure PlS (W0 : World) (p gp lb : Nat) (J S D : Nat → Prop) (G : Nat → Nat) (L : LaneM) (M : RfM) (vo vc : Value) (w : World) : Prop where
  la : LaneAt S w p gp G L
  rf : RfAt D w lb M vo vc
  dis : ∀ b, S b → ¬ RfS D lb vo vc b
  lo : ∀ b, S b ∨ RfS D lb vo vc b → W0.heap.size ≤ b
  nj : ∀ b, J b → b < w.heap.size ∧ ¬ S b ∧ ¬ RfS D lb vo vc b ∧ W0.heap.size ≤ b
  bel : Below W0.heap.size W0 w
section
variable {W0 : World} {p gp lb : Nat} {J S D : Nat → Prop} {G : Nat → Nat} {L : LaneM} {M : RfM} {vo vc : Value} {w w' : World}
theorem PlS.grow (h : PlS W0 p gp lb J S D G L M vo vc w) (hb : Below w.heap.size w w') : PlS W0 p gp lb (fun b => J b ∨ (w.heap.size ≤ b ∧ b < w'.heap.size)) S D G L M vo vc w' := by
  have hs := hb.size
  refine ⟨h.la.below hb, h.rf.below hb, h.dis, h.lo, fun b hJ => ?_, h.bel.trans (hb.mono h.bel.size)⟩
  rcases hJ with hJ | hJ
  · obtain ⟨q1, q2⟩ := h.nj b hJ
    exact ⟨by omega, q2⟩
  · exact ⟨hJ.2, fun hS => by have := h.la.lt b hS; omega, fun hS => by have := h.rf.lt hS; omega, by have := h.bel.size; omega⟩
theorem PlS.jmono (h : PlS W0 p gp lb J S D G L M vo vc w) {J' : Nat → Prop} (hJ : ∀ b, J' b → J b) : PlS W0 p gp lb J' S D G L M vo vc w := ⟨h.la, h.rf, h.dis, h.lo, fun b hb => h.nj b (hJ b hb), h.bel⟩
theorem PlS.below (h : PlS W0 p gp lb J S D G L M vo vc w) (hb : Below w.heap.size w w') : PlS W0 p gp lb J S D G L M vo vc w' := (h.grow hb).jmono fun b hb => .inl hb
theorem PlS.chg (h : PlS W0 p gp lb J S D G L M vo vc w) (hc : Chg J w w') : PlS W0 p gp lb J S D G L M vo vc w' :=
  ⟨h.la.keep hc.size fun b hb hl => hc.block b hl fun hJ => (h.nj b hJ).2.1 hb, h.rf.keep hc.size fun b hb hl => hc.block b hl fun hJ => (h.nj b hJ).2.2.1 hb, h.dis, h.lo, fun b hb => ⟨Nat.lt_of_lt_of_le (h.nj b hb).1 hc.size, (h.nj b hb).2⟩,
    h.bel.trans (hc.below h.bel.size fun b hb => (h.nj b hb).2.2.2)⟩
theorem PlS.hear (h : PlS W0 p gp lb J S D G L M vo vc w) {ins : Nat → List Rw} {e : Ending} (hp : HearPost S p gp L ins w e w') :
    ∃ m G' g, e = .returned (.slice (some ⟨g, 0, none⟩) L.n L.n) ∧ PlS W0 p gp lb (fun b => J b ∨ (m ≤ b ∧ b < w'.heap.size)) (GrowS S w.heap.size m) D G' (L.put ins) M vo vc w' ∧ w.heap.size ≤ m ∧ m ≤ g ∧
      RowsB (fun b => m ≤ b ∧ b ≠ g) w' g 54 (tab L.n (L.put ins).held) ∧ Chg S w w' := by
  obtain ⟨m, G', g, h1, h2, rfl, h3, h4, h5⟩ := hp
  have hc : Chg S w w' := h5.mono fun b _ hb => by
    rcases hb with rfl | rfl
    · exact h.la.sp
    · exact h.la.sg
  refine ⟨m, G', g, rfl, ⟨h2, h.rf.keep hc.size fun b hb hl => hc.block b hl fun hS => h.dis b hS hb, fun b hb hR => ?_, fun b hb => ?_, fun b hb => ?_, h.bel.trans (hc.below h.bel.size fun b hb => h.lo b (.inl hb))⟩, h1, h3, h4, hc⟩
  · rcases hb with hb | hb
    · exact h.dis b hb hR
    · have := h.rf.lt hR; omega
  · rcases hb with (hb | hb) | hb
    · exact h.lo b (.inl hb)
    · have := h.bel.size; omega
    · exact h.lo b (.inr hb)
  · rcases hb with hb | hb
    · obtain ⟨q1, q2, q3, q4⟩ := h.nj b hb
      refine ⟨Nat.lt_of_lt_of_le q1 hc.size, fun hS => ?_, q3, q4⟩
      rcases hS with hS | hS
      · exact q2 hS
      · omega
    · refine ⟨hb.2, fun hS => ?_, fun hS => ?_, by have := h.bel.size; omega⟩
      · rcases hS with hS | hS
        · have := h.la.lt b hS; omega
        · omega
      · have := h.rf.lt hS; omega
theorem PlS.rhear (h : PlS W0 p gp lb J S D G L M vo vc w) {ins : Nat → List Rw} {e : Ending} (hp : RHeard D lb M vo vc ins w e w') :
    ∃ D' vo' vc' a cap, e = .returned (.slice a M.n cap) ∧ PlS W0 p gp lb J S D' G L (M.put ins) vo' vc' w' ∧ RdRs (fun _ => True) w' a M.n (tab M.n (M.put ins).held) ∧ M.n ≤ cap ∧ cap ≤ maxLen ∧ Chg (RfS D lb vo vc) w w' := by
  obtain ⟨D', vo', vc', a, cap, rfl, h1, h2, h3, h4, h5, h6⟩ := hp
  have hc : Chg (RfS D lb vo vc) w w' := h5.mono fun b _ hb => by
    rcases hb with hb | hb | hb
    · exact .inl hb
    · exact .inr (.inl hb)
    · exact .inr (.inr (.inl hb))
  refine ⟨D', vo', vc', a, cap, rfl, ⟨h.la.keep hc.size fun b hb hl => hc.block b hl fun hR => h.dis b hb hR, h1, fun b hb hR => ?_, fun b hb => ?_, fun b hb => ?_, h.bel.trans (hc.below h.bel.size fun b hb => h.lo b (.inr hb))⟩, h2, h3, h4, hc⟩
  · rcases h6 b hR with h7 | h7
    · exact h.dis b hb h7
    · have := h.la.lt b hb; omega
  · rcases hb with hb | hb
    · exact h.lo b (.inl hb)
    · rcases h6 b hb with h7 | h7
      · exact h.lo b (.inr h7)
      · have := h.bel.size; omega
  · obtain ⟨q1, q2, q3, q4⟩ := h.nj b hb
    refine ⟨Nat.lt_of_lt_of_le q1 hc.size, q2, fun hR => ?_, q4⟩
    rcases h6 b hR with h7 | h7
    · exact q3 h7
    · omega
theorem PlS.say (h : PlS W0 p gp lb J S D G L M vo vc w) {own : Rw} {e : Ending} (hp : SayPost S p gp G L own w e w') :
    ∃ m g0 g1, e = .returned (.tuple #[.agg #[.slice (some ⟨g0, 0, none⟩) L.n L.n], .agg #[.slice (some ⟨g1, 0, none⟩) L.n L.n]]) ∧ PlS W0 p gp lb (fun b => J b ∨ (m ≤ b ∧ b < w'.heap.size)) (GrowS S w.heap.size m) D G (L.said own) M vo vc w' ∧ w.heap.size ≤ m ∧ m ≤ g0 ∧ m ≤ g1 ∧
      RowsB (fun b => m ≤ b ∧ b ≠ g0 ∧ b ≠ g1) w' g0 54 ((L.said own).out 0) ∧ RowsB (fun b => m ≤ b ∧ b ≠ g0 ∧ b ≠ g1) w' g1 54 ((L.said own).out 2) ∧ Chg S w w' := by
  obtain ⟨m, g0, g1, h1, h2, rfl, h3, h4, -, h5, h6, hc⟩ := hp
  refine ⟨m, g0, g1, rfl, ⟨h2, h.rf.keep hc.size fun b hb hl => hc.block b hl fun hS => h.dis b hS hb, fun b hb hR => ?_, fun b hb => ?_, fun b hb => ?_, h.bel.trans (hc.below h.bel.size fun b hb => h.lo b (.inl hb))⟩, h1, h3, h4, h5, h6, hc⟩
  · rcases hb with hb | hb
    · exact h.dis b hb hR
    · have := h.rf.lt hR; omega
  · rcases hb with (hb | hb) | hb
    · exact h.lo b (.inl hb)
    · have := h.bel.size; omega
    · exact h.lo b (.inr hb)
  · rcases hb with hb | hb
    · obtain ⟨q1, q2, q3, q4⟩ := h.nj b hb
      refine ⟨Nat.lt_of_lt_of_le q1 hc.size, fun hS => ?_, q3, q4⟩
      rcases hS with hS | hS
      · exact q2 hS
      · omega
    · refine ⟨hb.2, fun hS => ?_, fun hS => ?_, by have := h.bel.size; omega⟩
      · rcases hS with hS | hS
        · have := h.la.lt b hS; omega
        · omega
      · have := h.rf.lt hS; omega
theorem PlS.rsay (h : PlS W0 p gp lb J S D G L M vo vc w) {own : Rw} {e : Ending} (hp : RSaid D lb M vo vc own w e w') :
    ∃ D' a0 a1 c0 c1, e = .returned (.tuple #[.agg #[.slice a0 M.n c0], .agg #[.slice a1 M.n c1]]) ∧ PlS W0 p gp lb J S D' G L (M.said own) vo vc w' ∧ RdRs (fun _ => True) w' a0 M.n ((M.said own).out 0) ∧ RdRs (fun _ => True) w' a1 M.n ((M.said own).out 1) ∧ (M.n ≤ c0 ∧ c0 ≤ maxLen ∧ M.n ≤ c1 ∧ c1 ≤ maxLen) ∧ Chg (RfS D lb vo vc) w w' := by
  obtain ⟨D', a0, a1, c0, c1, rfl, h1, h2, h3, h4, h5, h6⟩ := hp
  have hc : Chg (RfS D lb vo vc) w w' := h5.mono fun b _ hb => by
    rcases hb with hb | hb | hb
    · exact .inl hb
    · exact .inr (.inl hb)
    · exact .inr (.inr (.inl hb))
  have h6' : ∀ b, RfS D' lb vo vc b → RfS D lb vo vc b ∨ w.heap.size ≤ b := fun b hb => by
    rcases hb with hb | hb | hb | hb
    · exact .inl (.inl hb)
    · exact .inl (.inr (.inl hb))
    · exact .inl (.inr (.inr (.inl hb)))
    · rcases h6 b hb with h7 | h7
      · exact .inl (.inr (.inr (.inr h7)))
      · exact .inr h7
  refine ⟨D', a0, a1, c0, c1, rfl, ⟨h.la.keep hc.size fun b hb hl => hc.block b hl fun hR => h.dis b hb hR, h1, fun b hb hR => ?_, fun b hb => ?_, fun b hb => ?_, h.bel.trans (hc.below h.bel.size fun b hb => h.lo b (.inr hb))⟩, h2, h3, h4, hc⟩
  · rcases h6' b hR with h7 | h7
    · exact h.dis b hb h7
    · have := h.la.lt b hb; omega
  · rcases hb with hb | hb
    · exact h.lo b (.inl hb)
    · rcases h6' b hb with h7 | h7
      · exact h.lo b (.inr h7)
      · have := h.bel.size; omega
  · obtain ⟨q1, q2, q3, q4⟩ := h.nj b hb
    refine ⟨Nat.lt_of_lt_of_le q1 hc.size, q2, fun hR => ?_, q4⟩
    rcases h6' b hR with h7 | h7
    · exact q3 h7
    · omega
end

/-- nothing appended -/
theorem wpList_app0 {P : Program} {t e : TypeId} {size : Nat} (hA : AppOk P t e size) {w : World} {ops : Array Oper} {rest : List Oper} {o : Oper} {a : Act} {Q : Exit → Act → World → Prop} (hgd : o.guard = none) (s x : Operand)
    (ho : o.op = .call { callee := .builtin .append, args := #[s, x], argTypes := #[t, t] })
    (base : Nat) (v : Value) (n : Nat) (xs : List Value) (hs : a.eval s = v) (hown : w.ownsRow base e size v n xs) (ad : Option Addr) (c : Nat) (hx : a.eval x = .slice ad 0 c)
    (h : wpList P ops Q rest (a.put o.dst v) w) : wpList P ops Q (o :: rest) a w := by
  obtain ⟨ht, i, z, hi, hz, hsize, hby, hzs, hsz⟩ := hA
  refine wpList_plain hgd fun K hK => ?_
  unfold Oper.wp execOp
  simp only [ho, resolve, invoke, builtin, Sem.run_bind, Sem.run_pure, Result.andThen_ok, List.map_toArray, List.map_cons, List.map_nil, hs, hx, run_append_zero ht hi v n xs hown ad c]
  exact hK _ _ h

/-! ### what a round has in hand -/
structure PlI (T : Nat → Prop) (t : Tk) (a : Nat → Option Addr) (ln cp : Nat → Nat) (a' : Nat → Option Addr) (cp' : Nat → Nat) (tv' : Value) (x12 x13 x14 : Nat) (w : World) : Prop where
  b12 : Blk w x12 36 [insV a ln cp 0, insV a ln cp 1, insV a ln cp 2, insV a ln cp 3].toArray
  b13 : Blk w x13 36 [insV a' ln cp' 0, insV a' ln cp' 1, insV a' ln cp' 2, insV a' ln cp' 3].toArray
  b14 : Blk w x14 54 (t.own.vals tv').toArray
  x : T x12 ∧ T x13 ∧ T x14
  tw : ∀ i, i < 4 → RdTs T w (a' i) (ln i) (t.w i) ∧ ln i ≤ cp' i ∧ cp' i ≤ maxLen ∧ SpS T w (a' i) (ln i)
  ow : TwR T w t.own tv'
theorem PlI.keep {T : Nat → Prop} {t : Tk} {a a' : Nat → Option Addr} {ln cp cp' : Nat → Nat} {tv' : Value} {x12 x13 x14 : Nat} {w w' : World} (h : PlI T t a ln cp a' cp' tv' x12 x13 x14 w) (hs : w.heap.size ≤ w'.heap.size) (hk : ∀ b, T b → b < w.heap.size → w'.heap[b]? = w.heap[b]?) : PlI T t a ln cp a' cp' tv' x12 x13 x14 w' :=
  ⟨(hk _ h.x.1 h.b12.lt).trans h.b12, (hk _ h.x.2.1 h.b13.lt).trans h.b13, (hk _ h.x.2.2 h.b14.lt).trans h.b14, h.x, fun i hi => ⟨(h.tw i hi).1.keep hs hk, (h.tw i hi).2.1, (h.tw i hi).2.2.1, (h.tw i hi).2.2.2.keep hk⟩, h.ow.keep hs hk⟩
theorem PlI.below {T : Nat → Prop} {t : Tk} {a a' : Nat → Option Addr} {ln cp cp' : Nat → Nat} {tv' : Value} {x12 x13 x14 : Nat} {w w' : World} (h : PlI T t a ln cp a' cp' tv' x12 x13 x14 w) (hb : Below w.heap.size w w') : PlI T t a ln cp a' cp' tv' x12 x13 x14 w' := h.keep hb.size fun b _ hl => hb.block b hl
def four {α : Type} (x0 x1 x2 x3 : α) : Nat → α
  | 0 => x0
  | 1 => x1
  | 2 => x2
  | _ => x3
theorem zi_ins : zeroIs Try.prog 36 z4 := by unfold zeroIs; kernel_rfl
@[go_sem] theorem len_z4 : z4.length = 4 := (rfl)
theorem z4_cell1 : z4.all cell1 = true := by decide
@[go_sem ↓] theorem al_ins (ρ : Operand → Value) (d : Option Tmp) (ty : TypeId) (s : String) (af : Array Edge) (g : Option (Nat × Bool)) (w : World) :
    (execOp ρ { dst := d, op := .alloc 36, type := ty, pos := s, after := af, guard := g }).run Try.prog w = .ok (.value (.pointer (some ⟨w.heap.size, 0, none⟩))) (w.alloc (.cells z4.toArray 36)) := exec_alloc zi_ins ρ d ty s af g w
theorem ag_ins4 : aggOf Try.prog 36 4 = true := by kernel_rfl
@[go_sem ↓] theorem st_ins (ρ : Operand → Value) (d : Option Tmp) (x y : Operand) (ty : TypeId) (s : String) (af : Array Edge) (g : Option (Nat × Bool)) (w : World) (h1 : okAgg 4 (ρ y) = true) (h2 : canPutV w 4 (ρ x) = true) :
    (execOp ρ { dst := d, op := .store 36 x y, type := ty, pos := s, after := af, guard := g }).run Try.prog w = .ok .skip (putV w (ρ x) (ρ y)) := exec_store ag_ins4 ρ d x y ty s af g w h1 h2
/-- a twin word of a round's -/
def TwP (n : Nat) (l : List Rw) (w : World) (e : Ending) (w' : World) : Prop :=
  ∃ a c, e = .returned (.agg #[.slice a n c]) ∧ RdTs (fun b => w.heap.size ≤ b ∧ b < w'.heap.size) w' a n l ∧ n ≤ c ∧ c ≤ maxLen ∧ SpS (fun b => w.heap.size ≤ b ∧ b < w'.heap.size) w' a n ∧ Below w.heap.size w w'
def TwC (base : Nat) (ln : Nat → Nat) (t : Tk) (w4 : World) (s13 : Value) (wx : World) : Prop :=
  ∃ (wc : World) (x13 : Nat) (a' : Nat → Option Addr) (c' : Nat → Nat), wc = wx ∧ s13 = .pointer (some ⟨x13, 0, none⟩) ∧ base ≤ x13 ∧ Blk wc x13 36 [insV a' ln c' 0, insV a' ln c' 1, insV a' ln c' 2, insV a' ln c' 3].toArray ∧
    (∀ i, i < 4 → RdTs (base ≤ ·) wc (a' i) (ln i) (t.w i) ∧ ln i ≤ c' i ∧ c' i ≤ maxLen ∧ SpS (base ≤ ·) wc (a' i) (ln i)) ∧ Below base w4 wc
theorem TwC.mk {t : Tk} {ln : Nat → Nat} {w4 w5 w6 w7 w8 wc : World} {q l0 l1 l2 l3 : Nat} {a0 a1 a2 a3 : Option Addr} {c0 c1 c2 c3 : Nat}
    (Y0 : RdTs (fun b => l0 ≤ b ∧ b < w5.heap.size) w5 a0 (ln 0) (t.w 0) ∧ ln 0 ≤ c0 ∧ c0 ≤ maxLen ∧ SpS (fun b => l0 ≤ b ∧ b < w5.heap.size) w5 a0 (ln 0))
    (Y1 : RdTs (fun b => l1 ≤ b ∧ b < w6.heap.size) w6 a1 (ln 1) (t.w 1) ∧ ln 1 ≤ c1 ∧ c1 ≤ maxLen ∧ SpS (fun b => l1 ≤ b ∧ b < w6.heap.size) w6 a1 (ln 1))
    (Y2 : RdTs (fun b => l2 ≤ b ∧ b < w7.heap.size) w7 a2 (ln 2) (t.w 2) ∧ ln 2 ≤ c2 ∧ c2 ≤ maxLen ∧ SpS (fun b => l2 ≤ b ∧ b < w7.heap.size) w7 a2 (ln 2))
    (Y3 : RdTs (fun b => l3 ≤ b ∧ b < w8.heap.size) w8 a3 (ln 3) (t.w 3) ∧ ln 3 ≤ c3 ∧ c3 ≤ maxLen ∧ SpS (fun b => l3 ≤ b ∧ b < w8.heap.size) w8 a3 (ln 3))
    (k6 : w5.heap.size ≤ w6.heap.size ∧ ∀ b, b < w5.heap.size → w6.heap[b]? = w5.heap[b]?) (k7 : w6.heap.size ≤ w7.heap.size ∧ ∀ b, b < w6.heap.size → w7.heap[b]? = w6.heap[b]?) (k8 : w7.heap.size ≤ w8.heap.size ∧ ∀ b, b < w7.heap.size → w8.heap[b]? = w7.heap[b]?)
    (hc : Chg (· = q) w8 wc) (hl : w4.heap.size ≤ l0 ∧ w4.heap.size ≤ l1 ∧ w4.heap.size ≤ l2 ∧ w4.heap.size ≤ l3) (hq : w4.heap.size ≤ q)
    (n0 : q < l0 ∨ w5.heap.size ≤ q) (n1 : q < l1 ∨ w6.heap.size ≤ q) (n2 : q < l2 ∨ w7.heap.size ≤ q) (n3 : q < l3 ∨ w8.heap.size ≤ q)
    (hb : Below w4.heap.size w4 wc) (hB : Blk wc q 36 [.slice a0 (ln 0) c0, .slice a1 (ln 1) c1, .slice a2 (ln 2) c2, .slice a3 (ln 3) c3].toArray) : TwC w4.heap.size ln t w4 (.pointer (some ⟨q, 0, none⟩)) wc := by
  have key : ∀ {lo hi : Nat} {wi : World} {a : Option Addr} {n c : Nat} {l : List Rw}, (RdTs (fun b => lo ≤ b ∧ b < wi.heap.size) wi a n l ∧ n ≤ c ∧ c ≤ maxLen ∧ SpS (fun b => lo ≤ b ∧ b < wi.heap.size) wi a n) → w4.heap.size ≤ lo → (q < lo ∨ wi.heap.size ≤ q) → wi.heap.size ≤ w8.heap.size → (∀ b, b < wi.heap.size → w8.heap[b]? = wi.heap[b]?) →
      RdTs (w4.heap.size ≤ ·) wc a n l ∧ n ≤ c ∧ c ≤ maxLen ∧ SpS (w4.heap.size ≤ ·) wc a n := fun {lo hi wi a n c l} h h1 h2 h3 h4 => by
    have hk : ∀ b, (lo ≤ b ∧ b < wi.heap.size) → b < wi.heap.size → wc.heap[b]? = wi.heap[b]? := fun b hb hlt => (hc.block b (by omega) (by omega)).trans (h4 b hlt)
    exact ⟨(h.1.keep (Nat.le_trans h3 hc.size) hk).mono fun b _ hb => by omega, h.2.1, h.2.2.1, (h.2.2.2.keep hk).mono fun b _ hb => by omega⟩
  have k78 : ∀ b, b < w6.heap.size → w8.heap[b]? = w6.heap[b]? := fun b hb => (k8.2 b (by omega)).trans (k7.2 b hb)
  have k58 : ∀ b, b < w5.heap.size → w8.heap[b]? = w5.heap[b]? := fun b hb => (k78 b (by omega)).trans (k6.2 b hb)
  refine ⟨wc, q, four a0 a1 a2 a3, four c0 c1 c2 c3, rfl, rfl, hq, hB, fun i hi => ?_, hb⟩
  match i, hi with
  | 0, _ => exact key (hi := 0) Y0 hl.1 n0 (by omega) k58
  | 1, _ => exact key (hi := 0) Y1 hl.2.1 n1 (by omega) k78
  | 2, _ => exact key (hi := 0) Y2 hl.2.2.1 n2 (by omega) k8.2
  | 3, _ => exact key (hi := 0) Y3 hl.2.2.2 n3 (Nat.le_refl _) fun _ _ => rfl
theorem bpt {B : Nat} {a w : World} {q o : Nat} (hz : B ≤ q) (h : Below B a w) (l : List Value) : Below B a (putRow w ⟨q, o, none⟩ l) := Below.put h (p := ⟨q, o, none⟩) hz l
theorem alloc_keep (w w' : World) (o : Obj) (h : Below (w.alloc o).heap.size (w.alloc o) w') : w.heap.size ≤ w'.heap.size ∧ ∀ b, b < w.heap.size → w'.heap[b]? = w.heap[b]? :=
  ⟨by have := h.size; simp at this; omega, fun b hb => (h.block b (by simp; omega)).trans (Below.heap_alloc w o b hb)⟩
theorem below_keep (w w' : World) (h : Below w.heap.size w w') : w.heap.size ≤ w'.heap.size ∧ ∀ b, b < w.heap.size → w'.heap[b]? = w.heap[b]? := ⟨h.size, h.block⟩
def OtP (base n : Nat) (l : List Rw) (w : World) (e : Ending) (w' : World) : Prop :=
  ∃ a c, e = .returned (.agg #[.slice a n c]) ∧ RdRs (base ≤ ·) w' a n l ∧ n ≤ c ∧ c ≤ maxLen ∧ Below w.heap.size w w'
theorem fs_x12 {T : Nat → Prop} {t : Tk} {a a' : Nat → Option Addr} {ln cp cp' : Nat → Nat} {tv' : Value} {x12 x13 x14 : Nat} {w : World} (h : PlI T t a ln cp a' cp' tv' x12 x13 x14 w) :
    w.cell? ⟨x12, 0, none⟩ = some (.slice (a 0) (ln 0) (cp 0)) ∧ w.cell? ⟨x12, 1, none⟩ = some (.slice (a 1) (ln 1) (cp 1)) ∧ w.cell? ⟨x12, 2, none⟩ = some (.slice (a 2) (ln 2) (cp 2)) ∧ w.cell? ⟨x12, 3, none⟩ = some (.slice (a 3) (ln 3) (cp 3)) := ⟨h.b12.cell 0, h.b12.cell 1, h.b12.cell 2, h.b12.cell 3⟩
theorem fs_x13 {T : Nat → Prop} {t : Tk} {a a' : Nat → Option Addr} {ln cp cp' : Nat → Nat} {tv' : Value} {x12 x13 x14 : Nat} {w : World} (h : PlI T t a ln cp a' cp' tv' x12 x13 x14 w) :
    w.cell? ⟨x13, 0, none⟩ = some (.slice (a' 0) (ln 0) (cp' 0)) ∧ w.cell? ⟨x13, 1, none⟩ = some (.slice (a' 1) (ln 1) (cp' 1)) ∧ w.cell? ⟨x13, 2, none⟩ = some (.slice (a' 2) (ln 2) (cp' 2)) ∧ w.cell? ⟨x13, 3, none⟩ = some (.slice (a' 3) (ln 3) (cp' 3)) := ⟨h.b13.cell 0, h.b13.cell 1, h.b13.cell 2, h.b13.cell 3⟩
end Go.Proofs.Ytopakilglnpinaa
