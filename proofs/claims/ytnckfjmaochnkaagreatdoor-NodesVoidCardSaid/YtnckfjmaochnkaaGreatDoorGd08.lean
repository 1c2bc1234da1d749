/-
  Blocks that hold rows; words.filled of rows; words.Norm.
-/
import Derived.Test.YtnckfjmaochnkaaGreatDoorGd07
namespace Go.Proofs.YtnckfjmaochnkaaGreatDoor
open Go.RowKit
set_option linter.unusedVariables false
set_option linter.unusedSimpArgs false

theorem RowR.keep {S : Nat → Prop} {w w' : World} {r : Rw} {tv : Value} (h : RowR S w r tv) (hs : w.heap.size ≤ w'.heap.size) (hk : ∀ b, S b → b < w.heap.size → w'.heap[b]? = w.heap[b]?) : RowR S w' r tv := by
  obtain ⟨x, m, cap, rfl, h1, h2⟩ := h
  exact ⟨x, m, cap, rfl, h1.keep hs hk, h2⟩
theorem RowR.mono {S S' : Nat → Prop} {w : World} {r : Rw} {tv : Value} (h : RowR S w r tv) (hs : ∀ b, b < w.heap.size → S b → S' b) : RowR S' w r tv := by
  obtain ⟨x, m, cap, rfl, h1, h2⟩ := h
  exact ⟨x, m, cap, rfl, h1.mono hs, h2⟩
theorem RowR.below {S : Nat → Prop} {w w' : World} {r : Rw} {tv : Value} (h : RowR S w r tv) (hb : Below w.heap.size w w') : RowR S w' r tv := h.keep hb.size fun b _ hlt => hb.block b hlt
theorem RowR.lenC {S : Nat → Prop} {w : World} {r : Rw} {tv : Value} (h : RowR S w r tv) : lenC tv 1 = true := by
  obtain ⟨x, m, cap, rfl, -⟩ := h
  rfl
theorem RowR.cell1 {S : Nat → Prop} {w : World} {r : Rw} {tv : Value} (h : RowR S w r tv) (hr : r.ok) : (r.vals tv).all cell1 = true := by
  obtain ⟨x, m, cap, rfl, -⟩ := h
  have := okL_cell1 hr.1
  simp [Rw.vals, List.all_append] at this ⊢
  exact ⟨rfl, this, rfl⟩

theorem RowX.keep {S : Nat → Prop} {w w' : World} {r : Rw} {tv : Value} (h : RowX S w r tv) (hs : w.heap.size ≤ w'.heap.size) (hk : ∀ b, S b → b < w.heap.size → w'.heap[b]? = w.heap[b]?) : RowX S w' r tv := ⟨h.1.keep hs hk, h.2.keep hk⟩
theorem RowX.mono {S S' : Nat → Prop} {w : World} {r : Rw} {tv : Value} (h : RowX S w r tv) (hs : ∀ b, b < w.heap.size → S b → S' b) : RowX S' w r tv := ⟨h.1.mono hs, h.2.mono hs⟩
theorem RowX.below {S : Nat → Prop} {w w' : World} {r : Rw} {tv : Value} (h : RowX S w r tv) (hb : Below w.heap.size w w') : RowX S w' r tv := h.keep hb.size fun b _ hlt => hb.block b hlt
/-- a block that holds rows; their tables lie in S -/
def RowsB (S : Nat → Prop) (w : World) (g : Nat) (t : TypeId) (L : List Rw) : Prop :=
  ∃ cs : List Value, Blk w g t cs.toArray ∧ cs.length = L.length * 57 ∧ ∀ k r, L[k]? = some r → ∃ tv, (∀ i, i < 57 → cs[k * 57 + i]? = (r.vals tv)[i]?) ∧ RowX S w r tv
theorem RowsB.lt {S : Nat → Prop} {w : World} {g : Nat} {t : TypeId} {L : List Rw} (h : RowsB S w g t L) : g < w.heap.size := by
  obtain ⟨cs, h1, -⟩ := h
  exact h1.lt
theorem RowsB.below {S : Nat → Prop} {w w' : World} {g : Nat} {t : TypeId} {L : List Rw} (h : RowsB S w g t L) (hb : Below w.heap.size w w') : RowsB S w' g t L := by
  obtain ⟨cs, h1, h2, h3⟩ := h
  refine ⟨cs, h1.below hb h1.lt, h2, fun k r hk => ?_⟩
  obtain ⟨tv, h4, h5⟩ := h3 k r hk
  exact ⟨tv, h4, h5.below hb⟩
theorem RowsB.canPut {S : Nat → Prop} {w : World} {g : Nat} {t : TypeId} {L : List Rw} (h : RowsB S w g t L) (k : Nat) (hk : k < L.length) : canPut w ⟨g, k * 57, none⟩ 57 = true := by
  obtain ⟨cs, h1, h2, -⟩ := h
  obtain ⟨-, -, -, -, h5⟩ := h1.rules
  rw [h5, h2]
  simp; omega
theorem RowsB.set {S : Nat → Prop} {w : World} {g : Nat} {t : TypeId} {L : List Rw} (h : RowsB S w g t L) (hS : ∀ b, S b → b ≠ g) {k : Nat} (hk : k < L.length) {r : Rw} (hr : r.ok) {tv : Value} (ht : RowX S w r tv) :
    RowsB S (putRow w ⟨g, k * 57, none⟩ (r.vals tv)) g t (L.set k r) := by
  obtain ⟨cs, h1, h2, h3⟩ := h
  have hl := Rw.len hr tv
  have kp : ∀ {r' : Rw} {tv' : Value}, RowX S w r' tv' → RowX S (putRow w ⟨g, k * 57, none⟩ (r.vals tv)) r' tv' := fun h => h.keep (by simp) (fun b hb _ => putRow_other _ _ _ _ (hS b hb))
  refine ⟨spl cs (k * 57) (r.vals tv), h1.put (k * 57) (r.vals tv), ?_, fun j q hj => ?_⟩
  · rw [len_spl (by rw [h2, hl]; omega), h2, List.length_set]
  · by_cases hjk : j = k
    · subst hjk
      rw [List.getElem?_set_self (by omega)] at hj
      cases hj
      refine ⟨tv, fun i hi => ?_, kp ht⟩
      rw [spl_get (by rw [h2, hl]; omega), if_neg (by omega), if_pos (by omega)]
      congr 1; omega
    · rw [List.getElem?_set_ne (fun e => hjk e.symm)] at hj
      obtain ⟨tv', h4, h5⟩ := h3 j q hj
      refine ⟨tv', fun i hi => ?_, kp h5⟩
      rw [spl_get (by rw [h2, hl]; omega)]
      by_cases hlt : j < k
      · rw [if_pos (by omega)]; exact h4 i hi
      · rw [if_neg (by omega), if_neg (by omega)]; exact h4 i hi
theorem RowsB.rd {S : Nat → Prop} {w : World} {g : Nat} {t : TypeId} {L : List Rw} (h : RowsB S w g t L) (hok : ∀ r ∈ L, r.ok) : RdRs (fun b => b = g ∨ S b) w (some ⟨g, 0, none⟩) L.length L := by
  obtain ⟨cs, h1, h2, h3⟩ := h
  refine ⟨rfl, hok, fun k r hk => ?_⟩
  obtain ⟨tv, h4, ⟨x, m, cap, rfl, h5, h6, h7⟩, -⟩ := h3 k r hk
  have hl := Rw.len (hok r (List.mem_of_getElem? hk)) (.slice x m cap)
  have hkl := (List.getElem?_eq_some_iff.1 hk).1
  have hrow := row_of_cells (w := w) (p := ⟨g, 0 + k * 57, none⟩) (l := r.vals (.slice x m cap)) (fun j v hv => by
    have hj : j < 57 := by rw [← hl]; exact (List.getElem?_eq_some_iff.1 hv).1
    rw [add_at, h1.cell]
    have := h4 j hj
    rw [hv] at this
    simpa using this)
  rw [hl] at hrow
  exact ⟨g, 0, x, m, cap, rfl, .inl rfl, h1.lt, hrow.1, hrow.2, h5.mono (fun b _ h => .inr h), h6, h7⟩
theorem RowsB.room {S : Nat → Prop} {w : World} {g : Nat} {t : TypeId} {L : List Rw} (h : RowsB S w g t L) (hok : ∀ r ∈ L, r.ok) {k : Nat} {r : Rw} (hk : L[k]? = some r) :
    ∃ cur tv, w.heap[g]? = some (.cells cur t (0, 0)) ∧ w.cell? ⟨g, k * 57 + 56, none⟩ = some tv ∧ RoomV S w tv := by
  obtain ⟨cs, h1, h2, h3⟩ := h
  obtain ⟨tv, h4, h5⟩ := h3 k r hk
  refine ⟨_, tv, h1, ?_, h5.2⟩
  have hl : r.c.length = 55 := by rw [← len_cellK]; exact okL_len (hok r (List.mem_of_getElem? hk)).1
  rw [h1.cell]
  have := h4 56 (by omega)
  rw [show (r.vals tv)[56]? = some tv from by simp [Rw.vals, List.getElem?_append, hl]] at this
  simpa using this
theorem RowsB.start (S : Nat → Prop) (w : World) (t : TypeId) (N : Nat) : RowsB S (w.alloc (.cells (zrep rowZ N).toArray t)) w.heap.size t (List.replicate N rw0) := by
  refine ⟨zrep rowZ N, Blk.new _ _ _, ?_, fun k r hk => ?_⟩
  · rw [len_zrep, len_rowZ]; simp
  · have hkN : k < N := by simpa using (List.getElem?_eq_some_iff.1 hk).1
    rw [List.getElem?_replicate, if_pos hkN] at hk
    cases hk
    refine ⟨.slice none 0 0, fun i hi => ?_, rowX_nil _ _ _ rfl⟩
    rw [zrep_at (by rw [len_rowZ]; omega) N _ (by rw [len_rowZ]; omega), rw0_vals, len_rowZ]
    congr 1; omega

theorem mk_row : MakeOk Tryz.prog 67 118 rowZ := ⟨Tryz.underlying67, by kernel_rfl, by rw [len_rowZ]; omega⟩
@[go_sem ↓] theorem ms_row (ρ : Operand → Value) (d : Option Tmp) (x y : Operand) (ty : TypeId) (s : String) (af : Array Edge) (g : Option (Nat × Bool)) (w : World) (h : madeOk (ρ x) (ρ y) = true) :
    (execOp ρ { dst := d, op := .makeSlice 67 x y, type := ty, pos := s, after := af, guard := g }).run Tryz.prog w =
      .ok (.value (.slice (some ⟨w.heap.size, 0, none⟩) (lenV (ρ x)) (lenV (ρ x)))) (w.alloc (.cells (zrep rowZ (lenV (ρ x))).toArray 118)) := exec_make mk_row ρ d x y ty s af g w h

theorem rvals_take {r : Rw} (hr : r.ok) (tv : Value) : List.take 57 (r.vals tv) = r.vals tv := List.take_of_length_le (by rw [Rw.len hr]; omega)

set_option maxRecDepth 100000 in
set_option maxHeartbeats 1000000 in
theorem norm1_any (S : Nat → Prop) (gn : Nat) (n : Int) (r : Rw) (hr : r.ok) (tv : Value) (w : World) (hn : w.cell? ⟨gn, 0, none⟩ = some (.int .i64 n)) (hgn : gn < w.heap.size) (ht : RowR S w r tv) :
    Calls Tryz.prog 135 #[.agg (r.vals tv).toArray, .pointer (some ⟨gn, 0, none⟩)] w (PlainW n r w) := by
  have hvl := Rw.len hr tv
  have htk := rvals_take hr tv
  have hB := said_frame w (r.vals tv) rowZ 118 118
  have hP := plain_any S n r hr tv _ (ht.below hB)
  have hg : Blk ((w.alloc (.cells (r.vals tv).toArray 118)).alloc (.cells rowZ.toArray 118)) (w.heap.size + 1) 118 rowZ.toArray := by
    have := Blk.new (w.alloc (.cells (r.vals tv).toArray 118)) 118 rowZ.toArray
    have e : (w.alloc (.cells (r.vals tv).toArray 118)).heap.size = w.heap.size + 1 := by simp
    rwa [e] at this
  have H := Lib.hid (And.intro hP (And.intro hB hg))
  have HR := Lib.hid hr
  have hpl := fun tv' : Value => Rw.len (Rw.plain_ok (n := n) hr) tv'
  have HPL := Lib.hid hpl
  clear hP hB hg ht hr hpl
  go_enter Tryz.func135, Tryz.ntmps135
  go_wp2_with fail
  refine H.out.1.mono ?_
  rintro e w1 ⟨tv1, rfl, hrow, hb1⟩
  have hsz : ((w.alloc (.cells (r.vals tv).toArray 118)).alloc (.cells rowZ.toArray 118)).heap.size = w.heap.size + 1 + 1 := by simp
  rw [hsz] at hrow
  have k1 := H.out.2.2.below hb1 (by simp)
  obtain ⟨-, -, q3⟩ := k1.whole len_rowZ
  have hl1 := HPL.out tv1
  have hc1 := hrow.1.cell1 (Rw.plain_ok HR.out)
  obtain ⟨p1, p2, -⟩ := (k1.put_all (l := (r.plain n).vals tv1) (by rw [len_rowZ, hl1])).whole hl1
  have hfin : PlainW n r w (.returned (.agg ((r.plain n).vals tv1).toArray)) (putRow w1 ⟨w.heap.size + 1, 0, none⟩ ((r.plain n).vals tv1)) :=
    ⟨tv1, rfl, (hrow.keep (by simp) (fun b hb _ => putRow_other _ _ _ _ (by simp; omega))).mono (fun b _ h => by omega), Below.put (H.out.2.1.trans (hb1.mono (by simp; omega))) (by simp) _⟩
  have HF := Lib.hid (And.intro p1 (And.intro p2 hfin))
  clear hrow hb1 k1 p1 p2 hfin
  go_wp2_with fail
  try simp only [Exit.inBlock, Exit.then]
  first | refine bodyPost_ret (ret_row (n := 57) rfl (by kernel_rfl) _ _ _ rfl ?_) rfl ?_ | refine bodyPost_end (ret_row (n := 57) rfl (by kernel_rfl) _ _ _ rfl ?_) rfl ?_
  · exact HF.out.1
  · rw [HF.out.2.1]; exact HF.out.2.2

def fillRK (N k : Nat) (l : List Rw) : List Rw := (l.take k).map (Rw.plain N) ++ List.replicate (N - k) rw0
theorem fillRK_len {N k : Nat} {l : List Rw} (h1 : k ≤ N) (h2 : k ≤ l.length) : (fillRK N k l).length = N := by simp [fillRK]; omega
theorem fillR_ok {N : Nat} {l : List Rw} (h : ∀ x ∈ l, x.ok) : ∀ x ∈ fillR N l, x.ok := fun x hx => by
  rcases List.mem_append.1 hx with hx | hx
  · obtain ⟨y, hy, rfl⟩ := List.mem_map.1 hx
    exact Rw.plain_ok (h y (List.mem_of_mem_take hy))
  · rw [List.eq_of_mem_replicate hx]; exact rw0_ok
theorem fillRK_set {N k : Nat} {l : List Rw} {x : Rw} (h1 : k < N) (hx : l[k]? = some x) : (fillRK N k l).set k (x.plain N) = fillRK N (k + 1) l := by
  have h2 : k < l.length := (List.getElem?_eq_some_iff.1 hx).1
  unfold fillRK
  rw [List.take_add_one, hx]
  have e : N - k = (N - (k + 1)) + 1 := by omega
  rw [e, List.replicate_succ, List.set_append, if_neg (by simp; omega)]
  have e2 : k - ((l.take k).map (Rw.plain N)).length = 0 := by simp; omega
  rw [e2]
  simp
theorem fillRK_end (N : Nat) (l : List Rw) : fillRK N (min N l.length) l = fillR N l := by
  unfold fillRK fillR
  by_cases h : N ≤ l.length
  · rw [Nat.min_eq_left h]; simp; omega
  · rw [Nat.min_eq_right (by omega), List.take_of_length_le (by omega), List.take_of_length_le (by omega)]

set_option maxRecDepth 100000 in
set_option maxHeartbeats 1000000 in
theorem fillr_any (S : Nat → Prop) (N : Nat) (hN : N ≤ 16) (gn : Nat) (a : Option Addr) (len cap : Nat) (l : List Rw) (w : World) (hn : w.cell? ⟨gn, 0, none⟩ = some (.int .i64 N)) (hgn : gn < w.heap.size) (hrd : RdRs S w a len l) (hm1 : len ≤ cap) (hm2 : cap ≤ maxLen) :
    Calls Tryz.prog 134 #[.int .i64 N, .slice a len cap, .func (.func 135) #[] #[.pointer (some ⟨gn, 0, none⟩)]] w fun e w' => e = .returned (.slice (some ⟨w.heap.size, 0, none⟩) N N) ∧ RowsB (w.heap.size < ·) w' w.heap.size 118 (fillR N l) ∧ Below w.heap.size w w' := by
  have hl : l.length = len := hrd.1
  unfold maxLen at hm2
  have HR := Lib.hid hrd
  have HN := Lib.hid hn
  clear hrd hn
  have hN1 : N ≤ 1048576 := by omega
  obtain ⟨M, hM⟩ : ∃ M, M = min N len := ⟨_, rfl⟩
  go_enter Tryz.func134, Tryz.ntmps134
  go_wp2_with fail
  case' inl => have e14 : (len : Int) = (M : Int) := by omega
  case' inr => have e14 : (N : Int) = (M : Int) := by omega
  all_goals
    have hst : ∀ z, z = zrep rowZ N → RowsB (w.heap.size < ·) (w.alloc (.cells z.toArray 118)) w.heap.size 118 (fillRK N 0 l) ∧ Below w.heap.size w (w.alloc (.cells z.toArray 118)) := by
      rintro z rfl
      have : fillRK N 0 l = List.replicate N rw0 := by simp [fillRK]
      rw [this]
      exact ⟨RowsB.start _ _ _ _, (Below.refl _ _).alloc (Nat.le_refl _) _⟩
    have hM1 : M ≤ N := by omega
    have hM2 : M ≤ len := by omega
    have HS := Lib.hid hst
    have HM := Lib.hid hM
    clear hM hst
  case' inl => rw [e14]
  case' inr => rw [show (Value.int .i64 (N : Int)) = Value.int .i64 (M : Int) from by rw [e14]]
  all_goals
    clear e14
    go_loopw [15] (fun i wr => ∃ k : Nat, k ≤ M ∧ i = .int .i64 k ∧ RowsB (w.heap.size < ·) wr w.heap.size 118 (fillRK N k l) ∧ Below w.heap.size w wr) (fun i _ => M - (intOf i).toNat)
    case atStart => exact ⟨0, by omega, rfl, HS.out _ rfl⟩
    case round =>
      obtain ⟨k, hk, rfl, hb, hB⟩ := hrel
      by_cases hlt : k < M
      · obtain ⟨b, off, x, m, cp, r, rfl, hS, hbw, hv, hok, hrl, hrc1, hr1, hr2, hr3, hr4, hr5, hr6, hr7⟩ := HR.out.at_ k (by omega)
        have d := row_below hB (p := ⟨b, off + k * 57, none⟩) hbw 57
        have d1 := d.1.trans hr1
        have d2 : rowOf wr ⟨b, off + k * 57, none⟩ 57 = r.vals (.slice x m cp) := d.2.trans hr2
        have hkN : k < N := by omega
        have hkl : k < len := by omega
        have hrow : RowR S wr r (.slice x m cp) := ⟨x, m, cp, rfl, hr5.below hB (fun _ _ h => h), hr6, hr7⟩
        have hcall := norm1_any S gn N r hok (.slice x m cp) wr ((hB.cell (p := ⟨gn, 0, none⟩) hgn).trans HN.out) (Nat.lt_of_lt_of_le hgn hB.size) hrow
        have hset := fillRK_set hkN hv
        have hlenk : (fillRK N k l).length = N := fillRK_len (by omega) (by omega)
        have hwr := hB.size
        have hltg := hb.lt
        have HC := Lib.hid hcall
        have HH := Lib.hid (And.intro hb (And.intro hB (And.intro hset (And.intro hlenk hok))))
        clear d hr1 hr2 hr3 hr4 hr5 hr6 hr7 hv hok hrc1 hcall hset hlenk hb hB hrow hrl
        go_wp2_with fail
        refine HC.out.mono ?_
        rintro e w1 ⟨tv1, rfl, hrow1, hb1⟩
        have hpk := Rw.plain_ok (n := N) HH.out.2.2.2.2
        have hl1 := Rw.len hpk tv1
        have hc1 := hrow1.1.cell1 hpk
        have hbk := HH.out.1.below hb1
        have hcp := hbk.canPut k (by rw [HH.out.2.2.2.1]; exact hkN)
        have hnew := hbk.set (fun b hb => by omega) (by rw [HH.out.2.2.2.1]; exact hkN) hpk (hrow1.mono (fun b _ h => by omega))
        rw [HH.out.2.2.1] at hnew
        have H2 := Lib.hid (And.intro hnew (Below.put (HH.out.2.1.trans (hb1.mono HH.out.2.1.size)) (p := ⟨w.heap.size, k * 57, none⟩) (Nat.le_refl _) ((r.plain N).vals tv1)))
        clear hbk hnew hb1 hrow1 hpk
        go_wp2
        exact ⟨⟨k + 1, by omega, by go_num, H2.out.1, H2.out.2⟩, by simp [intOf]; omega⟩
      · have hkM : k = M := by omega
        subst hkM
        have e : fillRK N k l = fillR N l := by rw [HM.out, ← hl]; exact fillRK_end N l
        rw [e] at hb
        have H2 := Lib.hid (And.intro hb hB)
        clear hb hB e
        go_wp2
        go_ret
        exact ⟨rfl, H2.out.1, H2.out.2⟩
end Go.Proofs.YtnckfjmaochnkaaGreatDoor
