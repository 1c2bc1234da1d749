/-
  The reference's lane of chapter 14: it hears.
-/
import Derived.Test.YtopakilglnpinaaGc32
namespace Go.Proofs.Ytopakilglnpinaa
open Go.RowKit
set_option linter.unusedVariables false
set_option linter.unusedSimpArgs false

/-- half way: a row is there for a new tick, what came not yet -/
structure RfHalf (D : Nat → Prop) (w : World) (lb : Nat) (M : RfM) (vo vo' vc : Value) (w2 : World) : Prop where
  b : Blk w2 lb 88 #[.int .i64 M.n, .int .i64 M.me, .bool true, vo', vc]
  own : ∃ ps : List (Rw × Value), ps.length = M.T ∧ w2.ownsRow 0 74 57 vo' (M.T + 1) (flatP ps ++ rowZ) ∧ ∀ j p, ps[j]? = some p → p.1 = M.own j ∧ p.1.ok ∧ RowR D w p.1 p.2
  lie : vo.ownBlock = vo'.ownBlock ∨ ∀ g, vo'.ownBlock = some g → w.heap.size ≤ g
  c : Chg (fun b => b = lb ∨ vo.ownBlock = some b) w w2
def NewCome (D : Nat → Prop) (M : RfM) (ins : Nat → List Rw) (wA w0 : World) (k : Nat) (e : Ending) (w' : World) : Prop := ∃ a c, e = .returned (.agg #[.slice a M.n c]) ∧ RdRs (wA.heap.size ≤ ·) w' a M.n (fillR M.n (ins k)) ∧ M.n ≤ c ∧ c ≤ maxLen ∧ Below wA.heap.size wA w' ∧ Below w0.heap.size w0 w'
def RHeard (D : Nat → Prop) (lb : Nat) (M : RfM) (vo vc : Value) (ins : Nat → List Rw) (w : World) (e : Ending) (w' : World) : Prop :=
  ∃ (D' : Nat → Prop) (vo' vc' : Value) (a : Option Addr) (cap : Nat), e = .returned (.slice a M.n cap) ∧ RfAt D' w' lb (M.put ins) vo' vc' ∧ RdRs (fun _ => True) w' a M.n (tab M.n (M.put ins).held) ∧ M.n ≤ cap ∧ cap ≤ maxLen ∧ Chg (RfC lb vo vc) w w' ∧ ∀ b, RfS D' lb vo' vc' b → RfS D lb vo vc b ∨ w.heap.size ≤ b
theorem Chg.grown_ {S : Nat → Prop} {a b c : World} (h : Chg S a b) {o : Option Nat} (hg : b.grownBy c o) (ho : ∀ k, o = some k → S k ∨ a.heap.size ≤ k) : Chg S a c :=
  ⟨hg.os.trans h.os, hg.tape.trans h.tape, hg.output.trans h.output, Nat.le_trans h.size hg.size,
   fun i hi hn => (hg.block i (Nat.lt_of_lt_of_le hi h.size) fun e => by
      rcases ho i e.symm with h1 | h1
      · exact hn h1
      · omega).trans (h.block i hi hn)⟩
theorem RowsO.rd {w0 : World} {D : Nat → Prop} {ps : List (Rw × Value)} {v : Value} {w : World} (h : RowsO w0 D ps v w) : ∃ a cap, v = .slice a ps.length cap ∧ RdRs (fun _ => True) w a ps.length (ps.map Prod.fst) ∧ ps.length ≤ cap ∧ cap ≤ maxLen := by
  have hall : ∀ r ∈ ps.map Prod.fst, r.ok := fun r hr => by
    obtain ⟨p, hp, rfl⟩ := List.mem_map.1 hr
    exact (h.ps p hp).1
  rcases h.own.2 with ⟨rfl, h0⟩ | ⟨g, cap, cur, rfl, g1, g2, g3, g4, -⟩
  · have : ps = [] := List.length_eq_zero_iff.1 h0
    subst this
    exact ⟨none, 0, rfl, ⟨rfl, by simp, by simp⟩, Nat.le_refl _, by simp⟩
  · refine ⟨some ⟨g, 0, none⟩, cap, rfl, ⟨by simp, hall, fun k r hk => ?_⟩, g3, g4⟩
    have hkl : k < ps.length := by
      have := (List.getElem?_eq_some_iff.1 hk).1
      simpa using this
    obtain ⟨g', cap', r', tv, hve, -, -, -, hg', hp, hok, hrow, -, -, h1, h2⟩ := h.at_ hkl
    cases hve
    have e : r' = r := by rw [List.getElem?_map, hp] at hk; simpa using hk
    subst e
    obtain ⟨xx, mm, cp, rfl, y1, y2, y3⟩ := hrow.below h.bel
    exact ⟨g, 0, xx, mm, cp, rfl, trivial, hg', by simpa using h1, by simpa using h2, y1.mono fun _ _ _ => trivial, y2, y3⟩
theorem RdRs.below' {S : Nat → Prop} {w w' : World} {a : Option Addr} {n : Nat} {l : List Rw} (h : RdRs S w a n l) (hb : Below w.heap.size w w') : RdRs S w' a n l := h.keep hb.size fun b _ hl => hb.block b hl
theorem four_flat {u0 u1 u2 u3 : Value} {us : List Value} {T j k : Nat} (hl : us.length = T * 4) (hj : j < T + 1) (hk : k < 4) : (us ++ [u0, u1, u2, u3])[j * 4 + k]? = if j = T then [u0, u1, u2, u3][k]? else us[j * 4 + k]? := by
  by_cases h : j = T
  · rw [if_pos h, h, List.getElem?_append_right (by omega), hl, show T * 4 + k - T * 4 = k from by omega]
  · rw [if_neg h, List.getElem?_append_left (by omega)]
theorem RfHalf.done {D : Nat → Prop} {w wA w6 w7 : World} {lb : Nat} {M : RfM} {vo vo' vc : Value} (hA : RfHalf D w lb M vo vo' vc wA) (h : RfAt D w lb M vo vc) (hb : Below wA.heap.size wA w6) {a0 a1 a2 a3 : Option Addr} {c0 c1 c2 c3 : Nat} {ins : Nat → List Rw}
    (hx : RdRs (wA.heap.size ≤ ·) w6 a0 M.n (fillR M.n (ins 0)) ∧ RdRs (wA.heap.size ≤ ·) w6 a1 M.n (fillR M.n (ins 1)) ∧ RdRs (wA.heap.size ≤ ·) w6 a2 M.n (fillR M.n (ins 2)) ∧ RdRs (wA.heap.size ≤ ·) w6 a3 M.n (fillR M.n (ins 3)))
    (hc : (M.n ≤ c0 ∧ c0 ≤ maxLen) ∧ (M.n ≤ c1 ∧ c1 ≤ maxLen) ∧ (M.n ≤ c2 ∧ c2 ≤ maxLen) ∧ M.n ≤ c3 ∧ c3 ≤ maxLen) {us : List Value} (hu : wA.ownsRow 0 66 4 vc M.T us)
    (hus : ∀ j k, j < M.T → k < 4 → ∃ a c, us[j * 4 + k]? = some (.slice a M.n c) ∧ RdRs D w a M.n (fillR M.n (M.ins j k)) ∧ M.n ≤ c ∧ c ≤ maxLen) {g7 cp7 : Nat} {o : Obj}
    (h7 : w7.ownsRow 0 66 4 (.slice (some ⟨g7, 0, none⟩) (M.T + 1) cp7) (M.T + 1) (us ++ [.slice a0 M.n c0, .slice a1 M.n c1, .slice a2 M.n c2, .slice a3 M.n c3]))
    (hg : (w6.alloc o).grownBy w7 vc.ownBlock) (hlie : vc.ownBlock = some g7 ∨ g7 = (w6.alloc o).heap.size) (hT : M.T ≤ 900) :
    ∃ D' : Nat → Prop, RfAt D' (w7.setCell ⟨lb, 4, none⟩ (.slice (some ⟨g7, 0, none⟩) (M.T + 1) cp7)) lb (M.put ins) vo' (.slice (some ⟨g7, 0, none⟩) (M.T + 1) cp7) ∧ Chg (RfC lb vo vc) w (w7.setCell ⟨lb, 4, none⟩ (.slice (some ⟨g7, 0, none⟩) (M.T + 1) cp7)) ∧
      ∀ b, RfS D' lb vo' (.slice (some ⟨g7, 0, none⟩) (M.T + 1) cp7) b → RfS D lb vo vc b ∨ w.heap.size ≤ b := by
  obtain ⟨vc', hvc⟩ : ∃ vc' : Value, vc' = .slice (some ⟨g7, 0, none⟩) (M.T + 1) cp7 := ⟨_, rfl⟩
  have hvcb : vc'.ownBlock = some g7 := by rw [hvc]; rfl
  rw [← hvc] at h7 ⊢
  have hs1 := hA.c.size
  have hs2 := hb.size
  have hs3 := hg.size
  have hs3' : w6.heap.size + 1 ≤ w7.heap.size := by simpa using hs3
  obtain ⟨psx, px1, px2, px3⟩ := hA.own
  obtain ⟨usw, hcw, -⟩ := h.come
  have hvcw : ∀ g, vc.ownBlock = some g → g < w.heap.size := fun g hg => own_lt hcw hg
  have hvcl : vc.ownBlock ≠ some lb := own_not hcw h.b (by decide)
  have hvol : vo'.ownBlock ≠ some lb := own_not px2 hA.b (by decide)
  have hvcl' : vc'.ownBlock ≠ some lb := by
    rw [hvcb]
    intro e
    have e : g7 = lb := by simpa using e
    rcases hlie with h1 | h1
    · exact hvcl (by rw [h1, e])
    · have := h.b.lt; simp at h1; omega
  have hov : ∀ g, vo'.ownBlock = some g → g < wA.heap.size ∧ vc.ownBlock ≠ some g := fun g hg => ⟨own_lt px2 hg, fun hv => by
    rcases hu.2 with ⟨rfl, -⟩ | ⟨g', cap', cur', rfl, -, hg', -⟩
    · cases hv
    · have e : g' = g := by simpa [Value.ownBlock] using hv
      subst e
      exact own_not px2 (g := g') (t := 66) (cs := cur') hg' (by decide) hg⟩
  -- what turned
  have hchg : Chg (RfC lb vo vc) w (w7.setCell ⟨lb, 4, none⟩ vc') := by
    refine Chg.setCell (Chg.grown_ (((hA.c.mono (S' := RfC lb vo vc) fun b _ hb => hb.elim .inl fun h => .inr (.inl h)).trans (Chg.of_below hb _)).alloc o) hg fun k hk => .inl (.inr (.inr hk))) (p := ⟨lb, 4, none⟩) (.inl (.inl rfl)) _
  -- a block that was there behind the first half
  have hkeepA : ∀ b, b < w6.heap.size → b ≠ lb → vc.ownBlock ≠ some b → (w7.setCell ⟨lb, 4, none⟩ vc').heap[b]? = w6.heap[b]? := fun b hb1 hb2 hb3 => by
    have e1 := Below.heap_setCell w7 ⟨lb, 4, none⟩ vc' b hb2
    have e2 := hg.block b (by simp; omega) (fun e => hb3 e.symm)
    have e3 := Below.heap_alloc w6 o b hb1
    exact e1.trans (e2.trans e3)
  have hdn : ∀ b, D b → b < w.heap.size ∧ ¬ RfC lb vo vc b := fun b hb => ⟨(h.dn b hb).1, fun hc => by
    obtain ⟨-, d1, d2, d3⟩ := h.dn b hb
    rcases hc with hc | hc | hc
    · exact d1 hc
    · exact d2 hc
    · exact d3 hc⟩
  have hkeepD : ∀ b, D b → (w7.setCell ⟨lb, 4, none⟩ vc').heap[b]? = w.heap[b]? := fun b hb => hchg.block b (hdn b hb).1 (hdn b hb).2
  refine ⟨fun b => D b ∨ (w.heap.size ≤ b ∧ b < (w7.setCell ⟨lb, 4, none⟩ vc').heap.size ∧ vo'.ownBlock ≠ some b ∧ vc'.ownBlock ≠ some b), ⟨?_, ?_, ?_, fun b hb => ?_, ?_⟩, hchg, fun b hb => ?_⟩
  · have hb7 : Blk w7 lb 88 #[.int .i64 M.n, .int .i64 M.me, .bool true, vo', vc] := (hg.block lb (by have := hA.b.lt; simp; omega) (fun e => hvcl e.symm)).trans ((hA.b.below hb hA.b.lt).alloc _)
    have := hb7.set_ 4 vc'
    simpa [rlV, RfM.put] using this
  · refine ⟨psx ++ [(rw0, .slice none 0 0)], by simp [px1, RfM.put], ?_, fun j p hp => ?_⟩
    · have e : flatP (psx ++ [(rw0, .slice none 0 0)]) = flatP psx ++ rowZ := by simp [flatP, rw0_vals]
      rw [e]
      show World.ownsRow _ _ _ _ _ (M.T + 1) _
      exact own_block px2 fun q hq => by
        obtain ⟨q1, q2⟩ := hov q hq
        have e1 := hkeepA q (by omega) (by rintro rfl; exact hvol hq) q2
        exact e1.trans (hb.block q q1)
    · show p.1 = (if j = M.T then rw0 else M.own j) ∧ _
      by_cases hj : j < psx.length
      · rw [List.getElem?_append_left hj] at hp
        obtain ⟨y1, y2, y3⟩ := px3 j p hp
        rw [if_neg (by omega)]
        exact ⟨y1, y2, (y3.keep hchg.size fun b hb _ => hkeepD b hb).mono fun b _ hb => .inl hb⟩
      · have hj2 : j = psx.length := by
          have := (List.getElem?_eq_some_iff.1 hp).1
          simp at this; omega
        rw [hj2, List.getElem?_append_right (Nat.le_refl _), Nat.sub_self] at hp
        have hp' : p = (rw0, .slice none 0 0) := by simpa using hp.symm
        rw [if_pos (by omega), hp']
        exact ⟨rfl, rw0_ok, rowR_nil _ _ _ rfl⟩
  · refine ⟨us ++ [.slice a0 M.n c0, .slice a1 M.n c1, .slice a2 M.n c2, .slice a3 M.n c3], ?_, fun j k hj hk => ?_⟩
    · show World.ownsRow _ _ _ _ _ (M.T + 1) _
      exact own_block h7 fun q hq => Below.heap_setCell w7 ⟨lb, 4, none⟩ vc' q (by rintro rfl; exact hvcl' hq)
    · have hj' : j < M.T + 1 := hj
      rw [four_flat hu.1 hj' hk]
      show ∃ a c, _ ∧ RdRs _ _ a M.n (fillR M.n ((if j = M.T then ins else M.ins j) k)) ∧ _
      by_cases hjT : j = M.T
      · rw [if_pos hjT, if_pos hjT]
        have lift : ∀ {a : Option Addr} {l : List Rw}, RdRs (wA.heap.size ≤ ·) w6 a M.n l → RdRs (fun b => D b ∨ (w.heap.size ≤ b ∧ b < (w7.setCell ⟨lb, 4, none⟩ vc').heap.size ∧ vo'.ownBlock ≠ some b ∧ vc'.ownBlock ≠ some b)) (w7.setCell ⟨lb, 4, none⟩ vc') a M.n l := fun {a l} hr => by
          have hlow := hr.mono (S' := fun b => wA.heap.size ≤ b ∧ b < w6.heap.size) fun b hb1 hb2 => ⟨hb2, hb1⟩
          refine (hlow.keep (by simp; omega) fun b hb1 hb2 => hkeepA b hb2 (by have := hA.b.lt; omega) fun e => by have := hvcw b e; omega).mono fun b hb1 hb2 => .inr ⟨by omega, hb1, fun e => by have := (hov b e).1; omega, fun e => ?_⟩
          rw [hvcb] at e
          have e : g7 = b := by simpa using e
          rcases hlie with h1 | h1
          · have := hvcw g7 h1; omega
          · simp at h1; omega
        obtain ⟨x0, x1, x2, x3⟩ := hx
        obtain ⟨y0, y1, y2, y3⟩ := hc
        match k, hk with
        | 0, _ => exact ⟨a0, c0, rfl, lift x0, y0⟩
        | 1, _ => exact ⟨a1, c1, rfl, lift x1, y1⟩
        | 2, _ => exact ⟨a2, c2, rfl, lift x2, y2⟩
        | 3, _ => exact ⟨a3, c3, rfl, lift x3, y3⟩
      · rw [if_neg hjT, if_neg hjT]
        obtain ⟨a, c, e1, e2, e3⟩ := hus j k (by omega) hk
        exact ⟨a, c, e1, (e2.keep hchg.size fun b hb _ => hkeepD b hb).mono fun b _ hb => .inl hb, e3⟩
  · rcases hb with hb | ⟨b1, b2, b3, b4⟩
    · obtain ⟨d0, d1, d2, d3⟩ := h.dn b hb
      refine ⟨Nat.lt_of_lt_of_le d0 hchg.size, d1, fun e => ?_, fun e => ?_⟩
      · rcases hA.lie with hl | hl
        · exact d2 (hl.trans e)
        · have := hl b e; omega
      · rw [hvcb] at e
        have e : g7 = b := by simpa using e
        rcases hlie with h1 | h1
        · exact d3 (by rw [h1, e])
        · simp at h1; omega
    · exact ⟨b2, by have := h.b.lt; omega, b3, b4⟩
  · refine ⟨?_, h.le.2⟩
    show M.T + 1 ≤ 1000
    omega
  · rcases hb with rfl | hb | hb | hb | hb
    · exact .inl (.inl rfl)
    · rcases hA.lie with hl | hl
      · exact .inl (.inr (.inl (hl.trans hb)))
      · exact .inr (hl b hb)
    · rw [hvcb] at hb
      have e : g7 = b := by simpa using hb
      rcases hlie with h1 | h1
      · exact .inl (.inr (.inr (.inl (by rw [h1, e]))))
      · simp at h1; right; omega
    · exact .inl (.inr (.inr (.inr hb)))
    · exact .inr hb.1
set_option maxRecDepth 100000 in
set_option maxHeartbeats 8000000 in
theorem rhear_any {D R : Nat → Prop} {w : World} {lb : Nat} {M : RfM} {vo vc : Value} (h : RfAt D w lb M vo vc) {a : Nat → Option Addr} {ln cp : Nat → Nat} {ins : Nat → List Rw} (hI : InsR R w a ln cp ins) (hR : ∀ b, R b → ¬ RfC lb vo vc b) (hT : M.T ≤ 900) :
    Calls Try.prog 11 #[.pointer (some ⟨lb, 0, none⟩), .agg #[insV a ln cp 0, insV a ln cp 1, insV a ln cp 2, insV a ln cp 3]] w (RHeard D lb M vo vc ins w) := by
  obtain ⟨l1, l2, l3, l4⟩ := h.le
  have HR := Lib.hid h
  have HI := Lib.hid hI
  have HRR := Lib.hid hR
  unfold insV
  obtain ⟨iv, hiv⟩ : ∃ iv : List Value, iv = [.slice (a 0) (ln 0) (cp 0), .slice (a 1) (ln 1) (cp 1), .slice (a 2) (ln 2) (cp 2), .slice (a 3) (ln 3) (cp 3)] := ⟨_, rfl⟩
  have HB1 : Hid (Below w.heap.size w (w.alloc (.cells iv.toArray 66))) := Lib.hid ((Below.refl _ _).alloc (Nat.le_refl _) _)
  have HP1 : Hid (Blk (w.alloc (.cells iv.toArray 66)) w.heap.size 66 iv.toArray) := Lib.hid (Blk.new _ _ _)
  rw [hiv] at HB1 HP1
  clear h hI hR hiv
  go_enter Try.func11, Try.ntmps11
  go_upto_region 1 with fail
  rw [show (#[Value.slice (a 0) (ln 0) (cp 0), .slice (a 1) (ln 1) (cp 1), .slice (a 2) (ln 2) (cp 2), .slice (a 3) (ln 3) (cp 3)] : Array Value) = [Value.slice (a 0) (ln 0) (cp 0), .slice (a 1) (ln 1) (cp 1), .slice (a 2) (ln 2) (cp 2), .slice (a 3) (ln 3) (cp 3)].toArray from rfl]
  generalize w.alloc (.cells ([Value.slice (a 0) (ln 0) (cp 0), .slice (a 1) (ln 1) (cp 1), .slice (a 2) (ln 2) (cp 2), .slice (a 3) (ln 3) (cp 3)].toArray) 66) = w1 at HB1 HP1 ⊢
  obtain ⟨pb, hpb⟩ : ∃ pb, pb = w.heap.size := ⟨_, rfl⟩
  rw [← hpb] at HP1 ⊢
  have hlb : lb < pb := by rw [hpb]; exact HR.out.b.lt
  have HPB := Lib.hid hpb
  clear hpb
  have hbl : Blk w1 lb 88 (rlV M vo vc).toArray := HR.out.b.below HB1.out HR.out.b.lt
  have HBL := Lib.hid hbl
  have c2 := hbl.cell 2
  have z2 := hbl.frozen 2
  simp [rlV] at c2
  clear hbl
  go_upto_region 2 with fail
  have HB2 : Hid (Blk (w1.setCell ⟨lb, 2, none⟩ (.bool true)) lb 88 #[.int .i64 M.n, .int .i64 M.me, .bool true, vo, vc]) := Lib.hid (by
    have := HBL.out.set_ 2 (.bool true)
    simpa [rlV] using this)
  have HC2 : Hid (Chg (· = lb) w (w1.setCell ⟨lb, 2, none⟩ (.bool true))) := Lib.hid ((Chg.of_below HB1.out (· = lb)).setCell (p := ⟨lb, 2, none⟩) (.inl rfl) _)
  have HP2 : Hid (Blk (w1.setCell ⟨lb, 2, none⟩ (.bool true)) pb 66 [Value.slice (a 0) (ln 0) (cp 0), .slice (a 1) (ln 1) (cp 1), .slice (a 2) (ln 2) (cp 2), .slice (a 3) (ln 3) (cp 3)].toArray) := Lib.hid (HP1.out.far (p := ⟨lb, 2, none⟩) (by show pb ≠ lb; omega) _)
  generalize w1.setCell ⟨lb, 2, none⟩ (.bool true) = w2 at HB2 HC2 HP2 ⊢
  clear HBL HP1 HB1 c2 z2
  obtain ⟨ps, p1, p2, p3⟩ := HR.out.own
  have hnl : vo.ownBlock ≠ some lb := own_not p2 HR.out.b (by decide)
  have HOX : Hid (w2.ownsRow 0 74 57 vo M.T (flatP ps)) := Lib.hid (own_block p2 fun q hq => HC2.out.block q (own_lt p2 hq) (by rintro rfl; exact hnl hq))
  have HPS := Lib.hid (And.intro p1 p3)
  have HNL := Lib.hid hnl
  have HVL : Hid (∀ g, vo.ownBlock = some g → g < w.heap.size) := Lib.hid fun g hg => own_lt p2 hg
  clear p1 p2 p3 hnl
  have c3 := HB2.out.cell 3
  have z3 := HB2.out.frozen 3
  simp at c3
  have hrl : rowZ.length = 57 := len_rowZ
  have hrc : rowZ.all cell1 = true := by first | exact rowZ_cell1 | rfl | decide
  obtain ⟨rv, hrv⟩ : ∃ rv, rv = rowZ := ⟨_, rfl⟩
  rw [← hrv] at hrl hrc
  have hlw2 : lb < w2.heap.size := HB2.out.lt
  go_upto_region 3 with (at_builtin; rw [show rowZ = rv from hrv.symm]; refine wpList_lies app_rrow (by rfl) (.tmp 14) (.tmp 16) (by rfl) 0 _ _ _ (by rfl) (HOX.out.alloc _) ⟨w2.heap.size, 0, none⟩ 1 1 rv (by rfl) (by simp [hrl]) (hasRow_new w2 _ _ 0 57 (by simp [hrl])) ((rowOf_new w2 _ _ 0 57 (by simp [hrl])).trans (List.take_of_length_le (by simp [hrl]))) hrc (by omega) (by omega) (by omega) ?_; intro gg cp3 w3 hown1 hgrow hlie; have H3 := Lib.hid (And.intro hown1 (And.intro hgrow hlie)); have hb3 := ((hgrow.block lb (by simp; omega) (fun e => HNL.out e.symm)).trans (HB2.out.alloc _)); have z4 := Blk.frozen hb3 3; have c4 := Blk.cell hb3 3; simp at c4; have HB3 := Lib.hid hb3; clear hown1 hgrow hlie hb3)
  obtain ⟨vo', hvo'⟩ : ∃ vo' : Value, vo' = .slice (some ⟨gg, 0, none⟩) (M.T + 1) cp3 := ⟨_, rfl⟩
  rw [← hvo'] at H3 ⊢
  have HVO : Hid (vo'.ownBlock = some gg) := Lib.hid (by rw [hvo']; rfl)
  have hl3 : w2.heap.size + 1 ≤ w3.heap.size := by have := H3.out.2.1.size; simpa using this
  have HA : Hid (RfHalf D w lb M vo vo' vc (w3.setCell ⟨lb, 3, none⟩ vo')) := Lib.hid (by
    obtain ⟨k1, k2, k3⟩ := H3.out
    have hnl' : vo'.ownBlock ≠ some lb := own_not k1 HB3.out (by decide)
    rw [hrv] at k1
    refine ⟨?_, ⟨ps, HPS.out.1, own_block k1 fun q hq => ?_, HPS.out.2⟩, ?_, ?_⟩
    · have := Blk.set_ (h := HB3.out) 3 vo'
      simpa using this
    · exact (Below.heap_setCell w3 ⟨lb, 3, none⟩ vo' q (by rintro rfl; exact hnl' hq))
    · rw [HVO.out]
      rcases k3 with k3 | k3
      · exact .inl k3
      · right
        intro g hg
        have := HC2.out.size
        cases hg
        simp at k3
        omega
    · exact ((((HC2.out.mono (S' := fun b => b = lb ∨ vo.ownBlock = some b) fun b _ h => .inl h).alloc _).grown_ k2 fun q hq => .inl (.inr hq)).setCell (p := ⟨lb, 3, none⟩) (.inl (.inl rfl)) _))
  have HPA : Hid (Blk (w3.setCell ⟨lb, 3, none⟩ vo') pb 66 [Value.slice (a 0) (ln 0) (cp 0), .slice (a 1) (ln 1) (cp 1), .slice (a 2) (ln 2) (cp 2), .slice (a 3) (ln 3) (cp 3)].toArray) := Lib.hid (by
    have h1 : Blk w3 pb 66 [Value.slice (a 0) (ln 0) (cp 0), .slice (a 1) (ln 1) (cp 1), .slice (a 2) (ln 2) (cp 2), .slice (a 3) (ln 3) (cp 3)].toArray := (H3.out.2.1.block pb (by have := HP2.out.lt; simp; omega) (fun e => by have := HVL.out pb e.symm; rw [HPB.out] at this; omega)).trans (HP2.out.alloc _)
    exact h1.far (p := ⟨lb, 3, none⟩) (by show pb ≠ lb; omega) _)
  generalize w3.setCell ⟨lb, 3, none⟩ vo' = wA at HA HPA ⊢
  clear H3 HB3 HB2 HC2 HP2 HOX HPS z4 c4 z3 c3 hlw2 hl3 hvo'
  have F : Hid (∀ w', Below wA.heap.size wA w' → w'.cell? ⟨lb, 0, none⟩ = some (.int .i64 M.n) ∧ w'.cell? ⟨lb, 4, none⟩ = some vc ∧ w'.cell? ⟨pb, 0, none⟩ = some (.slice (a 0) (ln 0) (cp 0)) ∧ w'.cell? ⟨pb, 1, none⟩ = some (.slice (a 1) (ln 1) (cp 1)) ∧ w'.cell? ⟨pb, 2, none⟩ = some (.slice (a 2) (ln 2) (cp 2)) ∧ w'.cell? ⟨pb, 3, none⟩ = some (.slice (a 3) (ln 3) (cp 3))) := Lib.hid fun w' hb => by
    have b1 := HA.out.b.below hb HA.out.b.lt
    have b2 := HPA.out.below hb HPA.out.lt
    exact ⟨b1.cell 0, b1.cell 4, b2.cell 0, b2.cell 1, b2.cell 2, b2.cell 3⟩
  have HN : Hid (∀ k, k < 4 → ∀ w', Below wA.heap.size wA w' → Calls Try.prog 26 #[.int .i64 M.n, .agg #[.slice (a k) (ln k) (cp k)]] w' (NewCome D M ins wA w' k)) := Lib.hid fun k hk w' hb => by
    have hrd : RdRs R w' (a k) (ln k) (ins k) := (HI.out.rd k hk).keep (Nat.le_trans HA.out.c.size hb.size) fun b hRb hl => (hb.block b (Nat.lt_of_lt_of_le hl HA.out.c.size)).trans (HA.out.c.block b hl fun hc => HRR.out b hRb (hc.elim .inl fun h => .inr (.inl h)))
    refine (rnorm_any R M.n (a k) (ln k) (cp k) (ins k) w' hrd (HI.out.le k hk).1 (HI.out.le k hk).2).mono ?_
    rintro e w'' ⟨a', c', rfl, h1, h2, h3, h4⟩
    have e1 : normW M.n (ins k) = fillR M.n (ins k) := by unfold normW; rw [if_pos (by simp [mayN]; omega)]; simp
    rw [e1, fillR_len] at h1 h2
    rw [e1, fillR_len]
    exact ⟨a', c', rfl, h1.mono fun b _ hb' => Nat.le_trans hb.size hb', h2, h3, hb.trans (h4.mono hb.size), h4⟩
  have HN0 := Lib.hid (HN.out 0 (by omega))
  have HN1 := Lib.hid (HN.out 1 (by omega))
  have HN2 := Lib.hid (HN.out 2 (by omega))
  have HN3 := Lib.hid (HN.out 3 (by omega))
  clear HN
  obtain ⟨us, u1, u2⟩ := HR.out.come
  have HUS := Lib.hid u2
  have hvcl : vc.ownBlock ≠ some lb := own_not u1 HR.out.b (by decide)
  have HVC : Hid (vc.ownBlock ≠ some lb ∧ (∀ g, vc.ownBlock = some g → g < w.heap.size) ∧ ∀ g, vc.ownBlock = some g → vo.ownBlock ≠ some g) := Lib.hid ⟨hvcl, fun g hg => own_lt u1 hg, fun g hg hv => by
    obtain ⟨ps, -, k1, -⟩ := HR.out.own
    rcases u1.2 with ⟨rfl, -⟩ | ⟨g', cap', cur', rfl, -, hg', -⟩
    · cases hg
    · have e : g' = g := by simpa [Value.ownBlock] using hg
      subst e
      exact own_not k1 (g := g') (t := 66) (cs := cur') hg' (by decide) hv⟩
  have HCM : Hid (∀ w', Below wA.heap.size wA w' → w'.ownsRow 0 66 4 vc M.T us) := Lib.hid fun w' hb => own_block u1 fun q hq => by
    have hq1 := own_lt u1 hq
    exact (hb.block q (Nat.lt_of_lt_of_le hq1 HA.out.c.size)).trans (HA.out.c.block q hq1 fun hc => hc.elim (fun e => HVC.out.1 (e ▸ hq)) fun h => HVC.out.2.2 q hq h)
  have FL : Hid (∀ w', Below wA.heap.size wA w' → Blk w' lb 88 #[.int .i64 M.n, .int .i64 M.me, .bool true, vo', vc]) := Lib.hid fun w' hb => HA.out.b.below hb HA.out.b.lt
  clear u1 u2 hvcl
  have FS : Hid (∀ w', Below wA.heap.size wA w' → w'.cell? ⟨lb, 0, none⟩ = some (.int .i64 M.n) ∧ w'.cell? ⟨pb, 0, none⟩ = some (.slice (a 0) (ln 0) (cp 0)) ∧ w'.cell? ⟨pb, 1, none⟩ = some (.slice (a 1) (ln 1) (cp 1)) ∧ w'.cell? ⟨pb, 2, none⟩ = some (.slice (a 2) (ln 2) (cp 2)) ∧ w'.cell? ⟨pb, 3, none⟩ = some (.slice (a 3) (ln 3) (cp 3))) := Lib.hid fun w' hb => by
    obtain ⟨x0, -, x1, x2, x3, x4⟩ := F.out w' hb
    exact ⟨x0, x1, x2, x3, x4⟩
  have f4 := (F.out wA (Below.refl _ _)).2.1
  have FP : Hid (∀ w', Below wA.heap.size wA w' → Blk w' pb 66 [Value.slice (a 0) (ln 0) (cp 0), .slice (a 1) (ln 1) (cp 1), .slice (a 2) (ln 2) (cp 2), .slice (a 3) (ln 3) (cp 3)].toArray) := Lib.hid fun w' hb => HPA.out.below hb HPA.out.lt
  have hpl : pb ≠ lb := by omega
  go_cut [] from 20 to 57 (fun wx => ∃ (wF : World) (D' : Nat → Prop) (vc' : Value), wF = wx ∧ RfAt D' wF lb (M.put ins) vo' vc' ∧ Chg (RfC lb vo vc) w wF ∧ ∀ b, RfS D' lb vo' vc' b → RfS D lb vo vc b ∨ w.heap.size ≤ b)
  case first =>
    refine wp_region_held_drew (S := (fun w' => w'.cell? ⟨lb, 0, none⟩ = some (.int .i64 M.n) ∧ w'.cell? ⟨pb, 0, none⟩ = some (.slice (a 0) (ln 0) (cp 0)) ∧ w'.cell? ⟨pb, 1, none⟩ = some (.slice (a 1) (ln 1) (cp 1)) ∧ w'.cell? ⟨pb, 2, none⟩ = some (.slice (a 2) (ln 2) (cp 2)) ∧ w'.cell? ⟨pb, 3, none⟩ = some (.slice (a 3) (ln 3) (cp 3)))) (by kernel_rfl) ?_ (fun hHeld => ?_)
    · exact FS.out _ (Below.refl _ _).drew
    refine wpAnyH_take (i := 0) (oi := ?_) (v := ?_) ?_ (by kernel_rfl) (by kernel_rfl) (by kernel_rfl) ?_ (Or.inl ⟨?_, ?_⟩) (by assumption) ?_
    rotate_left 2
    · simp only [List.getElem?_toArray, List.getElem?_cons_zero, List.getElem?_cons_succ]; rfl
    · exact fun _ _ _ h => h
    · rfl
    · intro w' hSw; (try dsimp only at hSw); (first | (go_simp; done) | (go_simp; with_reducible rfl))
    try simp only [Act.put, List.setIfInBounds_toArray, List.set_cons_zero, List.set_cons_succ]
    refine wpAnyH_take (i := 1) (oi := ?_) (v := ?_) ?_ (by kernel_rfl) (by kernel_rfl) (by kernel_rfl) ?_ (Or.inl ⟨?_, ?_⟩) (by assumption) ?_
    rotate_left 2
    · simp only [List.getElem?_toArray, List.getElem?_cons_zero, List.getElem?_cons_succ]; rfl
    · exact fun _ _ _ h => h
    · rfl
    · intro w' hSw; (try dsimp only at hSw); (first | (go_simp; done) | (go_simp; with_reducible rfl))
    try simp only [Act.put, List.setIfInBounds_toArray, List.set_cons_zero, List.set_cons_succ]
    refine wpAnyH_take (i := 2) (oi := ?_) (v := ?_) ?_ (by kernel_rfl) (by kernel_rfl) (by kernel_rfl) ?_ (Or.inl ⟨?_, ?_⟩) (by assumption) ?_
    rotate_left 2
    · simp only [List.getElem?_toArray, List.getElem?_cons_zero, List.getElem?_cons_succ]; rfl
    · exact fun _ _ _ h => h
    · rfl
    · intro w' hSw; (try dsimp only at hSw); (first | (go_simp; done) | (go_simp; with_reducible rfl))
    try simp only [Act.put, List.setIfInBounds_toArray, List.set_cons_zero, List.set_cons_succ]
    refine wpAnyH_take (i := 3) (oi := ?_) (v := ?_) ?_ (by kernel_rfl) (by kernel_rfl) (by kernel_rfl) ?_ (Or.inl ⟨?_, ?_⟩) (by assumption) ?_
    rotate_left 2
    · simp only [List.getElem?_toArray, List.getElem?_cons_zero, List.getElem?_cons_succ]; rfl
    · exact fun _ _ _ h => h
    · rfl
    · intro w' hSw; (try dsimp only at hSw); (first | (go_simp; done) | (go_simp; with_reducible rfl))
    try simp only [Act.put, List.setIfInBounds_toArray, List.set_cons_zero, List.set_cons_succ]
    refine wpAnyH_take (i := 5) (oi := ?_) (v := ?_) ?_ (by kernel_rfl) (by kernel_rfl) (by kernel_rfl) ?_ (Or.inl ⟨?_, ?_⟩) (by assumption) ?_
    rotate_left 2
    · simp only [List.getElem?_toArray, List.getElem?_cons_zero, List.getElem?_cons_succ]; rfl
    · exact fun _ _ _ h => h
    · rfl
    · intro w' hSw; (try dsimp only at hSw); (first | (go_simp; done) | (go_simp; with_reducible rfl))
    try simp only [Act.put, List.setIfInBounds_toArray, List.set_cons_zero, List.set_cons_succ]
    refine wpAnyH_take (i := 6) (oi := ?_) (v := ?_) ?_ (by kernel_rfl) (by kernel_rfl) (by kernel_rfl) ?_ (Or.inl ⟨?_, ?_⟩) (by assumption) ?_
    rotate_left 2
    · simp only [List.getElem?_toArray, List.getElem?_cons_zero, List.getElem?_cons_succ]; rfl
    · exact fun _ _ _ h => h
    · rfl
    · intro w' hSw; (try dsimp only at hSw); (first | (go_simp; done) | (go_simp; with_reducible rfl))
    try simp only [Act.put, List.setIfInBounds_toArray, List.set_cons_zero, List.set_cons_succ]
    refine wpAnyH_take (i := 7) (oi := ?_) (v := ?_) ?_ (by kernel_rfl) (by kernel_rfl) (by kernel_rfl) ?_ (Or.inl ⟨?_, ?_⟩) (by assumption) ?_
    rotate_left 2
    · simp only [List.getElem?_toArray, List.getElem?_cons_zero, List.getElem?_cons_succ]; rfl
    · exact fun _ _ _ h => h
    · rfl
    · intro w' hSw; (try dsimp only at hSw); (first | (go_simp; done) | (go_simp; with_reducible rfl))
    try simp only [Act.put, List.setIfInBounds_toArray, List.set_cons_zero, List.set_cons_succ]
    refine wpAnyH_take (i := 8) (oi := ?_) (v := ?_) ?_ (by kernel_rfl) (by kernel_rfl) (by kernel_rfl) ?_ (Or.inl ⟨?_, ?_⟩) (by assumption) ?_
    rotate_left 2
    · simp only [List.getElem?_toArray, List.getElem?_cons_zero, List.getElem?_cons_succ]; rfl
    · exact fun _ _ _ h => h
    · rfl
    · intro w' hSw; (try dsimp only at hSw); (first | (go_simp; done) | (go_simp; with_reducible rfl))
    try simp only [Act.put, List.setIfInBounds_toArray, List.set_cons_zero, List.set_cons_succ]
    refine wpAnyH_take (i := 9) (oi := ?_) (v := ?_) ?_ (by kernel_rfl) (by kernel_rfl) (by kernel_rfl) ?_ (Or.inl ⟨?_, ?_⟩) (by assumption) ?_
    rotate_left 2
    · simp only [List.getElem?_toArray, List.getElem?_cons_zero, List.getElem?_cons_succ]; rfl
    · exact fun _ _ _ h => h
    · rfl
    · intro w' hSw; (try dsimp only at hSw); (first | (go_simp; done) | (go_simp; with_reducible rfl))
    try simp only [Act.put, List.setIfInBounds_toArray, List.set_cons_zero, List.set_cons_succ]
    refine wpAnyH_take (i := 10) (oi := ?_) (v := ?_) ?_ (by kernel_rfl) (by kernel_rfl) (by kernel_rfl) ?_ (Or.inl ⟨?_, ?_⟩) (by assumption) ?_
    rotate_left 2
    · simp only [List.getElem?_toArray, List.getElem?_cons_zero, List.getElem?_cons_succ]; rfl
    · exact fun _ _ _ h => h
    · rfl
    · intro w' hSw; (try dsimp only at hSw); (first | (go_simp; done) | (go_simp; with_reducible rfl))
    try simp only [Act.put, List.setIfInBounds_toArray, List.set_cons_zero, List.set_cons_succ]
    refine wpAnyH_take (i := 12) (oi := ?_) (v := ?_) ?_ (by kernel_rfl) (by kernel_rfl) (by kernel_rfl) ?_ (Or.inl ⟨?_, ?_⟩) (by assumption) ?_
    rotate_left 2
    · simp only [List.getElem?_toArray, List.getElem?_cons_zero, List.getElem?_cons_succ]; rfl
    · exact fun _ _ _ h => h
    · rfl
    · intro w' hSw; (try dsimp only at hSw); (first | (go_simp; done) | (go_simp; with_reducible rfl))
    try simp only [Act.put, List.setIfInBounds_toArray, List.set_cons_zero, List.set_cons_succ]
    refine wpAnyH_take (i := 13) (oi := ?_) (v := ?_) ?_ (by kernel_rfl) (by kernel_rfl) (by kernel_rfl) ?_ (Or.inl ⟨?_, ?_⟩) (by assumption) ?_
    rotate_left 2
    · simp only [List.getElem?_toArray, List.getElem?_cons_zero, List.getElem?_cons_succ]; rfl
    · exact fun _ _ _ h => h
    · rfl
    · intro w' hSw; (try dsimp only at hSw); (first | (go_simp; done) | (go_simp; with_reducible rfl))
    try simp only [Act.put, List.setIfInBounds_toArray, List.set_cons_zero, List.set_cons_succ]
    refine wpAnyH_take (i := 14) (oi := ?_) (v := ?_) ?_ (by kernel_rfl) (by kernel_rfl) (by kernel_rfl) ?_ (Or.inl ⟨?_, ?_⟩) (by assumption) ?_
    rotate_left 2
    · simp only [List.getElem?_toArray, List.getElem?_cons_zero, List.getElem?_cons_succ]; rfl
    · exact fun _ _ _ h => h
    · rfl
    · intro w' hSw; (try dsimp only at hSw); (first | (go_simp; done) | (go_simp; with_reducible rfl))
    try simp only [Act.put, List.setIfInBounds_toArray, List.set_cons_zero, List.set_cons_succ]
    refine wpAnyH_take (i := 15) (oi := ?_) (v := ?_) ?_ (by kernel_rfl) (by kernel_rfl) (by kernel_rfl) ?_ (Or.inl ⟨?_, ?_⟩) (by assumption) ?_
    rotate_left 2
    · simp only [List.getElem?_toArray, List.getElem?_cons_zero, List.getElem?_cons_succ]; rfl
    · exact fun _ _ _ h => h
    · rfl
    · intro w' hSw; (try dsimp only at hSw); (first | (go_simp; done) | (go_simp; with_reducible rfl))
    try simp only [Act.put, List.setIfInBounds_toArray, List.set_cons_zero, List.set_cons_succ]
    refine wpAnyH_take (i := 16) (oi := ?_) (v := ?_) ?_ (by kernel_rfl) (by kernel_rfl) (by kernel_rfl) ?_ (Or.inl ⟨?_, ?_⟩) (by assumption) ?_
    rotate_left 2
    · simp only [List.getElem?_toArray, List.getElem?_cons_zero, List.getElem?_cons_succ]; rfl
    · exact fun _ _ _ h => h
    · rfl
    · intro w' hSw; (try dsimp only at hSw); (first | (go_simp; done) | (go_simp; with_reducible rfl))
    try simp only [Act.put, List.setIfInBounds_toArray, List.set_cons_zero, List.set_cons_succ]
    refine wpAnyH_take (i := 17) (oi := ?_) (v := ?_) ?_ (by kernel_rfl) (by kernel_rfl) (by kernel_rfl) ?_ (Or.inl ⟨?_, ?_⟩) (by assumption) ?_
    rotate_left 2
    · simp only [List.getElem?_toArray, List.getElem?_cons_zero, List.getElem?_cons_succ]; rfl
    · exact fun _ _ _ h => h
    · rfl
    · intro w' hSw; (try dsimp only at hSw); (first | (go_simp; done) | (go_simp; with_reducible rfl))
    try simp only [Act.put, List.setIfInBounds_toArray, List.set_cons_zero, List.set_cons_succ]
    refine wpAnyH_take (i := 19) (oi := ?_) (v := ?_) ?_ (by kernel_rfl) (by kernel_rfl) (by kernel_rfl) ?_ (Or.inl ⟨?_, ?_⟩) (by assumption) ?_
    rotate_left 2
    · simp only [List.getElem?_toArray, List.getElem?_cons_zero, List.getElem?_cons_succ]; rfl
    · exact fun _ _ _ h => h
    · rfl
    · intro w' hSw; (try dsimp only at hSw); (first | (go_simp; done) | (go_simp; with_reducible rfl))
    try simp only [Act.put, List.setIfInBounds_toArray, List.set_cons_zero, List.set_cons_succ]
    refine wpAnyH_take (i := 20) (oi := ?_) (v := ?_) ?_ (by kernel_rfl) (by kernel_rfl) (by kernel_rfl) ?_ (Or.inl ⟨?_, ?_⟩) (by assumption) ?_
    rotate_left 2
    · simp only [List.getElem?_toArray, List.getElem?_cons_zero, List.getElem?_cons_succ]; rfl
    · exact fun _ _ _ h => h
    · rfl
    · intro w' hSw; (try dsimp only at hSw); (first | (go_simp; done) | (go_simp; with_reducible rfl))
    try simp only [Act.put, List.setIfInBounds_toArray, List.set_cons_zero, List.set_cons_succ]
    refine wpAnyH_take (i := 21) (oi := ?_) (v := ?_) ?_ (by kernel_rfl) (by kernel_rfl) (by kernel_rfl) ?_ (Or.inl ⟨?_, ?_⟩) (by assumption) ?_
    rotate_left 2
    · simp only [List.getElem?_toArray, List.getElem?_cons_zero, List.getElem?_cons_succ]; rfl
    · exact fun _ _ _ h => h
    · rfl
    · intro w' hSw; (try dsimp only at hSw); (first | (go_simp; done) | (go_simp; with_reducible rfl))
    try simp only [Act.put, List.setIfInBounds_toArray, List.set_cons_zero, List.set_cons_succ]
    refine wpAnyH_take (i := 22) (oi := ?_) (v := ?_) ?_ (by kernel_rfl) (by kernel_rfl) (by kernel_rfl) ?_ (Or.inl ⟨?_, ?_⟩) (by assumption) ?_
    rotate_left 2
    · simp only [List.getElem?_toArray, List.getElem?_cons_zero, List.getElem?_cons_succ]; rfl
    · exact fun _ _ _ h => h
    · rfl
    · intro w' hSw; (try dsimp only at hSw); (first | (go_simp; done) | (go_simp; with_reducible rfl))
    try simp only [Act.put, List.setIfInBounds_toArray, List.set_cons_zero, List.set_cons_succ]
    refine wpAnyH_take (i := 23) (oi := ?_) (v := ?_) ?_ (by kernel_rfl) (by kernel_rfl) (by kernel_rfl) ?_ (Or.inl ⟨?_, ?_⟩) (by assumption) ?_
    rotate_left 2
    · simp only [List.getElem?_toArray, List.getElem?_cons_zero, List.getElem?_cons_succ]; rfl
    · exact fun _ _ _ h => h
    · rfl
    · intro w' hSw; (try dsimp only at hSw); (first | (go_simp; done) | (go_simp; with_reducible rfl))
    try simp only [Act.put, List.setIfInBounds_toArray, List.set_cons_zero, List.set_cons_succ]
    refine wpAnyH_take (i := 24) (oi := ?_) (v := ?_) ?_ (by kernel_rfl) (by kernel_rfl) (by kernel_rfl) ?_ (Or.inl ⟨?_, ?_⟩) (by assumption) ?_
    rotate_left 2
    · simp only [List.getElem?_toArray, List.getElem?_cons_zero, List.getElem?_cons_succ]; rfl
    · exact fun _ _ _ h => h
    · rfl
    · intro w' hSw; (try dsimp only at hSw); (first | (go_simp; done) | (go_simp; with_reducible rfl))
    try simp only [Act.put, List.setIfInBounds_toArray, List.set_cons_zero, List.set_cons_succ]
    refine wpAnyH_take (i := 26) (oi := ?_) (v := ?_) ?_ (by kernel_rfl) (by kernel_rfl) (by kernel_rfl) ?_ (Or.inl ⟨?_, ?_⟩) (by assumption) ?_
    rotate_left 2
    · simp only [List.getElem?_toArray, List.getElem?_cons_zero, List.getElem?_cons_succ]; rfl
    · exact fun _ _ _ h => h
    · rfl
    · intro w' hSw; (try dsimp only at hSw); (first | (go_simp; done) | (go_simp; with_reducible rfl))
    try simp only [Act.put, List.setIfInBounds_toArray, List.set_cons_zero, List.set_cons_succ]
    refine wpAnyH_take (i := 27) (oi := ?_) (v := ?_) ?_ (by kernel_rfl) (by kernel_rfl) (by kernel_rfl) ?_ (Or.inl ⟨?_, ?_⟩) (by assumption) ?_
    rotate_left 2
    · simp only [List.getElem?_toArray, List.getElem?_cons_zero, List.getElem?_cons_succ]; rfl
    · exact fun _ _ _ h => h
    · rfl
    · intro w' hSw; (try dsimp only at hSw); (first | (go_simp; done) | (go_simp; with_reducible rfl))
    try simp only [Act.put, List.setIfInBounds_toArray, List.set_cons_zero, List.set_cons_succ]
    refine wpAnyH_take (i := 28) (oi := ?_) (v := ?_) ?_ (by kernel_rfl) (by kernel_rfl) (by kernel_rfl) ?_ (Or.inl ⟨?_, ?_⟩) (by assumption) ?_
    rotate_left 2
    · simp only [List.getElem?_toArray, List.getElem?_cons_zero, List.getElem?_cons_succ]; rfl
    · exact fun _ _ _ h => h
    · rfl
    · intro w' hSw; (try dsimp only at hSw); (first | (go_simp; done) | (go_simp; with_reducible rfl))
    try simp only [Act.put, List.setIfInBounds_toArray, List.set_cons_zero, List.set_cons_succ]
    refine wpAnyH_take (i := 29) (oi := ?_) (v := ?_) ?_ (by kernel_rfl) (by kernel_rfl) (by kernel_rfl) ?_ (Or.inl ⟨?_, ?_⟩) (by assumption) ?_
    rotate_left 2
    · simp only [List.getElem?_toArray, List.getElem?_cons_zero, List.getElem?_cons_succ]; rfl
    · exact fun _ _ _ h => h
    · rfl
    · intro w' hSw; (try dsimp only at hSw); (first | (go_simp; done) | (go_simp; with_reducible rfl))
    try simp only [Act.put, List.setIfInBounds_toArray, List.set_cons_zero, List.set_cons_succ]
    refine wpAnyH_take (i := 30) (oi := ?_) (v := ?_) ?_ (by kernel_rfl) (by kernel_rfl) (by kernel_rfl) ?_ (Or.inl ⟨?_, ?_⟩) (by assumption) ?_
    rotate_left 2
    · simp only [List.getElem?_toArray, List.getElem?_cons_zero, List.getElem?_cons_succ]; rfl
    · exact fun _ _ _ h => h
    · rfl
    · intro w' hSw; (try dsimp only at hSw); (first | (go_simp; done) | (go_simp; with_reducible rfl))
    try simp only [Act.put, List.setIfInBounds_toArray, List.set_cons_zero, List.set_cons_succ]
    refine wpAnyH_take (i := 31) (oi := ?_) (v := ?_) ?_ (by kernel_rfl) (by kernel_rfl) (by kernel_rfl) ?_ (Or.inl ⟨?_, ?_⟩) (by assumption) ?_
    rotate_left 2
    · simp only [List.getElem?_toArray, List.getElem?_cons_zero, List.getElem?_cons_succ]; rfl
    · exact fun _ _ _ h => h
    · rfl
    · intro w' hSw; (try dsimp only at hSw); (first | (go_simp; done) | (go_simp; with_reducible rfl))
    try simp only [Act.put, List.setIfInBounds_toArray, List.set_cons_zero, List.set_cons_succ]
    refine wpAnyH_ready (rs := [4, 11]) (by kernel_rfl) (by simp) ?_
    refine AllReadyH.cons (o := ?_) ?_ (fun K hK => ?_) ?_
    rotate_left 1
    · simp only [List.getElem?_toArray, List.getElem?_cons_zero, List.getElem?_cons_succ]; rfl
    · go_simp
      refine hK.out _ _ ?_ (fun hHeld => ?_)
      · exact FS.out _ (Below.refl _ _).drew
      clear hK K
      try simp only [Act.put, List.setIfInBounds_toArray, List.set_cons_zero, List.set_cons_succ]
      refine wpAnyH_ready (rs := [11]) (by kernel_rfl) (by simp) ?_
      refine AllReadyH.cons (o := ?_) ?_ (fun K hK => ?_) AllReadyH.nil
      rotate_left 1
      · simp only [List.getElem?_toArray, List.getElem?_cons_zero, List.getElem?_cons_succ]; rfl
      go_simp
      go_at_call 26
      (with_reducible refine (HN0.out _ (Below.refl _ _).drew).mono ?_)
      rintro e w3 ⟨a0, c0, rfl, x1, x2, x3, x4, x5⟩
      have G0 := Lib.hid x4
      have X0 := Lib.hid (And.intro x1 (And.intro x2 x3))
      have Y0 := Lib.hid x5
      have f4 := (F.out _ x4).2.1
      clear x1 x2 x3 x4 x5
      refine hK.out _ _ ?_ (fun hHeld => ?_)
      · exact FS.out _ G0.out
      clear hK K
      try simp only [Act.put, List.setIfInBounds_toArray, List.set_cons_zero, List.set_cons_succ]
      refine wpAnyH_ready (rs := [18]) (by kernel_rfl) (by simp) ?_
      refine AllReadyH.cons (o := ?_) ?_ (fun K hK => ?_) AllReadyH.nil
      rotate_left 1
      · simp only [List.getElem?_toArray, List.getElem?_cons_zero, List.getElem?_cons_succ]; rfl
      go_simp
      go_at_call 26
      (with_reducible refine (HN1.out _ G0.out).mono ?_)
      rintro e w4 ⟨a1, c1, rfl, x1, x2, x3, x4, x5⟩
      have G1 := Lib.hid x4
      have X1 := Lib.hid (And.intro x1 (And.intro x2 x3))
      have Y1 := Lib.hid x5
      have f4 := (F.out _ x4).2.1
      clear x1 x2 x3 x4 x5
      refine hK.out _ _ ?_ (fun hHeld => ?_)
      · exact FS.out _ G1.out
      clear hK K
      try simp only [Act.put, List.setIfInBounds_toArray, List.set_cons_zero, List.set_cons_succ]
      refine wpAnyH_ready (rs := [25]) (by kernel_rfl) (by simp) ?_
      refine AllReadyH.cons (o := ?_) ?_ (fun K hK => ?_) AllReadyH.nil
      rotate_left 1
      · simp only [List.getElem?_toArray, List.getElem?_cons_zero, List.getElem?_cons_succ]; rfl
      go_simp
      go_at_call 26
      (with_reducible refine (HN2.out _ G1.out).mono ?_)
      rintro e w5 ⟨a2, c2, rfl, x1, x2, x3, x4, x5⟩
      have G2 := Lib.hid x4
      have X2 := Lib.hid (And.intro x1 (And.intro x2 x3))
      have Y2 := Lib.hid x5
      have f4 := (F.out _ x4).2.1
      clear x1 x2 x3 x4 x5
      refine hK.out _ _ ?_ (fun hHeld => ?_)
      · exact FS.out _ G2.out
      clear hK K
      try simp only [Act.put, List.setIfInBounds_toArray, List.set_cons_zero, List.set_cons_succ]
      refine wpAnyH_ready (rs := [32]) (by kernel_rfl) (by simp) ?_
      refine AllReadyH.cons (o := ?_) ?_ (fun K hK => ?_) AllReadyH.nil
      rotate_left 1
      · simp only [List.getElem?_toArray, List.getElem?_cons_zero, List.getElem?_cons_succ]; rfl
      go_simp
      go_at_call 26
      (with_reducible refine (HN3.out _ G2.out).mono ?_)
      rintro e w6 ⟨a3, c3, rfl, x1, x2, x3, x4, x5⟩
      have G3 := Lib.hid x4
      have X3 := Lib.hid (And.intro x1 (And.intro x2 x3))
      have Y3 := Lib.hid x5
      have f4 := (F.out _ x4).2.1
      clear x1 x2 x3 x4 x5
      refine hK.out _ _ ?_ (fun hHeld => ?_)
      · exact FS.out _ G3.out
      clear hK K
      try simp only [Act.put, List.setIfInBounds_toArray, List.set_cons_zero, List.set_cons_succ]
      refine wpAnyH_take (i := 33) (oi := ?_) (v := ?_) ?_ (by kernel_rfl) (by kernel_rfl) (by kernel_rfl) ?_ (Or.inl ⟨?_, ?_⟩) (by assumption) ?_
      rotate_left 2
      · simp only [List.getElem?_toArray, List.getElem?_cons_zero, List.getElem?_cons_succ]; rfl
      · exact fun _ _ _ h => h
      · rfl
      · intro w' hSw; (try dsimp only at hSw); (first | (go_simp; done) | (go_simp; with_reducible rfl))
      try simp only [Act.put, List.setIfInBounds_toArray, List.set_cons_zero, List.set_cons_succ]
      refine wpAnyH_ready (rs := [34]) (by kernel_rfl) (by simp) ?_
      refine AllReadyH.cons (o := ?_) ?_ (fun K hK => ?_) AllReadyH.nil
      rotate_left 1
      · simp only [List.getElem?_toArray, List.getElem?_cons_zero, List.getElem?_cons_succ]; rfl
      go_simp
      have hl6 : lb < w6.heap.size := (FL.out w6 G3.out).lt
      refine hK.out _ _ ?_ (fun hHeld => ?_)
      · exact FS.out _ (G3.out.alloc G3.out.size _)
      clear hK K
      try simp only [Act.put, List.setIfInBounds_toArray, List.set_cons_zero, List.set_cons_succ]
      refine wpAnyH_ready (rs := [35]) (by kernel_rfl) (by simp) ?_
      refine AllReadyH.cons (o := ?_) ?_ (fun K hK => ?_) AllReadyH.nil
      rotate_left 1
      · simp only [List.getElem?_toArray, List.getElem?_cons_zero, List.getElem?_cons_succ]; rfl
      refine step_lies app_rins (by rfl) (.tmp 24) (.tmp 54) (by rfl) 0 _ _ _ (by rfl) ((HCM.out w6 G3.out).alloc _) ⟨w6.heap.size, 0, none⟩ 1 1 [.slice a0 M.n c0, .slice a1 M.n c1, .slice a2 M.n c2, .slice a3 M.n c3] (by rfl) (by simp) (hasRow_new w6 _ _ 0 4 (by simp)) (rowOf_new w6 _ _ 0 4 (by simp)) (by rfl) (by omega) (by omega) (by omega) ?_
      intro g7 cp7 w7 hown1 hgrow hlie
      have hb7 : Blk w7 lb 88 #[.int .i64 M.n, .int .i64 M.me, .bool true, vo', vc] := (hgrow.block lb (by simp; exact Nat.lt_succ_of_lt (FL.out w6 G3.out).lt) (fun e => HVC.out.1 e.symm)).trans ((FL.out w6 G3.out).alloc _)
      have hp7 : Blk w7 pb 66 [Value.slice (a 0) (ln 0) (cp 0), .slice (a 1) (ln 1) (cp 1), .slice (a 2) (ln 2) (cp 2), .slice (a 3) (ln 3) (cp 3)].toArray := (hgrow.block pb (by simp; exact Nat.lt_succ_of_lt (FP.out w6 G3.out).lt) (fun e => absurd (HVC.out.2.1 pb e.symm) (by rw [HPB.out]; exact Nat.lt_irrefl _))).trans ((FP.out w6 G3.out).alloc _)
      have F7 := Lib.hid (And.intro (hb7.cell 0) (And.intro (hp7.cell 0) (And.intro (hp7.cell 1) (And.intro (hp7.cell 2) (hp7.cell 3)))))
      have F8 := Lib.hid (And.intro ((hb7.set_ 4 (.slice (some ⟨g7, 0, none⟩) (M.T + 1) cp7)).cell 0) (And.intro ((hp7.far (p := ⟨lb, 4, none⟩) hpl (.slice (some ⟨g7, 0, none⟩) (M.T + 1) cp7)).cell 0) (And.intro ((hp7.far (p := ⟨lb, 4, none⟩) hpl (.slice (some ⟨g7, 0, none⟩) (M.T + 1) cp7)).cell 1) (And.intro ((hp7.far (p := ⟨lb, 4, none⟩) hpl (.slice (some ⟨g7, 0, none⟩) (M.T + 1) cp7)).cell 2) ((hp7.far (p := ⟨lb, 4, none⟩) hpl (.slice (some ⟨g7, 0, none⟩) (M.T + 1) cp7)).cell 3)))))
      have z7 := hb7.frozen 4
      have c7 := hb7.cell 4
      simp at c7
      have H7 := Lib.hid (And.intro hown1 (And.intro hgrow hlie))
      clear hown1 hgrow hlie hb7 hp7
      refine hK.out _ _ ?_ (fun hHeld => ?_)
      · exact F7.out
      clear hK K
      try simp only [Act.put, List.setIfInBounds_toArray, List.set_cons_zero, List.set_cons_succ]
      refine wpAnyH_take (i := 36) (oi := ?_) (v := ?_) ?_ (by kernel_rfl) (by kernel_rfl) (by kernel_rfl) ?_ (Or.inl ⟨?_, ?_⟩) (by assumption) ?_
      rotate_left 2
      · simp only [List.getElem?_toArray, List.getElem?_cons_zero, List.getElem?_cons_succ]; rfl
      · exact fun _ _ _ h => h
      · rfl
      · intro w' hSw; (try dsimp only at hSw); (first | (go_simp; done) | (go_simp; with_reducible rfl))
      try simp only [Act.put, List.setIfInBounds_toArray, List.set_cons_zero, List.set_cons_succ]
      refine wpAnyH_take (i := 37) (oi := ?_) (v := ?_) ?_ (by kernel_rfl) (by kernel_rfl) (by kernel_rfl) ?_ (Or.inl ⟨?_, ?_⟩) (by assumption) ?_
      rotate_left 2
      · simp only [List.getElem?_toArray, List.getElem?_cons_zero, List.getElem?_cons_succ]; rfl
      · exact fun _ _ _ h => h
      · rfl
      · intro w' hSw; (try dsimp only at hSw); (first | (go_simp; done) | (go_simp; with_reducible rfl))
      try simp only [Act.put, List.setIfInBounds_toArray, List.set_cons_zero, List.set_cons_succ]
      refine wpAnyH_ready (rs := [38]) (by kernel_rfl) (by simp) ?_
      refine AllReadyH.cons (o := ?_) ?_ (fun K hK => ?_) AllReadyH.nil
      rotate_left 1
      · simp only [List.getElem?_toArray, List.getElem?_cons_zero, List.getElem?_cons_succ]; rfl
      go_simp
      refine hK.out _ _ ?_ (fun hHeld => ?_)
      · exact F8.out
      clear hK K
      try simp only [Act.put, List.setIfInBounds_toArray, List.set_cons_zero, List.set_cons_succ]
      refine wpAnyH_done (by kernel_rfl) ?_ _
      go_wp2_with fail
      go_meet
      obtain ⟨D', hd1, hd2, hd3⟩ := HA.out.done HR.out G3.out ⟨(X0.out.1.below' Y1.out).below' Y2.out |>.below' Y3.out, (X1.out.1.below' Y2.out).below' Y3.out, X2.out.1.below' Y3.out, X3.out.1⟩ ⟨X0.out.2, X1.out.2, X2.out.2, X3.out.2⟩ (HCM.out wA (Below.refl _ _)) HUS.out H7.out.1 H7.out.2.1 H7.out.2.2 hT
      exact ⟨_, D', _, rfl, hd1, hd2, hd3⟩
    refine AllReadyH.cons (o := ?_) ?_ (fun K hK => ?_) AllReadyH.nil
    rotate_left 1
    · simp only [List.getElem?_toArray, List.getElem?_cons_zero, List.getElem?_cons_succ]; rfl
    go_simp
    go_at_call 26
    (with_reducible refine (HN0.out _ (Below.refl _ _).drew).mono ?_)
    rintro e w3 ⟨a0, c0, rfl, x1, x2, x3, x4, x5⟩
    have G0 := Lib.hid x4
    have X0 := Lib.hid (And.intro x1 (And.intro x2 x3))
    have Y0 := Lib.hid x5
    have f4 := (F.out _ x4).2.1
    clear x1 x2 x3 x4 x5
    refine hK.out _ _ ?_ (fun hHeld => ?_)
    · exact FS.out _ G0.out
    clear hK K
    try simp only [Act.put, List.setIfInBounds_toArray, List.set_cons_zero, List.set_cons_succ]
    refine wpAnyH_ready (rs := [4, 18]) (by kernel_rfl) (by simp) ?_
    refine AllReadyH.cons (o := ?_) ?_ (fun K hK => ?_) ?_
    rotate_left 1
    · simp only [List.getElem?_toArray, List.getElem?_cons_zero, List.getElem?_cons_succ]; rfl
    · go_simp
      refine hK.out _ _ ?_ (fun hHeld => ?_)
      · exact FS.out _ G0.out
      clear hK K
      try simp only [Act.put, List.setIfInBounds_toArray, List.set_cons_zero, List.set_cons_succ]
      refine wpAnyH_ready (rs := [18]) (by kernel_rfl) (by simp) ?_
      refine AllReadyH.cons (o := ?_) ?_ (fun K hK => ?_) AllReadyH.nil
      rotate_left 1
      · simp only [List.getElem?_toArray, List.getElem?_cons_zero, List.getElem?_cons_succ]; rfl
      go_simp
      go_at_call 26
      (with_reducible refine (HN1.out _ G0.out).mono ?_)
      rintro e w4 ⟨a1, c1, rfl, x1, x2, x3, x4, x5⟩
      have G1 := Lib.hid x4
      have X1 := Lib.hid (And.intro x1 (And.intro x2 x3))
      have Y1 := Lib.hid x5
      have f4 := (F.out _ x4).2.1
      clear x1 x2 x3 x4 x5
      refine hK.out _ _ ?_ (fun hHeld => ?_)
      · exact FS.out _ G1.out
      clear hK K
      try simp only [Act.put, List.setIfInBounds_toArray, List.set_cons_zero, List.set_cons_succ]
      refine wpAnyH_ready (rs := [25]) (by kernel_rfl) (by simp) ?_
      refine AllReadyH.cons (o := ?_) ?_ (fun K hK => ?_) AllReadyH.nil
      rotate_left 1
      · simp only [List.getElem?_toArray, List.getElem?_cons_zero, List.getElem?_cons_succ]; rfl
      go_simp
      go_at_call 26
      (with_reducible refine (HN2.out _ G1.out).mono ?_)
      rintro e w5 ⟨a2, c2, rfl, x1, x2, x3, x4, x5⟩
      have G2 := Lib.hid x4
      have X2 := Lib.hid (And.intro x1 (And.intro x2 x3))
      have Y2 := Lib.hid x5
      have f4 := (F.out _ x4).2.1
      clear x1 x2 x3 x4 x5
      refine hK.out _ _ ?_ (fun hHeld => ?_)
      · exact FS.out _ G2.out
      clear hK K
      try simp only [Act.put, List.setIfInBounds_toArray, List.set_cons_zero, List.set_cons_succ]
      refine wpAnyH_ready (rs := [32]) (by kernel_rfl) (by simp) ?_
      refine AllReadyH.cons (o := ?_) ?_ (fun K hK => ?_) AllReadyH.nil
      rotate_left 1
      · simp only [List.getElem?_toArray, List.getElem?_cons_zero, List.getElem?_cons_succ]; rfl
      go_simp
      go_at_call 26
      (with_reducible refine (HN3.out _ G2.out).mono ?_)
      rintro e w6 ⟨a3, c3, rfl, x1, x2, x3, x4, x5⟩
      have G3 := Lib.hid x4
      have X3 := Lib.hid (And.intro x1 (And.intro x2 x3))
      have Y3 := Lib.hid x5
      have f4 := (F.out _ x4).2.1
      clear x1 x2 x3 x4 x5
      refine hK.out _ _ ?_ (fun hHeld => ?_)
      · exact FS.out _ G3.out
      clear hK K
      try simp only [Act.put, List.setIfInBounds_toArray, List.set_cons_zero, List.set_cons_succ]
      refine wpAnyH_take (i := 33) (oi := ?_) (v := ?_) ?_ (by kernel_rfl) (by kernel_rfl) (by kernel_rfl) ?_ (Or.inl ⟨?_, ?_⟩) (by assumption) ?_
      rotate_left 2
      · simp only [List.getElem?_toArray, List.getElem?_cons_zero, List.getElem?_cons_succ]; rfl
      · exact fun _ _ _ h => h
      · rfl
      · intro w' hSw; (try dsimp only at hSw); (first | (go_simp; done) | (go_simp; with_reducible rfl))
      try simp only [Act.put, List.setIfInBounds_toArray, List.set_cons_zero, List.set_cons_succ]
      refine wpAnyH_ready (rs := [34]) (by kernel_rfl) (by simp) ?_
      refine AllReadyH.cons (o := ?_) ?_ (fun K hK => ?_) AllReadyH.nil
      rotate_left 1
      · simp only [List.getElem?_toArray, List.getElem?_cons_zero, List.getElem?_cons_succ]; rfl
      go_simp
      have hl6 : lb < w6.heap.size := (FL.out w6 G3.out).lt
      refine hK.out _ _ ?_ (fun hHeld => ?_)
      · exact FS.out _ (G3.out.alloc G3.out.size _)
      clear hK K
      try simp only [Act.put, List.setIfInBounds_toArray, List.set_cons_zero, List.set_cons_succ]
      refine wpAnyH_ready (rs := [35]) (by kernel_rfl) (by simp) ?_
      refine AllReadyH.cons (o := ?_) ?_ (fun K hK => ?_) AllReadyH.nil
      rotate_left 1
      · simp only [List.getElem?_toArray, List.getElem?_cons_zero, List.getElem?_cons_succ]; rfl
      refine step_lies app_rins (by rfl) (.tmp 24) (.tmp 54) (by rfl) 0 _ _ _ (by rfl) ((HCM.out w6 G3.out).alloc _) ⟨w6.heap.size, 0, none⟩ 1 1 [.slice a0 M.n c0, .slice a1 M.n c1, .slice a2 M.n c2, .slice a3 M.n c3] (by rfl) (by simp) (hasRow_new w6 _ _ 0 4 (by simp)) (rowOf_new w6 _ _ 0 4 (by simp)) (by rfl) (by omega) (by omega) (by omega) ?_
      intro g7 cp7 w7 hown1 hgrow hlie
      have hb7 : Blk w7 lb 88 #[.int .i64 M.n, .int .i64 M.me, .bool true, vo', vc] := (hgrow.block lb (by simp; exact Nat.lt_succ_of_lt (FL.out w6 G3.out).lt) (fun e => HVC.out.1 e.symm)).trans ((FL.out w6 G3.out).alloc _)
      have hp7 : Blk w7 pb 66 [Value.slice (a 0) (ln 0) (cp 0), .slice (a 1) (ln 1) (cp 1), .slice (a 2) (ln 2) (cp 2), .slice (a 3) (ln 3) (cp 3)].toArray := (hgrow.block pb (by simp; exact Nat.lt_succ_of_lt (FP.out w6 G3.out).lt) (fun e => absurd (HVC.out.2.1 pb e.symm) (by rw [HPB.out]; exact Nat.lt_irrefl _))).trans ((FP.out w6 G3.out).alloc _)
      have F7 := Lib.hid (And.intro (hb7.cell 0) (And.intro (hp7.cell 0) (And.intro (hp7.cell 1) (And.intro (hp7.cell 2) (hp7.cell 3)))))
      have F8 := Lib.hid (And.intro ((hb7.set_ 4 (.slice (some ⟨g7, 0, none⟩) (M.T + 1) cp7)).cell 0) (And.intro ((hp7.far (p := ⟨lb, 4, none⟩) hpl (.slice (some ⟨g7, 0, none⟩) (M.T + 1) cp7)).cell 0) (And.intro ((hp7.far (p := ⟨lb, 4, none⟩) hpl (.slice (some ⟨g7, 0, none⟩) (M.T + 1) cp7)).cell 1) (And.intro ((hp7.far (p := ⟨lb, 4, none⟩) hpl (.slice (some ⟨g7, 0, none⟩) (M.T + 1) cp7)).cell 2) ((hp7.far (p := ⟨lb, 4, none⟩) hpl (.slice (some ⟨g7, 0, none⟩) (M.T + 1) cp7)).cell 3)))))
      have z7 := hb7.frozen 4
      have c7 := hb7.cell 4
      simp at c7
      have H7 := Lib.hid (And.intro hown1 (And.intro hgrow hlie))
      clear hown1 hgrow hlie hb7 hp7
      refine hK.out _ _ ?_ (fun hHeld => ?_)
      · exact F7.out
      clear hK K
      try simp only [Act.put, List.setIfInBounds_toArray, List.set_cons_zero, List.set_cons_succ]
      refine wpAnyH_take (i := 36) (oi := ?_) (v := ?_) ?_ (by kernel_rfl) (by kernel_rfl) (by kernel_rfl) ?_ (Or.inl ⟨?_, ?_⟩) (by assumption) ?_
      rotate_left 2
      · simp only [List.getElem?_toArray, List.getElem?_cons_zero, List.getElem?_cons_succ]; rfl
      · exact fun _ _ _ h => h
      · rfl
      · intro w' hSw; (try dsimp only at hSw); (first | (go_simp; done) | (go_simp; with_reducible rfl))
      try simp only [Act.put, List.setIfInBounds_toArray, List.set_cons_zero, List.set_cons_succ]
      refine wpAnyH_take (i := 37) (oi := ?_) (v := ?_) ?_ (by kernel_rfl) (by kernel_rfl) (by kernel_rfl) ?_ (Or.inl ⟨?_, ?_⟩) (by assumption) ?_
      rotate_left 2
      · simp only [List.getElem?_toArray, List.getElem?_cons_zero, List.getElem?_cons_succ]; rfl
      · exact fun _ _ _ h => h
      · rfl
      · intro w' hSw; (try dsimp only at hSw); (first | (go_simp; done) | (go_simp; with_reducible rfl))
      try simp only [Act.put, List.setIfInBounds_toArray, List.set_cons_zero, List.set_cons_succ]
      refine wpAnyH_ready (rs := [38]) (by kernel_rfl) (by simp) ?_
      refine AllReadyH.cons (o := ?_) ?_ (fun K hK => ?_) AllReadyH.nil
      rotate_left 1
      · simp only [List.getElem?_toArray, List.getElem?_cons_zero, List.getElem?_cons_succ]; rfl
      go_simp
      refine hK.out _ _ ?_ (fun hHeld => ?_)
      · exact F8.out
      clear hK K
      try simp only [Act.put, List.setIfInBounds_toArray, List.set_cons_zero, List.set_cons_succ]
      refine wpAnyH_done (by kernel_rfl) ?_ _
      go_wp2_with fail
      go_meet
      obtain ⟨D', hd1, hd2, hd3⟩ := HA.out.done HR.out G3.out ⟨(X0.out.1.below' Y1.out).below' Y2.out |>.below' Y3.out, (X1.out.1.below' Y2.out).below' Y3.out, X2.out.1.below' Y3.out, X3.out.1⟩ ⟨X0.out.2, X1.out.2, X2.out.2, X3.out.2⟩ (HCM.out wA (Below.refl _ _)) HUS.out H7.out.1 H7.out.2.1 H7.out.2.2 hT
      exact ⟨_, D', _, rfl, hd1, hd2, hd3⟩
    refine AllReadyH.cons (o := ?_) ?_ (fun K hK => ?_) AllReadyH.nil
    rotate_left 1
    · simp only [List.getElem?_toArray, List.getElem?_cons_zero, List.getElem?_cons_succ]; rfl
    go_simp
    go_at_call 26
    (with_reducible refine (HN1.out _ G0.out).mono ?_)
    rintro e w4 ⟨a1, c1, rfl, x1, x2, x3, x4, x5⟩
    have G1 := Lib.hid x4
    have X1 := Lib.hid (And.intro x1 (And.intro x2 x3))
    have Y1 := Lib.hid x5
    have f4 := (F.out _ x4).2.1
    clear x1 x2 x3 x4 x5
    refine hK.out _ _ ?_ (fun hHeld => ?_)
    · exact FS.out _ G1.out
    clear hK K
    try simp only [Act.put, List.setIfInBounds_toArray, List.set_cons_zero, List.set_cons_succ]
    refine wpAnyH_ready (rs := [4, 25]) (by kernel_rfl) (by simp) ?_
    refine AllReadyH.cons (o := ?_) ?_ (fun K hK => ?_) ?_
    rotate_left 1
    · simp only [List.getElem?_toArray, List.getElem?_cons_zero, List.getElem?_cons_succ]; rfl
    · go_simp
      refine hK.out _ _ ?_ (fun hHeld => ?_)
      · exact FS.out _ G1.out
      clear hK K
      try simp only [Act.put, List.setIfInBounds_toArray, List.set_cons_zero, List.set_cons_succ]
      refine wpAnyH_ready (rs := [25]) (by kernel_rfl) (by simp) ?_
      refine AllReadyH.cons (o := ?_) ?_ (fun K hK => ?_) AllReadyH.nil
      rotate_left 1
      · simp only [List.getElem?_toArray, List.getElem?_cons_zero, List.getElem?_cons_succ]; rfl
      go_simp
      go_at_call 26
      (with_reducible refine (HN2.out _ G1.out).mono ?_)
      rintro e w5 ⟨a2, c2, rfl, x1, x2, x3, x4, x5⟩
      have G2 := Lib.hid x4
      have X2 := Lib.hid (And.intro x1 (And.intro x2 x3))
      have Y2 := Lib.hid x5
      have f4 := (F.out _ x4).2.1
      clear x1 x2 x3 x4 x5
      refine hK.out _ _ ?_ (fun hHeld => ?_)
      · exact FS.out _ G2.out
      clear hK K
      try simp only [Act.put, List.setIfInBounds_toArray, List.set_cons_zero, List.set_cons_succ]
      refine wpAnyH_ready (rs := [32]) (by kernel_rfl) (by simp) ?_
      refine AllReadyH.cons (o := ?_) ?_ (fun K hK => ?_) AllReadyH.nil
      rotate_left 1
      · simp only [List.getElem?_toArray, List.getElem?_cons_zero, List.getElem?_cons_succ]; rfl
      go_simp
      go_at_call 26
      (with_reducible refine (HN3.out _ G2.out).mono ?_)
      rintro e w6 ⟨a3, c3, rfl, x1, x2, x3, x4, x5⟩
      have G3 := Lib.hid x4
      have X3 := Lib.hid (And.intro x1 (And.intro x2 x3))
      have Y3 := Lib.hid x5
      have f4 := (F.out _ x4).2.1
      clear x1 x2 x3 x4 x5
      refine hK.out _ _ ?_ (fun hHeld => ?_)
      · exact FS.out _ G3.out
      clear hK K
      try simp only [Act.put, List.setIfInBounds_toArray, List.set_cons_zero, List.set_cons_succ]
      refine wpAnyH_take (i := 33) (oi := ?_) (v := ?_) ?_ (by kernel_rfl) (by kernel_rfl) (by kernel_rfl) ?_ (Or.inl ⟨?_, ?_⟩) (by assumption) ?_
      rotate_left 2
      · simp only [List.getElem?_toArray, List.getElem?_cons_zero, List.getElem?_cons_succ]; rfl
      · exact fun _ _ _ h => h
      · rfl
      · intro w' hSw; (try dsimp only at hSw); (first | (go_simp; done) | (go_simp; with_reducible rfl))
      try simp only [Act.put, List.setIfInBounds_toArray, List.set_cons_zero, List.set_cons_succ]
      refine wpAnyH_ready (rs := [34]) (by kernel_rfl) (by simp) ?_
      refine AllReadyH.cons (o := ?_) ?_ (fun K hK => ?_) AllReadyH.nil
      rotate_left 1
      · simp only [List.getElem?_toArray, List.getElem?_cons_zero, List.getElem?_cons_succ]; rfl
      go_simp
      have hl6 : lb < w6.heap.size := (FL.out w6 G3.out).lt
      refine hK.out _ _ ?_ (fun hHeld => ?_)
      · exact FS.out _ (G3.out.alloc G3.out.size _)
      clear hK K
      try simp only [Act.put, List.setIfInBounds_toArray, List.set_cons_zero, List.set_cons_succ]
      refine wpAnyH_ready (rs := [35]) (by kernel_rfl) (by simp) ?_
      refine AllReadyH.cons (o := ?_) ?_ (fun K hK => ?_) AllReadyH.nil
      rotate_left 1
      · simp only [List.getElem?_toArray, List.getElem?_cons_zero, List.getElem?_cons_succ]; rfl
      refine step_lies app_rins (by rfl) (.tmp 24) (.tmp 54) (by rfl) 0 _ _ _ (by rfl) ((HCM.out w6 G3.out).alloc _) ⟨w6.heap.size, 0, none⟩ 1 1 [.slice a0 M.n c0, .slice a1 M.n c1, .slice a2 M.n c2, .slice a3 M.n c3] (by rfl) (by simp) (hasRow_new w6 _ _ 0 4 (by simp)) (rowOf_new w6 _ _ 0 4 (by simp)) (by rfl) (by omega) (by omega) (by omega) ?_
      intro g7 cp7 w7 hown1 hgrow hlie
      have hb7 : Blk w7 lb 88 #[.int .i64 M.n, .int .i64 M.me, .bool true, vo', vc] := (hgrow.block lb (by simp; exact Nat.lt_succ_of_lt (FL.out w6 G3.out).lt) (fun e => HVC.out.1 e.symm)).trans ((FL.out w6 G3.out).alloc _)
      have hp7 : Blk w7 pb 66 [Value.slice (a 0) (ln 0) (cp 0), .slice (a 1) (ln 1) (cp 1), .slice (a 2) (ln 2) (cp 2), .slice (a 3) (ln 3) (cp 3)].toArray := (hgrow.block pb (by simp; exact Nat.lt_succ_of_lt (FP.out w6 G3.out).lt) (fun e => absurd (HVC.out.2.1 pb e.symm) (by rw [HPB.out]; exact Nat.lt_irrefl _))).trans ((FP.out w6 G3.out).alloc _)
      have F7 := Lib.hid (And.intro (hb7.cell 0) (And.intro (hp7.cell 0) (And.intro (hp7.cell 1) (And.intro (hp7.cell 2) (hp7.cell 3)))))
      have F8 := Lib.hid (And.intro ((hb7.set_ 4 (.slice (some ⟨g7, 0, none⟩) (M.T + 1) cp7)).cell 0) (And.intro ((hp7.far (p := ⟨lb, 4, none⟩) hpl (.slice (some ⟨g7, 0, none⟩) (M.T + 1) cp7)).cell 0) (And.intro ((hp7.far (p := ⟨lb, 4, none⟩) hpl (.slice (some ⟨g7, 0, none⟩) (M.T + 1) cp7)).cell 1) (And.intro ((hp7.far (p := ⟨lb, 4, none⟩) hpl (.slice (some ⟨g7, 0, none⟩) (M.T + 1) cp7)).cell 2) ((hp7.far (p := ⟨lb, 4, none⟩) hpl (.slice (some ⟨g7, 0, none⟩) (M.T + 1) cp7)).cell 3)))))
      have z7 := hb7.frozen 4
      have c7 := hb7.cell 4
      simp at c7
      have H7 := Lib.hid (And.intro hown1 (And.intro hgrow hlie))
      clear hown1 hgrow hlie hb7 hp7
      refine hK.out _ _ ?_ (fun hHeld => ?_)
      · exact F7.out
      clear hK K
      try simp only [Act.put, List.setIfInBounds_toArray, List.set_cons_zero, List.set_cons_succ]
      refine wpAnyH_take (i := 36) (oi := ?_) (v := ?_) ?_ (by kernel_rfl) (by kernel_rfl) (by kernel_rfl) ?_ (Or.inl ⟨?_, ?_⟩) (by assumption) ?_
      rotate_left 2
      · simp only [List.getElem?_toArray, List.getElem?_cons_zero, List.getElem?_cons_succ]; rfl
      · exact fun _ _ _ h => h
      · rfl
      · intro w' hSw; (try dsimp only at hSw); (first | (go_simp; done) | (go_simp; with_reducible rfl))
      try simp only [Act.put, List.setIfInBounds_toArray, List.set_cons_zero, List.set_cons_succ]
      refine wpAnyH_take (i := 37) (oi := ?_) (v := ?_) ?_ (by kernel_rfl) (by kernel_rfl) (by kernel_rfl) ?_ (Or.inl ⟨?_, ?_⟩) (by assumption) ?_
      rotate_left 2
      · simp only [List.getElem?_toArray, List.getElem?_cons_zero, List.getElem?_cons_succ]; rfl
      · exact fun _ _ _ h => h
      · rfl
      · intro w' hSw; (try dsimp only at hSw); (first | (go_simp; done) | (go_simp; with_reducible rfl))
      try simp only [Act.put, List.setIfInBounds_toArray, List.set_cons_zero, List.set_cons_succ]
      refine wpAnyH_ready (rs := [38]) (by kernel_rfl) (by simp) ?_
      refine AllReadyH.cons (o := ?_) ?_ (fun K hK => ?_) AllReadyH.nil
      rotate_left 1
      · simp only [List.getElem?_toArray, List.getElem?_cons_zero, List.getElem?_cons_succ]; rfl
      go_simp
      refine hK.out _ _ ?_ (fun hHeld => ?_)
      · exact F8.out
      clear hK K
      try simp only [Act.put, List.setIfInBounds_toArray, List.set_cons_zero, List.set_cons_succ]
      refine wpAnyH_done (by kernel_rfl) ?_ _
      go_wp2_with fail
      go_meet
      obtain ⟨D', hd1, hd2, hd3⟩ := HA.out.done HR.out G3.out ⟨(X0.out.1.below' Y1.out).below' Y2.out |>.below' Y3.out, (X1.out.1.below' Y2.out).below' Y3.out, X2.out.1.below' Y3.out, X3.out.1⟩ ⟨X0.out.2, X1.out.2, X2.out.2, X3.out.2⟩ (HCM.out wA (Below.refl _ _)) HUS.out H7.out.1 H7.out.2.1 H7.out.2.2 hT
      exact ⟨_, D', _, rfl, hd1, hd2, hd3⟩
    refine AllReadyH.cons (o := ?_) ?_ (fun K hK => ?_) AllReadyH.nil
    rotate_left 1
    · simp only [List.getElem?_toArray, List.getElem?_cons_zero, List.getElem?_cons_succ]; rfl
    go_simp
    go_at_call 26
    (with_reducible refine (HN2.out _ G1.out).mono ?_)
    rintro e w5 ⟨a2, c2, rfl, x1, x2, x3, x4, x5⟩
    have G2 := Lib.hid x4
    have X2 := Lib.hid (And.intro x1 (And.intro x2 x3))
    have Y2 := Lib.hid x5
    have f4 := (F.out _ x4).2.1
    clear x1 x2 x3 x4 x5
    refine hK.out _ _ ?_ (fun hHeld => ?_)
    · exact FS.out _ G2.out
    clear hK K
    try simp only [Act.put, List.setIfInBounds_toArray, List.set_cons_zero, List.set_cons_succ]
    refine wpAnyH_ready (rs := [4, 32]) (by kernel_rfl) (by simp) ?_
    refine AllReadyH.cons (o := ?_) ?_ (fun K hK => ?_) ?_
    rotate_left 1
    · simp only [List.getElem?_toArray, List.getElem?_cons_zero, List.getElem?_cons_succ]; rfl
    · go_simp
      refine hK.out _ _ ?_ (fun hHeld => ?_)
      · exact FS.out _ G2.out
      clear hK K
      try simp only [Act.put, List.setIfInBounds_toArray, List.set_cons_zero, List.set_cons_succ]
      refine wpAnyH_ready (rs := [32]) (by kernel_rfl) (by simp) ?_
      refine AllReadyH.cons (o := ?_) ?_ (fun K hK => ?_) AllReadyH.nil
      rotate_left 1
      · simp only [List.getElem?_toArray, List.getElem?_cons_zero, List.getElem?_cons_succ]; rfl
      go_simp
      go_at_call 26
      (with_reducible refine (HN3.out _ G2.out).mono ?_)
      rintro e w6 ⟨a3, c3, rfl, x1, x2, x3, x4, x5⟩
      have G3 := Lib.hid x4
      have X3 := Lib.hid (And.intro x1 (And.intro x2 x3))
      have Y3 := Lib.hid x5
      have f4 := (F.out _ x4).2.1
      clear x1 x2 x3 x4 x5
      refine hK.out _ _ ?_ (fun hHeld => ?_)
      · exact FS.out _ G3.out
      clear hK K
      try simp only [Act.put, List.setIfInBounds_toArray, List.set_cons_zero, List.set_cons_succ]
      refine wpAnyH_take (i := 33) (oi := ?_) (v := ?_) ?_ (by kernel_rfl) (by kernel_rfl) (by kernel_rfl) ?_ (Or.inl ⟨?_, ?_⟩) (by assumption) ?_
      rotate_left 2
      · simp only [List.getElem?_toArray, List.getElem?_cons_zero, List.getElem?_cons_succ]; rfl
      · exact fun _ _ _ h => h
      · rfl
      · intro w' hSw; (try dsimp only at hSw); (first | (go_simp; done) | (go_simp; with_reducible rfl))
      try simp only [Act.put, List.setIfInBounds_toArray, List.set_cons_zero, List.set_cons_succ]
      refine wpAnyH_ready (rs := [34]) (by kernel_rfl) (by simp) ?_
      refine AllReadyH.cons (o := ?_) ?_ (fun K hK => ?_) AllReadyH.nil
      rotate_left 1
      · simp only [List.getElem?_toArray, List.getElem?_cons_zero, List.getElem?_cons_succ]; rfl
      go_simp
      have hl6 : lb < w6.heap.size := (FL.out w6 G3.out).lt
      refine hK.out _ _ ?_ (fun hHeld => ?_)
      · exact FS.out _ (G3.out.alloc G3.out.size _)
      clear hK K
      try simp only [Act.put, List.setIfInBounds_toArray, List.set_cons_zero, List.set_cons_succ]
      refine wpAnyH_ready (rs := [35]) (by kernel_rfl) (by simp) ?_
      refine AllReadyH.cons (o := ?_) ?_ (fun K hK => ?_) AllReadyH.nil
      rotate_left 1
      · simp only [List.getElem?_toArray, List.getElem?_cons_zero, List.getElem?_cons_succ]; rfl
      refine step_lies app_rins (by rfl) (.tmp 24) (.tmp 54) (by rfl) 0 _ _ _ (by rfl) ((HCM.out w6 G3.out).alloc _) ⟨w6.heap.size, 0, none⟩ 1 1 [.slice a0 M.n c0, .slice a1 M.n c1, .slice a2 M.n c2, .slice a3 M.n c3] (by rfl) (by simp) (hasRow_new w6 _ _ 0 4 (by simp)) (rowOf_new w6 _ _ 0 4 (by simp)) (by rfl) (by omega) (by omega) (by omega) ?_
      intro g7 cp7 w7 hown1 hgrow hlie
      have hb7 : Blk w7 lb 88 #[.int .i64 M.n, .int .i64 M.me, .bool true, vo', vc] := (hgrow.block lb (by simp; exact Nat.lt_succ_of_lt (FL.out w6 G3.out).lt) (fun e => HVC.out.1 e.symm)).trans ((FL.out w6 G3.out).alloc _)
      have hp7 : Blk w7 pb 66 [Value.slice (a 0) (ln 0) (cp 0), .slice (a 1) (ln 1) (cp 1), .slice (a 2) (ln 2) (cp 2), .slice (a 3) (ln 3) (cp 3)].toArray := (hgrow.block pb (by simp; exact Nat.lt_succ_of_lt (FP.out w6 G3.out).lt) (fun e => absurd (HVC.out.2.1 pb e.symm) (by rw [HPB.out]; exact Nat.lt_irrefl _))).trans ((FP.out w6 G3.out).alloc _)
      have F7 := Lib.hid (And.intro (hb7.cell 0) (And.intro (hp7.cell 0) (And.intro (hp7.cell 1) (And.intro (hp7.cell 2) (hp7.cell 3)))))
      have F8 := Lib.hid (And.intro ((hb7.set_ 4 (.slice (some ⟨g7, 0, none⟩) (M.T + 1) cp7)).cell 0) (And.intro ((hp7.far (p := ⟨lb, 4, none⟩) hpl (.slice (some ⟨g7, 0, none⟩) (M.T + 1) cp7)).cell 0) (And.intro ((hp7.far (p := ⟨lb, 4, none⟩) hpl (.slice (some ⟨g7, 0, none⟩) (M.T + 1) cp7)).cell 1) (And.intro ((hp7.far (p := ⟨lb, 4, none⟩) hpl (.slice (some ⟨g7, 0, none⟩) (M.T + 1) cp7)).cell 2) ((hp7.far (p := ⟨lb, 4, none⟩) hpl (.slice (some ⟨g7, 0, none⟩) (M.T + 1) cp7)).cell 3)))))
      have z7 := hb7.frozen 4
      have c7 := hb7.cell 4
      simp at c7
      have H7 := Lib.hid (And.intro hown1 (And.intro hgrow hlie))
      clear hown1 hgrow hlie hb7 hp7
      refine hK.out _ _ ?_ (fun hHeld => ?_)
      · exact F7.out
      clear hK K
      try simp only [Act.put, List.setIfInBounds_toArray, List.set_cons_zero, List.set_cons_succ]
      refine wpAnyH_take (i := 36) (oi := ?_) (v := ?_) ?_ (by kernel_rfl) (by kernel_rfl) (by kernel_rfl) ?_ (Or.inl ⟨?_, ?_⟩) (by assumption) ?_
      rotate_left 2
      · simp only [List.getElem?_toArray, List.getElem?_cons_zero, List.getElem?_cons_succ]; rfl
      · exact fun _ _ _ h => h
      · rfl
      · intro w' hSw; (try dsimp only at hSw); (first | (go_simp; done) | (go_simp; with_reducible rfl))
      try simp only [Act.put, List.setIfInBounds_toArray, List.set_cons_zero, List.set_cons_succ]
      refine wpAnyH_take (i := 37) (oi := ?_) (v := ?_) ?_ (by kernel_rfl) (by kernel_rfl) (by kernel_rfl) ?_ (Or.inl ⟨?_, ?_⟩) (by assumption) ?_
      rotate_left 2
      · simp only [List.getElem?_toArray, List.getElem?_cons_zero, List.getElem?_cons_succ]; rfl
      · exact fun _ _ _ h => h
      · rfl
      · intro w' hSw; (try dsimp only at hSw); (first | (go_simp; done) | (go_simp; with_reducible rfl))
      try simp only [Act.put, List.setIfInBounds_toArray, List.set_cons_zero, List.set_cons_succ]
      refine wpAnyH_ready (rs := [38]) (by kernel_rfl) (by simp) ?_
      refine AllReadyH.cons (o := ?_) ?_ (fun K hK => ?_) AllReadyH.nil
      rotate_left 1
      · simp only [List.getElem?_toArray, List.getElem?_cons_zero, List.getElem?_cons_succ]; rfl
      go_simp
      refine hK.out _ _ ?_ (fun hHeld => ?_)
      · exact F8.out
      clear hK K
      try simp only [Act.put, List.setIfInBounds_toArray, List.set_cons_zero, List.set_cons_succ]
      refine wpAnyH_done (by kernel_rfl) ?_ _
      go_wp2_with fail
      go_meet
      obtain ⟨D', hd1, hd2, hd3⟩ := HA.out.done HR.out G3.out ⟨(X0.out.1.below' Y1.out).below' Y2.out |>.below' Y3.out, (X1.out.1.below' Y2.out).below' Y3.out, X2.out.1.below' Y3.out, X3.out.1⟩ ⟨X0.out.2, X1.out.2, X2.out.2, X3.out.2⟩ (HCM.out wA (Below.refl _ _)) HUS.out H7.out.1 H7.out.2.1 H7.out.2.2 hT
      exact ⟨_, D', _, rfl, hd1, hd2, hd3⟩
    refine AllReadyH.cons (o := ?_) ?_ (fun K hK => ?_) AllReadyH.nil
    rotate_left 1
    · simp only [List.getElem?_toArray, List.getElem?_cons_zero, List.getElem?_cons_succ]; rfl
    go_simp
    go_at_call 26
    (with_reducible refine (HN3.out _ G2.out).mono ?_)
    rintro e w6 ⟨a3, c3, rfl, x1, x2, x3, x4, x5⟩
    have G3 := Lib.hid x4
    have X3 := Lib.hid (And.intro x1 (And.intro x2 x3))
    have Y3 := Lib.hid x5
    have f4 := (F.out _ x4).2.1
    clear x1 x2 x3 x4 x5
    refine hK.out _ _ ?_ (fun hHeld => ?_)
    · exact FS.out _ G3.out
    clear hK K
    try simp only [Act.put, List.setIfInBounds_toArray, List.set_cons_zero, List.set_cons_succ]
    refine wpAnyH_take (i := 33) (oi := ?_) (v := ?_) ?_ (by kernel_rfl) (by kernel_rfl) (by kernel_rfl) ?_ (Or.inl ⟨?_, ?_⟩) (by assumption) ?_
    rotate_left 2
    · simp only [List.getElem?_toArray, List.getElem?_cons_zero, List.getElem?_cons_succ]; rfl
    · exact fun _ _ _ h => h
    · rfl
    · intro w' hSw; (try dsimp only at hSw); (first | (go_simp; done) | (go_simp; with_reducible rfl))
    try simp only [Act.put, List.setIfInBounds_toArray, List.set_cons_zero, List.set_cons_succ]
    refine wpAnyH_ready (rs := [4, 34]) (by kernel_rfl) (by simp) ?_
    refine AllReadyH.cons (o := ?_) ?_ (fun K hK => ?_) ?_
    rotate_left 1
    · simp only [List.getElem?_toArray, List.getElem?_cons_zero, List.getElem?_cons_succ]; rfl
    · go_simp
      refine hK.out _ _ ?_ (fun hHeld => ?_)
      · exact FS.out _ G3.out
      clear hK K
      try simp only [Act.put, List.setIfInBounds_toArray, List.set_cons_zero, List.set_cons_succ]
      refine wpAnyH_ready (rs := [34]) (by kernel_rfl) (by simp) ?_
      refine AllReadyH.cons (o := ?_) ?_ (fun K hK => ?_) AllReadyH.nil
      rotate_left 1
      · simp only [List.getElem?_toArray, List.getElem?_cons_zero, List.getElem?_cons_succ]; rfl
      go_simp
      have hl6 : lb < w6.heap.size := (FL.out w6 G3.out).lt
      refine hK.out _ _ ?_ (fun hHeld => ?_)
      · exact FS.out _ (G3.out.alloc G3.out.size _)
      clear hK K
      try simp only [Act.put, List.setIfInBounds_toArray, List.set_cons_zero, List.set_cons_succ]
      refine wpAnyH_ready (rs := [35]) (by kernel_rfl) (by simp) ?_
      refine AllReadyH.cons (o := ?_) ?_ (fun K hK => ?_) AllReadyH.nil
      rotate_left 1
      · simp only [List.getElem?_toArray, List.getElem?_cons_zero, List.getElem?_cons_succ]; rfl
      refine step_lies app_rins (by rfl) (.tmp 24) (.tmp 54) (by rfl) 0 _ _ _ (by rfl) ((HCM.out w6 G3.out).alloc _) ⟨w6.heap.size, 0, none⟩ 1 1 [.slice a0 M.n c0, .slice a1 M.n c1, .slice a2 M.n c2, .slice a3 M.n c3] (by rfl) (by simp) (hasRow_new w6 _ _ 0 4 (by simp)) (rowOf_new w6 _ _ 0 4 (by simp)) (by rfl) (by omega) (by omega) (by omega) ?_
      intro g7 cp7 w7 hown1 hgrow hlie
      have hb7 : Blk w7 lb 88 #[.int .i64 M.n, .int .i64 M.me, .bool true, vo', vc] := (hgrow.block lb (by simp; exact Nat.lt_succ_of_lt (FL.out w6 G3.out).lt) (fun e => HVC.out.1 e.symm)).trans ((FL.out w6 G3.out).alloc _)
      have hp7 : Blk w7 pb 66 [Value.slice (a 0) (ln 0) (cp 0), .slice (a 1) (ln 1) (cp 1), .slice (a 2) (ln 2) (cp 2), .slice (a 3) (ln 3) (cp 3)].toArray := (hgrow.block pb (by simp; exact Nat.lt_succ_of_lt (FP.out w6 G3.out).lt) (fun e => absurd (HVC.out.2.1 pb e.symm) (by rw [HPB.out]; exact Nat.lt_irrefl _))).trans ((FP.out w6 G3.out).alloc _)
      have F7 := Lib.hid (And.intro (hb7.cell 0) (And.intro (hp7.cell 0) (And.intro (hp7.cell 1) (And.intro (hp7.cell 2) (hp7.cell 3)))))
      have F8 := Lib.hid (And.intro ((hb7.set_ 4 (.slice (some ⟨g7, 0, none⟩) (M.T + 1) cp7)).cell 0) (And.intro ((hp7.far (p := ⟨lb, 4, none⟩) hpl (.slice (some ⟨g7, 0, none⟩) (M.T + 1) cp7)).cell 0) (And.intro ((hp7.far (p := ⟨lb, 4, none⟩) hpl (.slice (some ⟨g7, 0, none⟩) (M.T + 1) cp7)).cell 1) (And.intro ((hp7.far (p := ⟨lb, 4, none⟩) hpl (.slice (some ⟨g7, 0, none⟩) (M.T + 1) cp7)).cell 2) ((hp7.far (p := ⟨lb, 4, none⟩) hpl (.slice (some ⟨g7, 0, none⟩) (M.T + 1) cp7)).cell 3)))))
      have z7 := hb7.frozen 4
      have c7 := hb7.cell 4
      simp at c7
      have H7 := Lib.hid (And.intro hown1 (And.intro hgrow hlie))
      clear hown1 hgrow hlie hb7 hp7
      refine hK.out _ _ ?_ (fun hHeld => ?_)
      · exact F7.out
      clear hK K
      try simp only [Act.put, List.setIfInBounds_toArray, List.set_cons_zero, List.set_cons_succ]
      refine wpAnyH_take (i := 36) (oi := ?_) (v := ?_) ?_ (by kernel_rfl) (by kernel_rfl) (by kernel_rfl) ?_ (Or.inl ⟨?_, ?_⟩) (by assumption) ?_
      rotate_left 2
      · simp only [List.getElem?_toArray, List.getElem?_cons_zero, List.getElem?_cons_succ]; rfl
      · exact fun _ _ _ h => h
      · rfl
      · intro w' hSw; (try dsimp only at hSw); (first | (go_simp; done) | (go_simp; with_reducible rfl))
      try simp only [Act.put, List.setIfInBounds_toArray, List.set_cons_zero, List.set_cons_succ]
      refine wpAnyH_take (i := 37) (oi := ?_) (v := ?_) ?_ (by kernel_rfl) (by kernel_rfl) (by kernel_rfl) ?_ (Or.inl ⟨?_, ?_⟩) (by assumption) ?_
      rotate_left 2
      · simp only [List.getElem?_toArray, List.getElem?_cons_zero, List.getElem?_cons_succ]; rfl
      · exact fun _ _ _ h => h
      · rfl
      · intro w' hSw; (try dsimp only at hSw); (first | (go_simp; done) | (go_simp; with_reducible rfl))
      try simp only [Act.put, List.setIfInBounds_toArray, List.set_cons_zero, List.set_cons_succ]
      refine wpAnyH_ready (rs := [38]) (by kernel_rfl) (by simp) ?_
      refine AllReadyH.cons (o := ?_) ?_ (fun K hK => ?_) AllReadyH.nil
      rotate_left 1
      · simp only [List.getElem?_toArray, List.getElem?_cons_zero, List.getElem?_cons_succ]; rfl
      go_simp
      refine hK.out _ _ ?_ (fun hHeld => ?_)
      · exact F8.out
      clear hK K
      try simp only [Act.put, List.setIfInBounds_toArray, List.set_cons_zero, List.set_cons_succ]
      refine wpAnyH_done (by kernel_rfl) ?_ _
      go_wp2_with fail
      go_meet
      obtain ⟨D', hd1, hd2, hd3⟩ := HA.out.done HR.out G3.out ⟨(X0.out.1.below' Y1.out).below' Y2.out |>.below' Y3.out, (X1.out.1.below' Y2.out).below' Y3.out, X2.out.1.below' Y3.out, X3.out.1⟩ ⟨X0.out.2, X1.out.2, X2.out.2, X3.out.2⟩ (HCM.out wA (Below.refl _ _)) HUS.out H7.out.1 H7.out.2.1 H7.out.2.2 hT
      exact ⟨_, D', _, rfl, hd1, hd2, hd3⟩
    refine AllReadyH.cons (o := ?_) ?_ (fun K hK => ?_) AllReadyH.nil
    rotate_left 1
    · simp only [List.getElem?_toArray, List.getElem?_cons_zero, List.getElem?_cons_succ]; rfl
    go_simp
    have hl6 : lb < w6.heap.size := (FL.out w6 G3.out).lt
    refine hK.out _ _ ?_ (fun hHeld => ?_)
    · exact FS.out _ (G3.out.alloc G3.out.size _)
    clear hK K
    try simp only [Act.put, List.setIfInBounds_toArray, List.set_cons_zero, List.set_cons_succ]
    refine wpAnyH_ready (rs := [4]) (by kernel_rfl) (by simp) ?_
    refine AllReadyH.cons (o := ?_) ?_ (fun K hK => ?_) AllReadyH.nil
    rotate_left 1
    · simp only [List.getElem?_toArray, List.getElem?_cons_zero, List.getElem?_cons_succ]; rfl
    go_simp
    refine hK.out _ _ ?_ (fun hHeld => ?_)
    · exact FS.out _ (G3.out.alloc G3.out.size _)
    clear hK K
    try simp only [Act.put, List.setIfInBounds_toArray, List.set_cons_zero, List.set_cons_succ]
    refine wpAnyH_ready (rs := [35]) (by kernel_rfl) (by simp) ?_
    refine AllReadyH.cons (o := ?_) ?_ (fun K hK => ?_) AllReadyH.nil
    rotate_left 1
    · simp only [List.getElem?_toArray, List.getElem?_cons_zero, List.getElem?_cons_succ]; rfl
    refine step_lies app_rins (by rfl) (.tmp 24) (.tmp 54) (by rfl) 0 _ _ _ (by rfl) ((HCM.out w6 G3.out).alloc _) ⟨w6.heap.size, 0, none⟩ 1 1 [.slice a0 M.n c0, .slice a1 M.n c1, .slice a2 M.n c2, .slice a3 M.n c3] (by rfl) (by simp) (hasRow_new w6 _ _ 0 4 (by simp)) (rowOf_new w6 _ _ 0 4 (by simp)) (by rfl) (by omega) (by omega) (by omega) ?_
    intro g7 cp7 w7 hown1 hgrow hlie
    have hb7 : Blk w7 lb 88 #[.int .i64 M.n, .int .i64 M.me, .bool true, vo', vc] := (hgrow.block lb (by simp; exact Nat.lt_succ_of_lt (FL.out w6 G3.out).lt) (fun e => HVC.out.1 e.symm)).trans ((FL.out w6 G3.out).alloc _)
    have hp7 : Blk w7 pb 66 [Value.slice (a 0) (ln 0) (cp 0), .slice (a 1) (ln 1) (cp 1), .slice (a 2) (ln 2) (cp 2), .slice (a 3) (ln 3) (cp 3)].toArray := (hgrow.block pb (by simp; exact Nat.lt_succ_of_lt (FP.out w6 G3.out).lt) (fun e => absurd (HVC.out.2.1 pb e.symm) (by rw [HPB.out]; exact Nat.lt_irrefl _))).trans ((FP.out w6 G3.out).alloc _)
    have F7 := Lib.hid (And.intro (hb7.cell 0) (And.intro (hp7.cell 0) (And.intro (hp7.cell 1) (And.intro (hp7.cell 2) (hp7.cell 3)))))
    have F8 := Lib.hid (And.intro ((hb7.set_ 4 (.slice (some ⟨g7, 0, none⟩) (M.T + 1) cp7)).cell 0) (And.intro ((hp7.far (p := ⟨lb, 4, none⟩) hpl (.slice (some ⟨g7, 0, none⟩) (M.T + 1) cp7)).cell 0) (And.intro ((hp7.far (p := ⟨lb, 4, none⟩) hpl (.slice (some ⟨g7, 0, none⟩) (M.T + 1) cp7)).cell 1) (And.intro ((hp7.far (p := ⟨lb, 4, none⟩) hpl (.slice (some ⟨g7, 0, none⟩) (M.T + 1) cp7)).cell 2) ((hp7.far (p := ⟨lb, 4, none⟩) hpl (.slice (some ⟨g7, 0, none⟩) (M.T + 1) cp7)).cell 3)))))
    have z7 := hb7.frozen 4
    have c7 := hb7.cell 4
    simp at c7
    have H7 := Lib.hid (And.intro hown1 (And.intro hgrow hlie))
    clear hown1 hgrow hlie hb7 hp7
    refine hK.out _ _ ?_ (fun hHeld => ?_)
    · exact F7.out
    clear hK K
    try simp only [Act.put, List.setIfInBounds_toArray, List.set_cons_zero, List.set_cons_succ]
    refine wpAnyH_take (i := 36) (oi := ?_) (v := ?_) ?_ (by kernel_rfl) (by kernel_rfl) (by kernel_rfl) ?_ (Or.inl ⟨?_, ?_⟩) (by assumption) ?_
    rotate_left 2
    · simp only [List.getElem?_toArray, List.getElem?_cons_zero, List.getElem?_cons_succ]; rfl
    · exact fun _ _ _ h => h
    · rfl
    · intro w' hSw; (try dsimp only at hSw); (first | (go_simp; done) | (go_simp; with_reducible rfl))
    try simp only [Act.put, List.setIfInBounds_toArray, List.set_cons_zero, List.set_cons_succ]
    refine wpAnyH_take (i := 37) (oi := ?_) (v := ?_) ?_ (by kernel_rfl) (by kernel_rfl) (by kernel_rfl) ?_ (Or.inl ⟨?_, ?_⟩) (by assumption) ?_
    rotate_left 2
    · simp only [List.getElem?_toArray, List.getElem?_cons_zero, List.getElem?_cons_succ]; rfl
    · exact fun _ _ _ h => h
    · rfl
    · intro w' hSw; (try dsimp only at hSw); (first | (go_simp; done) | (go_simp; with_reducible rfl))
    try simp only [Act.put, List.setIfInBounds_toArray, List.set_cons_zero, List.set_cons_succ]
    refine wpAnyH_ready (rs := [38]) (by kernel_rfl) (by simp) ?_
    refine AllReadyH.cons (o := ?_) ?_ (fun K hK => ?_) AllReadyH.nil
    rotate_left 1
    · simp only [List.getElem?_toArray, List.getElem?_cons_zero, List.getElem?_cons_succ]; rfl
    go_simp
    refine hK.out _ _ ?_ (fun hHeld => ?_)
    · exact F8.out
    clear hK K
    try simp only [Act.put, List.setIfInBounds_toArray, List.set_cons_zero, List.set_cons_succ]
    refine wpAnyH_done (by kernel_rfl) ?_ _
    go_wp2_with fail
    go_meet
    obtain ⟨D', hd1, hd2, hd3⟩ := HA.out.done HR.out G3.out ⟨(X0.out.1.below' Y1.out).below' Y2.out |>.below' Y3.out, (X1.out.1.below' Y2.out).below' Y3.out, X2.out.1.below' Y3.out, X3.out.1⟩ ⟨X0.out.2, X1.out.2, X2.out.2, X3.out.2⟩ (HCM.out wA (Below.refl _ _)) HUS.out H7.out.1 H7.out.2.1 H7.out.2.2 hT
    exact ⟨_, D', _, rfl, hd1, hd2, hd3⟩
  case rest =>
  obtain ⟨wF, D', vc', rfl, hf, hchg, hown⟩ := hcut
  obtain ⟨ao, co, gc, cc, hvo1, hvc1, hrd⟩ := hf.rd (show 0 < M.T + 1 by omega)
  have e1 : (M.put ins).T = M.T + 1 := rfl
  have e2 : (M.put ins).n = M.n := rfl
  rw [e1] at hvo1 hvc1
  subst hvo1
  subst hvc1
  have HF := Lib.hid hf
  have HCH := Lib.hid hchg
  have HOW := Lib.hid hown
  have HRD := Lib.hid hrd
  obtain ⟨wz, rfl⟩ : ∃ wz, wz = wF := ⟨_, rfl⟩
  clear hchg hown
  have FL : Hid (∀ w', Below wz.heap.size wz w' → w'.cell? ⟨lb, 0, none⟩ = some (.int .i64 M.n) ∧ w'.cell? ⟨lb, 4, none⟩ = some (.slice (some ⟨gc, 0, none⟩) (M.T + 1) cc)) := Lib.hid fun w' hb => by
    have h2 := HRD.out.below hb
    exact ⟨h2.n, h2.come⟩
  obtain ⟨ti, hti⟩ : ∃ ti : Int, ti = (M.T : Int) - M.n := ⟨_, rfl⟩
  have HCE : Hid (∀ s : Nat, s < M.n → ∀ w', Below wz.heap.size wz w' → Calls Try.prog 27 #[.pointer (some ⟨lb, 0, none⟩), .int .i64 s, .int .i64 ti] w' (RRowA (RfS D' lb (.slice ao (M.T + 1) co) (.slice (some ⟨gc, 0, none⟩) (M.T + 1) cc)) wz ((M.put ins).held s) w')) := Lib.hid fun s hs w' hb => by
    by_cases hn : M.n ≤ M.T
    · obtain ⟨t, ht⟩ : ∃ t : Nat, t = M.T - M.n := ⟨_, rfl⟩
      have e : ti = (t : Int) := by omega
      rw [e]
      refine (rcert_any (HRD.out.low.below hb) hs (show t + M.n < M.T + 1 by omega)).mono ?_
      rintro e w'' ⟨tv, rfl, h1, h2, h3⟩
      have eh : (M.put ins).held s = (M.put ins).cert s t := by
        unfold RfM.held
        rw [e1, e2, if_pos (by omega), show M.T + 1 - 1 - M.n = t from by omega]
      rw [eh]
      exact ⟨tv, rfl, h1.back hb, h2, h3⟩
    · have eh : (M.put ins).held s = rw0 := by
        unfold RfM.held
        rw [e1, e2, if_neg (by omega)]
      rw [eh]
      refine (rcert_neg (D := fun b => RfS D' lb (.slice ao (M.T + 1) co) (.slice (some ⟨gc, 0, none⟩) (M.T + 1) cc) b ∧ b < wz.heap.size) lb s (by omega)).mono ?_
      rintro e w'' ⟨tv, rfl, h1, h2, h3⟩
      exact ⟨tv, rfl, h1.back hb, h2, h3⟩
  have ht1 : ((M.T : Int) + 1) - 1 - M.n = ti := by omega
  have ht1' : (M.T : Int) - M.n = ti := by omega
  have wt1 : IntKind.i64.wrap ((M.T : Int) + 1) = (M.T : Int) + 1 := IntWalk.i64_in _ (by omega)
  have wt2 : IntKind.i64.wrap (ti : Int) = ti := IntWalk.i64_in _ (by omega)
  have wt3 : IntKind.i64.wrap (M.T : Int) = M.T := IntWalk.i64_in _ (by omega)
  have HST : Hid (RowsO wz (RfS D' lb (.slice ao (M.T + 1) co) (.slice (some ⟨gc, 0, none⟩) (M.T + 1) cc)) [] (.slice none 0 0) wz) := Lib.hid (RowsO.start _ _)
  have HTI := Lib.hid hti
  clear hti hf hrd e1 e2
  go_wp2_with fail
  go_loopw [5, 6] (fun s5 s6 wr => ∃ (k : Nat) (ps : List (Rw × Value)), k ≤ M.n ∧ s6 = .int .i64 k ∧ RowsO wz (RfS D' lb (.slice ao (M.T + 1) co) (.slice (some ⟨gc, 0, none⟩) (M.T + 1) cc)) ps s5 wr ∧ ps.map Prod.fst = tab k (M.put ins).held) (fun _ i _ => M.n - (intOf i).toNat)
  case atStart => exact ⟨0, [], by omega, rfl, HST.out, rfl⟩
  case round =>
    obtain ⟨k, ps, hk, rfl, ho, hps⟩ := hrel
    obtain ⟨wq, rfl⟩ : ∃ wq, wq = wr := ⟨_, rfl⟩
    obtain ⟨v, rfl⟩ : ∃ v, v = u5 := ⟨_, rfl⟩
    have HO := Lib.hid ho
    have HPS := Lib.hid hps
    have hpl : ps.length = k := by rw [← List.length_map (f := Prod.fst), hps]; simp [tab]
    have HPL := Lib.hid hpl
    clear ho hps hpl
    obtain ⟨x0, x4⟩ := FL.out wq HO.out.bel
    by_cases hkn : k < M.n
    · have hkn1 : (k : Int) < M.n := by omega
      have HCK := Lib.hid (HCE.out k hkn)
      obtain ⟨r, hr⟩ : ∃ r, r = (M.put ins).held k := ⟨_, rfl⟩
      rw [← hr] at HCK
      have HRE := Lib.hid hr
      have hpl := HPL.out
      clear hr
      go_upto_region 8 with fail
      clear x0 x4
      go_region_held3 (fun w' => w'.cell? ⟨lb, 0, none⟩ = some (.int .i64 M.n) ∧ w'.cell? ⟨lb, 4, none⟩ = some (.slice (some ⟨gc, 0, none⟩) (M.T + 1) cc))
        (with_reducible (first | exact FL.out _ HO.out.bel.drew | exact FL.out _ HO5.out.bel | exact FL.out _ (HO4.out.bel.alloc HO4.out.bel.size _) | exact FL.out _ HO4.out.bel))
        ((first
          | ((with_reducible refine (HCK.out _ HO.out.bel.drew).mono ?_); rintro e w4 ⟨tv, rfl, y1, y2, y3⟩; have HO4 := Lib.hid (HO.out.below ((Below.refl wq.heap.size wq).drew.trans y3)); have HY := Lib.hid (And.intro y2 y1); obtain ⟨rv, hrv⟩ : ∃ rv, rv = r.vals tv := ⟨_, rfl⟩; have hvl : rv.length = 57 := hrv.symm ▸ Rw.len y2 tv; have hvc : rv.all cell1 = true := hrv.symm ▸ y1.cell1 y2; rw [← hrv]; have HRV := Lib.hid hrv; have hsz4 := HO4.out.bel.size; clear y1 y2 y3 hrv)
          | (refine step_lies app_rrow (by rfl) (.tmp 66) (.tmp 81) (by rfl) wz.heap.size _ _ _ (by rfl) (HO4.out.own.alloc _) ⟨w4.heap.size, 0, none⟩ 1 1 rv (by rfl) (by simp [hvl]) (hasRow_new w4 _ _ 0 57 (by simp [hvl])) ((rowOf_new w4 _ _ 0 57 (by simp [hvl])).trans (List.take_of_length_le (by simp [hvl]))) hvc (by omega) (by omega) (by simp; omega) ?_; intro g5 cp5 w5 hown1 hgrow hlie; have HO5 := Lib.hid (HO4.out.push HY.out hgrow (by rw [← HRV.out]; exact hown1)); clear hown1 hgrow hlie)))
      go_wp2_with fail
      exact ⟨⟨k + 1, ps ++ [(r, tv)], by omega, by go_num, by rw [← HPL.out]; exact HO5.out, by rw [List.map_append, HPS.out, HRE.out]; unfold tab; rw [List.range_succ, List.map_append]; rfl⟩, by simp [intOf]; omega⟩
    · have hkn1 : ¬ (k : Int) < M.n := by omega
      obtain rfl : k = M.n := by omega
      have HE : Hid (RHeard D lb M vo vc ins w (.returned v) wq) := Lib.hid (by
        obtain ⟨a, cap, rfl, h1, h2, h3⟩ := HO.out.rd
        rw [HPL.out, HPS.out] at h1
        rw [HPL.out] at h2
        refine ⟨D', _, _, a, cap, by rw [HPL.out], HF.out.below HO.out.bel, h1, h2, h3, HCH.out.trans (Chg.of_below HO.out.bel _), HOW.out⟩)
      go_wp2_with fail
      go_ret
      exact HE.out
end Go.Proofs.Ytopakilglnpinaa
