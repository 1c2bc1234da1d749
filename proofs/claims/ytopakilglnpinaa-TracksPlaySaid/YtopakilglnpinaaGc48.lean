/-
  What TracksPlay's inner loop stands on: words that go out are appended, and spoiled later.
-/
import Derived.Test.YtopakilglnpinaaGc47
namespace Go.Proofs.Ytopakilglnpinaa
open Go.RowKit
set_option linter.unusedVariables false
set_option linter.unusedSimpArgs false

theorem RowsC.app {S : Nat → Prop} {w : World} {cs cs' : List Value} {L L' : List Rw} (h : RowsC S w cs L) (h' : RowsC S w cs' L') : RowsC S w (cs ++ cs') (L ++ L') := by
  refine ⟨by rw [List.length_append, List.length_append, h.1, h'.1]; omega, fun k r hk => ?_⟩
  by_cases hl : k < L.length
  · rw [List.getElem?_append_left hl] at hk
    obtain ⟨tv, q1, q2⟩ := h.2 k r hk
    refine ⟨tv, fun i hi => ?_, q2⟩
    have : (k + 1) * 57 ≤ L.length * 57 := Nat.mul_le_mul_right _ (by omega)
    rw [List.getElem?_append_left (by rw [h.1]; omega), q1 i hi]
  · rw [List.getElem?_append_right (by omega)] at hk
    obtain ⟨tv, q1, q2⟩ := h'.2 (k - L.length) r hk
    refine ⟨tv, fun i hi => ?_, q2⟩
    have e : k * 57 + i - L.length * 57 = (k - L.length) * 57 + i := by
      have : k * 57 = (k - L.length) * 57 + L.length * 57 := by rw [← Nat.add_mul, Nat.sub_add_cancel (by omega)]
      omega
    have : L.length * 57 ≤ k * 57 := Nat.mul_le_mul_right _ (by omega)
    rw [List.getElem?_append_right (by rw [h.1]; omega), h.1, e, q1 i hi]
theorem RowsC.mono {S S' : Nat → Prop} {w : World} {cs : List Value} {L : List Rw} (h : RowsC S w cs L) (hs : ∀ b, b < w.heap.size → S b → S' b) : RowsC S' w cs L :=
  ⟨h.1, fun k r hr => by
    obtain ⟨tv, q1, q2⟩ := h.2 k r hr
    exact ⟨tv, q1, q2.mono hs⟩⟩
theorem RowsC.nil (S : Nat → Prop) (w : World) : RowsC S w [] [] := ⟨rfl, fun k r hk => by simp at hk⟩
/-- a slice of rows of the walk's own -/
def CwV (Q : Nat → Prop) (w : World) (v : Value) (bd : Nat) : Prop :=
  ∃ (m : Nat) (xs : List Value) (Lr : List Rw), w.ownsRow 0 54 57 v m xs ∧ RowsC Q w xs Lr ∧ (∀ r ∈ Lr, r.ok) ∧ Lr.length = m ∧ (∀ g, v.ownBlock = some g → Q g) ∧ m ≤ bd
theorem CwV.nil (Q : Nat → Prop) (w : World) (bd : Nat) : CwV Q w (.slice none 0 0) bd := ⟨0, [], [], World.ownsRow_nil _ _ _ _, RowsC.nil _ _, by simp, rfl, fun g hg => by simp [Value.ownBlock] at hg, Nat.zero_le _⟩
theorem CwV.keep {Q : Nat → Prop} {w w' : World} {v : Value} {bd : Nat} (h : CwV Q w v bd) (hs : w.heap.size ≤ w'.heap.size) (hk : ∀ b, Q b → b < w.heap.size → w'.heap[b]? = w.heap[b]?) : CwV Q w' v bd := by
  obtain ⟨m, xs, Lr, h1, h2, h3, h4, h5, h6⟩ := h
  exact ⟨m, xs, Lr, own_block h1 fun g hg => hk g (h5 g hg) (own_lt h1 hg), h2.keep hs hk, h3, h4, h5, h6⟩
theorem CwV.mono {Q Q' : Nat → Prop} {w : World} {v : Value} {bd bd' : Nat} (h : CwV Q w v bd) (hs : ∀ b, Q b → Q' b) (hb : bd ≤ bd') : CwV Q' w v bd' := by
  obtain ⟨m, xs, Lr, h1, h2, h3, h4, h5, h6⟩ := h
  exact ⟨m, xs, Lr, h1, h2.mono fun b _ hb => hs b hb, h3, h4, fun g hg => hs g (h5 g hg), Nat.le_trans h6 hb⟩
theorem CwV.sp {Q : Nat → Prop} {w : World} {v : Value} {bd : Nat} (h : CwV Q w v bd) : ∃ a m cap, v = .slice a m cap ∧ m ≤ cap ∧ cap ≤ maxLen ∧ SpS Q w a m := by
  obtain ⟨m, xs, Lr, h1, h2, h3, h4, h5, h6⟩ := h
  rcases h1.2 with ⟨rfl, h0⟩ | ⟨g, cap, cur, rfl, hb, hg, hnc, hcm, hcs, htake⟩
  · exact ⟨none, 0, 0, rfl, Nat.le_refl _, by simp, .inl rfl⟩
  · refine ⟨_, m, cap, rfl, hnc, hcm, .inr ⟨g, rfl, h5 g rfl, ?_⟩⟩
    have h := h2.spa (T := Q) h3 hg (by rw [h1.1]; exact htake) fun b _ hb => hb
    rw [h4] at h
    exact h

/-- rows that a lane says -/
def SayR (J' : Nat → Prop) (lo : Nat) (w' : World) (N : Nat) (a : Option Addr) (l : List Rw) (cs : List Value) : Prop :=
  l.length = N ∧ (∀ r ∈ l, r.ok ∧ r.t.length ≤ 16) ∧ RdRs (fun b => lo ≤ b ∧ J' b) w' a N l ∧ RowsC (fun b => lo ≤ b ∧ J' b) w' cs l ∧ (N = 0 ∨ ∃ g, a = some ⟨g, 0, none⟩ ∧ Blk w' g 54 cs.toArray ∧ lo ≤ g ∧ J' g)
theorem SayR.keep {J' : Nat → Prop} {lo N : Nat} {w w' : World} {a : Option Addr} {l : List Rw} {cs : List Value} (h : SayR J' lo w N a l cs) (hs : w.heap.size ≤ w'.heap.size) (hk : ∀ b, J' b → lo ≤ b → b < w.heap.size → w'.heap[b]? = w.heap[b]?) : SayR J' lo w' N a l cs := by
  obtain ⟨h1, h2, h3, h4, h5⟩ := h
  refine ⟨h1, h2, h3.keep hs fun b hb hl => hk b hb.2 hb.1 hl, h4.keep hs fun b hb hl => hk b hb.2 hb.1 hl, ?_⟩
  rcases h5 with h5 | ⟨g, e, hb, hg, hj⟩
  · exact .inl h5
  · exact .inr ⟨g, e, (hk g hj hg hb.lt).trans hb, hg, hj⟩
def SayU (W0 : World) (p gp lb : Nat) (J : Nat → Prop) (D : Nat → Prop) (G : Nat → Nat) (L : LaneM) (M : RfM) (vo vc : Value) (own : Rw) (w : World) (e : Ending) (w' : World) : Prop :=
  ∃ (N : Nat) (a0 a1 : Option Addr) (l0 l1 : List Rw) (cs0 cs1 : List Value) (J' S' : Nat → Prop), e = .returned (.tuple #[.agg #[.slice a0 N N], .agg #[.slice a1 N N]]) ∧ PlS W0 p gp lb J' S' D G (L.said own) M vo vc w' ∧ (∀ b, J b → J' b) ∧ (∀ b, J b → b < w.heap.size → w'.heap[b]? = w.heap[b]?) ∧ w.heap.size ≤ w'.heap.size ∧
    SayR J' w.heap.size w' N a0 l0 cs0 ∧ SayR J' w.heap.size w' N a1 l1 cs1 ∧ N ≤ 16 ∧ (L.b = true ∧ N = L.n ∧ l0 = (L.said own).out 0 ∧ l1 = (L.said own).out 2 ∨ L.b = false ∧ N = 0 ∧ l0 = [] ∧ l1 = [])
section
variable {W0 : World} {p gp lb : Nat} {J S D : Nat → Prop} {G : Nat → Nat} {L : LaneM} {M : RfM} {vo vc : Value} {w w' : World}
theorem rowsB_sayR {J' : Nat → Prop} {lo g g' : Nat} {w' : World} {l : List Rw} (h : RowsB (fun b => lo ≤ b ∧ J' b) w' g 54 l) (hg : lo ≤ g) (hj : J' g) (ho : ∀ r ∈ l, r.ok ∧ r.t.length ≤ 16) : ∃ cs, SayR J' lo w' l.length (some ⟨g, 0, none⟩) l cs := by
  have hrd := h.rd fun r hr => (ho r hr).1
  obtain ⟨cs, h1, h2, h3⟩ := h
  refine ⟨cs, rfl, ho, hrd.mono fun b _ hb => ?_, ⟨h2, h3⟩, .inr ⟨g, rfl, h1, hg, hj⟩⟩
  rcases hb with rfl | hb
  · exact ⟨hg, hj⟩
  · exact hb
theorem say_u (h : PlS W0 p gp lb J S D G L M vo vc w) (hT : 0 < L.T) (hT2 : L.T ≤ 1000000000) {own : Rw} (ho : own.ok) {tv : Value} (ht : RowR J w own tv) :
    Calls Try.prog 14 #[.pointer (some ⟨p, 0, none⟩), .agg (own.vals tv).toArray] w (SayU W0 p gp lb J D G L M vo vc own w) := by
  by_cases hb : L.b = true
  · refine (say_any S J p gp G L own ho tv w h.la hb hT hT2 ht fun b hJ => (h.nj b hJ).2.1).mono fun e w' hp => ?_
    obtain ⟨m, g0, g1, rfl, h1, h2, h3, h4, h5, h6, hc⟩ := h.say hp
    have hk : ∀ b, J b → b < w.heap.size → w'.heap[b]? = w.heap[b]? := fun b hJ hl => hc.block b hl (h.nj b hJ).2.1
    have hlen0 : ((L.said own).out 0).length = L.n := by unfold LaneM.out; rw [tab_len]; unfold LaneM.said; rw [if_pos hb]
    have hlen1 : ((L.said own).out 2).length = L.n := by unfold LaneM.out; rw [tab_len]; unfold LaneM.said; rw [if_pos hb]
    have hoo : ∀ q, ∀ r ∈ (L.said own).out q, r.ok ∧ r.t.length ≤ 16 := fun q r hr => ⟨LaneM.out_ok h1.la.ok q r hr, LaneM.out_tlen h1.la.okt q r hr⟩
    have l0 := h5.lt
    have l1 := h6.lt
    obtain ⟨cs0, s0⟩ := rowsB_sayR (J' := fun b => J b ∨ (m ≤ b ∧ b < w'.heap.size)) (lo := w.heap.size) (g' := 0) (h5.mono fun b hl hb => ⟨by omega, .inr ⟨hb.1, hl⟩⟩) (by omega) (.inr ⟨h3, l0⟩) (hoo 0)
    obtain ⟨cs1, s1⟩ := rowsB_sayR (J' := fun b => J b ∨ (m ≤ b ∧ b < w'.heap.size)) (lo := w.heap.size) (g' := 0) (h6.mono fun b hl hb => ⟨by omega, .inr ⟨hb.1, hl⟩⟩) (by omega) (.inr ⟨h4, l1⟩) (hoo 2)
    rw [hlen0] at s0
    rw [hlen1] at s1
    exact ⟨L.n, _, _, _, _, cs0, cs1, _, _, rfl, h1, fun b hb => .inl hb, hk, hc.size, s0, s1, h.la.bd.2.1, .inl ⟨hb, rfl, rfl, rfl⟩⟩
  · have hb' : L.b = false := by simpa using hb
    have hc := h.la.cells.2.2.2.1
    rw [hb'] at hc
    refine (say_ended p (own.vals tv) w hc h.la.b.lt).mono fun e w' hp => ?_
    obtain ⟨rfl, hbel⟩ := hp
    have e1 : L.said own = L := by unfold LaneM.said; rw [if_neg hb]
    refine ⟨0, none, none, [], [], [], [], J, S, rfl, by rw [e1]; exact h.below hbel, fun b hb => hb, fun b _ hl => hbel.block b hl, hbel.size, ?_, ?_, by omega, .inr ⟨hb', rfl, rfl, rfl⟩⟩
    · exact ⟨rfl, by simp, rdRs_nil _ _, RowsC.nil _ _, .inl rfl⟩
    · exact ⟨rfl, by simp, rdRs_nil _ _, RowsC.nil _ _, .inl rfl⟩
def RSayU (W0 : World) (p gp lb : Nat) (J S D : Nat → Prop) (G : Nat → Nat) (L : LaneM) (M : RfM) (vo vc : Value) (own : Rw) (w : World) (e : Ending) (w' : World) : Prop :=
  ∃ (N : Nat) (a0 a1 : Option Addr) (c0 c1 : Nat) (l0 l1 : List Rw) (D' : Nat → Prop), e = .returned (.tuple #[.agg #[.slice a0 N c0], .agg #[.slice a1 N c1]]) ∧ PlS W0 p gp lb J S D' G L (M.said own) vo vc w' ∧ (∀ b, J b → b < w.heap.size → w'.heap[b]? = w.heap[b]?) ∧ w.heap.size ≤ w'.heap.size ∧
    RdRs (fun _ => True) w' a0 N l0 ∧ RdRs (fun _ => True) w' a1 N l1 ∧ (N ≤ c0 ∧ c0 ≤ maxLen ∧ N ≤ c1 ∧ c1 ≤ maxLen) ∧ (M.b = true ∧ N = M.n ∧ l0 = (M.said own).out 0 ∧ l1 = (M.said own).out 1 ∨ M.b = false ∧ N = 0 ∧ l0 = [] ∧ l1 = [])
theorem rsay_u (h : PlS W0 p gp lb J S D G L M vo vc w) (hT : 0 < M.T) {own : Rw} (ho : own.ok) {tv : Value} {R : Nat → Prop} (ht : RowR R w own tv) (hR : ∀ b, R b → ¬ RfC lb vo vc b) :
    Calls Try.prog 15 #[.pointer (some ⟨lb, 0, none⟩), .agg (own.vals tv).toArray] w (RSayU W0 p gp lb J S D G L M vo vc own w) := by
  by_cases hb : M.b = true
  · refine (rsay_any h.rf hb hT ho ht hR).mono fun e w' hp => ?_
    obtain ⟨D', a0, a1, c0, c1, rfl, h1, h2, h3, h4, hc⟩ := h.rsay hp
    exact ⟨M.n, a0, a1, c0, c1, _, _, D', rfl, h1, fun b hJ hl => hc.block b hl (h.nj b hJ).2.2.1, hc.size, h2, h3, h4, .inl ⟨hb, rfl, rfl, rfl⟩⟩
  · have hb' : M.b = false := by simpa using hb
    have hc := h.rf.cells.2.2.1
    rw [hb'] at hc
    refine (rsay_ended lb (own.vals tv) w hc h.rf.b.lt).mono fun e w' hp => ?_
    obtain ⟨rfl, hbel⟩ := hp
    have e1 : M.said own = M := by unfold RfM.said; rw [if_neg hb]
    exact ⟨0, none, none, 0, 0, [], [], D, rfl, by rw [e1]; exact h.below hbel, fun b _ hl => hbel.block b hl, hbel.size, rdRs_nil _ _, rdRs_nil _ _, by simp, .inr ⟨hb', rfl, rfl, rfl⟩⟩
end

/-! ### the inner loop's state -/
structure PlQ (W0 : World) (p gp lb : Nat) (T : Nat → Prop) (t : Tk) (a : Nat → Option Addr) (ln cp : Nat → Nat) (a' : Nat → Option Addr) (cp' : Nat → Nat) (tv' : Value) (x12 x13 x14 gh n x17 x18 : Nat)
    (J Q S D : Nat → Prop) (G : Nat → Nat) (L : LaneM) (M : RfM) (vo vc v17 v18 : Value) (bd : Nat) (w : World) : Prop where
  s : PlS W0 p gp lb J S D G L M vo vc w
  i : PlI T t a ln cp a' cp' tv' x12 x13 x14 w
  h : SpS Q w (some ⟨gh, 0, none⟩) n
  q : ∀ b, Q b → J b ∧ b ≠ x17 ∧ b ≠ x18
  tq : ∀ b, T b → Q b
  xj : J x17 ∧ J x18 ∧ x17 ≠ x18
  b17 : Blk w x17 34 #[v17]
  b18 : Blk w x18 34 #[v18]
  c17 : CwV Q w v17 bd
  c18 : CwV Q w v18 bd
section
variable {W0 : World} {p gp lb : Nat} {T : Nat → Prop} {t : Tk} {a a' : Nat → Option Addr} {ln cp cp' : Nat → Nat} {tv' : Value} {x12 x13 x14 gh n x17 x18 : Nat} {J Q S D : Nat → Prop} {G : Nat → Nat} {L : LaneM} {M : RfM} {vo vc v17 v18 : Value} {bd : Nat} {w w' : World}
theorem PlQ.move (h : PlQ W0 p gp lb T t a ln cp a' cp' tv' x12 x13 x14 gh n x17 x18 J Q S D G L M vo vc v17 v18 bd w) {J' S' D' : Nat → Prop} {L' : LaneM} {M' : RfM} (hs : PlS W0 p gp lb J' S' D' G L' M' vo vc w') (hJ : ∀ b, J b → J' b) (hk : ∀ b, J b → b < w.heap.size → w'.heap[b]? = w.heap[b]?) (hz : w.heap.size ≤ w'.heap.size) :
    PlQ W0 p gp lb T t a ln cp a' cp' tv' x12 x13 x14 gh n x17 x18 J' Q S' D' G L' M' vo vc v17 v18 bd w' :=
  ⟨hs, h.i.keep hz fun b hb hl => hk b (h.q b (h.tq b hb)).1 hl, h.h.keep fun b hb hl => hk b (h.q b hb).1 hl, fun b hb => ⟨hJ b (h.q b hb).1, (h.q b hb).2⟩, h.tq, ⟨hJ _ h.xj.1, hJ _ h.xj.2.1, h.xj.2.2⟩, (hk _ h.xj.1 h.b17.lt).trans h.b17, (hk _ h.xj.2.1 h.b18.lt).trans h.b18,
    h.c17.keep hz fun b hb hl => hk b (h.q b hb).1 hl, h.c18.keep hz fun b hb hl => hk b (h.q b hb).1 hl⟩
theorem PlQ.below (h : PlQ W0 p gp lb T t a ln cp a' cp' tv' x12 x13 x14 gh n x17 x18 J Q S D G L M vo vc v17 v18 bd w) (hb : Below w.heap.size w w') : PlQ W0 p gp lb T t a ln cp a' cp' tv' x12 x13 x14 gh n x17 x18 J Q S D G L M vo vc v17 v18 bd w' :=
  h.move (h.s.below hb) (fun _ h => h) (fun b _ hl => hb.block b hl) hb.size
theorem PlQ.grow (h : PlQ W0 p gp lb T t a ln cp a' cp' tv' x12 x13 x14 gh n x17 x18 J Q S D G L M vo vc v17 v18 bd w) (hb : Below w.heap.size w w') : PlQ W0 p gp lb T t a ln cp a' cp' tv' x12 x13 x14 gh n x17 x18 (fun b => J b ∨ (w.heap.size ≤ b ∧ b < w'.heap.size)) Q S D G L M vo vc v17 v18 bd w' :=
  h.move (h.s.grow hb) (fun _ h => .inl h) (fun b _ hl => hb.block b hl) hb.size
theorem PlQ.more (h : PlQ W0 p gp lb T t a ln cp a' cp' tv' x12 x13 x14 gh n x17 x18 J Q S D G L M vo vc v17 v18 bd w) {Q' : Nat → Prop} {bd' : Nat} (h1 : ∀ b, Q b → Q' b) (h2 : ∀ b, Q' b → J b ∧ b ≠ x17 ∧ b ≠ x18) (hb : bd ≤ bd') : PlQ W0 p gp lb T t a ln cp a' cp' tv' x12 x13 x14 gh n x17 x18 J Q' S D G L M vo vc v17 v18 bd' w :=
  ⟨h.s, h.i, h.h.mono fun b _ hb => h1 b hb, h2, fun b hb => h1 b (h.tq b hb), h.xj, h.b17, h.b18, h.c17.mono h1 hb, h.c18.mono h1 hb⟩
theorem PlQ.put17 (h : PlQ W0 p gp lb T t a ln cp a' cp' tv' x12 x13 x14 gh n x17 x18 J Q S D G L M vo vc v17 v18 bd w) {v : Value} (hc : CwV Q w v bd) : PlQ W0 p gp lb T t a ln cp a' cp' tv' x12 x13 x14 gh n x17 x18 J Q S D G L M vo vc v v18 bd (w.setCell ⟨x17, 0, none⟩ v) := by
  have hch : Chg (· = x17) w (w.setCell ⟨x17, 0, none⟩ v) := (Chg.refl (· = x17) w).setCell (p := ⟨x17, 0, none⟩) (.inl rfl) _
  have hk : ∀ b, Q b → b < w.heap.size → (w.setCell ⟨x17, 0, none⟩ v).heap[b]? = w.heap[b]? := fun b hb hl => hch.block b hl (h.q b hb).2.1
  refine ⟨h.s.chg (hch.mono fun b _ hb => by rw [hb]; exact h.xj.1), h.i.keep hch.size fun b hb hl => hk b (h.tq b hb) hl, h.h.keep hk, h.q, h.tq, h.xj, by simpa using h.b17.set_ 0 v, (hch.block _ h.b18.lt (Ne.symm h.xj.2.2)).trans h.b18, hc.keep hch.size hk, h.c18.keep hch.size hk⟩
theorem PlQ.put18 (h : PlQ W0 p gp lb T t a ln cp a' cp' tv' x12 x13 x14 gh n x17 x18 J Q S D G L M vo vc v17 v18 bd w) {v : Value} (hc : CwV Q w v bd) : PlQ W0 p gp lb T t a ln cp a' cp' tv' x12 x13 x14 gh n x17 x18 J Q S D G L M vo vc v17 v bd (w.setCell ⟨x18, 0, none⟩ v) := by
  have hch : Chg (· = x18) w (w.setCell ⟨x18, 0, none⟩ v) := (Chg.refl (· = x18) w).setCell (p := ⟨x18, 0, none⟩) (.inl rfl) _
  have hk : ∀ b, Q b → b < w.heap.size → (w.setCell ⟨x18, 0, none⟩ v).heap[b]? = w.heap[b]? := fun b hb hl => hch.block b hl (h.q b hb).2.2
  refine ⟨h.s.chg (hch.mono fun b _ hb => by rw [hb]; exact h.xj.2.1), h.i.keep hch.size fun b hb hl => hk b (h.tq b hb) hl, h.h.keep hk, h.q, h.tq, h.xj, (hch.block _ h.b17.lt h.xj.2.2).trans h.b17, by simpa using h.b18.set_ 0 v, h.c17.keep hch.size hk, hc.keep hch.size hk⟩
end

theorem plq_end {W0 : World} {p gp lb : Nat} {T : Nat → Prop} {t : Tk} {a a' : Nat → Option Addr} {ln cp cp' : Nat → Nat} {tv' : Value} {x12 x13 x14 gh n x17 x18 : Nat} {J Q S D : Nat → Prop} {G : Nat → Nat} {L : LaneM} {M : RfM} {vo vc v17 v18 v : Value} {bd : Nat} {w w' : World}
    (h : PlQ W0 p gp lb T t a ln cp a' cp' tv' x12 x13 x14 gh n x17 x18 J Q S D G L M vo vc v17 v18 bd w) (hb : Below w.heap.size w w') (hc : CwV (fun q => Q q ∨ (w.heap.size ≤ q ∧ q < w'.heap.size)) w' v bd) :
    PlQ W0 p gp lb T t a ln cp a' cp' tv' x12 x13 x14 gh n x17 x18 (fun q => J q ∨ (w.heap.size ≤ q ∧ q < w'.heap.size)) (fun q => Q q ∨ (w.heap.size ≤ q ∧ q < w'.heap.size)) S D G L M vo vc v17 v bd (w'.setCell ⟨x18, 0, none⟩ v) :=
  ((h.grow hb).more (fun b hb => .inl hb) (fun b hb => by
    have l1 := h.b17.lt
    have l2 := h.b18.lt
    rcases hb with hb | hb
    · obtain ⟨q1, q2⟩ := h.q b hb
      exact ⟨.inl q1, q2⟩
    · exact ⟨.inr hb, by omega, by omega⟩) (Nat.le_refl _)).put18 hc

/-! ### all that is spoiled -/
def SlV (s : Option Addr × Nat × Nat) : Value := .slice s.1 s.2.1 s.2.2
structure SpI (Q : Nat → Prop) (SL : List (Option Addr × Nat × Nat)) (w36 wr : World) : Prop where
  c : Chg Q w36 wr
  sp : ∀ s ∈ SL, SpS Q wr s.1 s.2.1
theorem SpI.spoil {Q : Nat → Prop} {SL : List (Option Addr × Nat × Nat)} {w36 wr w' : World} (h : SpI Q SL w36 wr) (hs : Spd Q wr w') : SpI Q SL w36 w' := ⟨h.c.trans hs.chg, fun s hm => (h.sp s hm).spd hs⟩
theorem SpI.zero {Q : Nat → Prop} {SL : List (Option Addr × Nat × Nat)} {w36 wr : World} (h : SpI Q SL w36 wr) {g k : Nat} {cur : Array Value} (hQ : Q g) (hg : wr.heap[g]? = some (.cells cur 54 (0, 0))) (hk : k * 57 + 57 ≤ cur.size) : SpI Q SL w36 (putRow wr ⟨g, k * 57, none⟩ rowZ) :=
  ⟨h.c.put (p := ⟨g, k * 57, none⟩) (.inl hQ) _, fun s hm => (h.sp s hm).zero hg hk⟩
theorem sl_cell {w : World} {y : Nat} {ty : TypeId} {SL : List (Option Addr × Nat × Nat)} (h : Blk w y ty (SL.map SlV).toArray) {k : Nat} {s : Option Addr × Nat × Nat} (hs : SL[k]? = some s) : w.cell? ⟨y, k, none⟩ = some (.slice s.1 s.2.1 s.2.2) := by
  rw [h.cell]
  simp [hs, SlV]
theorem sp_own {T Q : Nat → Prop} {w : World} {g : Nat} {r : Rw} {tv : Value} (hb : Blk w g 54 (r.vals tv).toArray) (hr : r.ok) (ht : TwR T w r tv) (hT : ∀ b, T b → Q b) (hg : Q g) : SpS Q w (some ⟨g, 0, none⟩) 1 := by
  have hlen := Rw.len hr tv
  refine .inr ⟨g, rfl, hg, ?_⟩
  have h : RowsC T w (r.vals tv) [r] := ⟨by simpa using hlen, fun k r' hk => by
    cases k with
    | zero =>
      simp at hk
      subst hk
      exact ⟨tv, fun i _ => by simp, ht.row, ht.room⟩
    | succ k => simp at hk⟩
  exact h.spa (T := Q) (by simpa using hr) hb (by simp) fun b _ hb => hT b hb

/-- rows appended onto nothing, or none appended -/
theorem wpList_appN {P : Program} {tt : TypeId} (hA : AppOk P tt 54 57) {w : World} {ops : Array Oper} {rest : List Oper} {o : Oper} {a : Act} {K : Exit → Act → World → Prop} (hgd : o.guard = none) (s x : Operand)
    (ho : o.op = .call { callee := .builtin .append, args := #[s, x], argTypes := #[tt, tt] })
    {Q J' : Nat → Prop} {v : Value} {bd lo N : Nat} {l : List Rw} {cs : List Value} {ad : Option Addr} (hs : a.eval s = v) (hv : CwV Q w v bd) (hx : a.eval x = .slice ad N N) (hr : SayR J' lo w N ad l cs) (hN : N = 0 ∨ v = .slice none 0 0) (hbd : bd + N ≤ 1000000000)
    (h : ∀ v' w', Below w.heap.size w w' → CwV (fun b => Q b ∨ (lo ≤ b ∧ J' b) ∨ (w.heap.size ≤ b ∧ b < w'.heap.size)) w' v' (bd + N) → (N = 0 ∨ True) → wpList P ops K rest (a.put o.dst v') w') : wpList P ops K (o :: rest) a w := by
  obtain ⟨h1, h2, h3, h4, h5⟩ := hr
  obtain ⟨m, xs, Lr, k1, k2, k3, k4, k5, k6⟩ := hv
  by_cases hN0 : N = 0
  · subst hN0
    refine wpList_app0 hA hgd s x ho 0 v m xs hs k1 ad 0 hx (h v w (Below.refl _ _) ?_ (.inl rfl))
    exact ⟨m, xs, Lr, k1, k2.mono fun b _ hb => .inl hb, k3, k4, fun g hg => .inl (k5 g hg), by omega⟩
  · obtain ⟨g, rfl, hb, hg, hj⟩ : ∃ g, ad = some ⟨g, 0, none⟩ ∧ Blk w g 54 cs.toArray ∧ lo ≤ g ∧ J' g := by
      rcases h5 with h5 | h5
      · exact absurd h5 hN0
      · exact h5
    have hv : v = .slice none 0 0 := by
      rcases hN with hN | hN
      · exact absurd hN hN0
      · exact hN
    subst hv
    have hcl : cs.length = N * 57 := by rw [h4.1, h1]
    obtain ⟨r1, r2, -⟩ := hb.whole hcl
    have hc1 : cs.all cell1 = true := by
      rw [List.all_eq_true]
      intro u hu
      obtain ⟨i, hi, rfl⟩ := List.getElem_of_mem hu
      have hk : i / 57 < l.length := by rw [h1]; omega
      obtain ⟨r, hr⟩ : ∃ r, l[i / 57]? = some r := ⟨_, List.getElem?_eq_getElem hk⟩
      obtain ⟨tv, q1, q2⟩ := h4.2 _ r hr
      have hrok := (h2 r (List.mem_of_getElem? hr)).1
      have e := q1 (i % 57) (Nat.mod_lt _ (by omega))
      rw [show i / 57 * 57 + i % 57 = i from by omega, List.getElem?_eq_getElem hi] at e
      have hall := q2.1.cell1 hrok
      rw [List.all_eq_true] at hall
      exact hall _ (List.mem_of_getElem? e.symm)
    have hm0 : m = 0 ∧ xs = [] := by
      rcases k1.2 with ⟨-, h0⟩ | ⟨g', cap, cur, he, -⟩
      · subst h0
        have hx := k1.1
        simp at hx
        exact ⟨rfl, hx⟩
      · cases he
    obtain ⟨rfl, rfl⟩ := hm0
    have hLr : Lr = [] := List.eq_nil_of_length_eq_zero k4
    subst hLr
    have hN1 : 0 < N := Nat.pos_of_ne_zero hN0
    have hN9 : 0 + N ≤ 1000000000 := by omega
    refine wpList_lies hA hgd s x ho 0 _ 0 [] hs (World.ownsRow_nil _ _ _ _) _ N N cs hx hcl r1 r2 hc1 hN1 hN9 (Nat.zero_le _) ?_
    intro g' cap w' hown hgrow hlie
    have hbel : Below w.heap.size w w' := (Below.refl _ _).grown hgrow (Nat.le_refl _) fun q hq => by simp [Value.ownBlock] at hq
    refine h _ w' hbel ?_ (.inr trivial)
    have hg' : g' = w.heap.size := by
      rcases hlie with hl | hl
      · simp [Value.ownBlock] at hl
      · exact hl
    have hlt := own_lt hown rfl
    rw [Nat.zero_add, List.nil_append] at hown
    refine ⟨N, cs, l, by simpa using hown, (h4.keep hbel.size fun b _ hl => hbel.block b hl).mono fun b _ hb => .inr (.inl hb), fun r hr => (h2 r hr).1, h1, fun q hq => ?_, Nat.le_add_left N bd⟩
    have e : g' = q := by simpa [Value.ownBlock] using hq
    subst e
    exact .inr (.inr ⟨by omega, hlt⟩)
end Go.Proofs.Ytopakilglnpinaa
