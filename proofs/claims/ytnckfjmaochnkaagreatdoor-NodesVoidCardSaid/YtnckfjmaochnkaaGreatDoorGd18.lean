/-
  (*tracks.Lane).Say.
-/
import Derived.Test.YtnckfjmaochnkaaGreatDoorGd17
namespace Go.Proofs.YtnckfjmaochnkaaGreatDoor
open Go.RowKit
set_option linter.unusedVariables false
set_option linter.unusedSimpArgs false

theorem ret_row2 {P : Program} {fn : Func} {p q : Tmp} {ty ty' : TypeId} {n n' : Nat} (h : fn.results = #[.cell p ty, .cell q ty']) (hT : aggOf P ty n = true) (hT' : aggOf P ty' n' = true) (tmps : Array Value) (w : World) (a b : Addr)
    (hp : tmps.getD p undef = .pointer (some a)) (hq : tmps.getD q undef = .pointer (some b)) (hr : hasRow w a n = true) (hr' : hasRow w b n' = true) : (results fn tmps).run P w = .ok (.tuple #[.agg (rowOf w a n).toArray, .agg (rowOf w b n').toArray]) w := by
  have hp' : tmps[p]?.getD undef = .pointer (some a) := by simpa using hp
  have hq' : tmps[q]?.getD undef = .pointer (some b) := by simpa using hq
  simp [results, h, hp', hq', asAddr, run_load_row hT hr, run_load_row hT' hr']

/-- a tick has ended for the ways below k -/
def LaneM.saidK (L : LaneM) (own : Rw) (k : Nat) : LaneM :=
  { L with b := false, past := fun j q s => if j = (L.T - 1) % (L.n + 1) ∧ q % 2 = 0 ∧ q / 2 < k ∧ s = L.me then own.plain L.n else L.past j q s }
theorem LaneM.said_of {L : LaneM} (own : Rw) (hb : L.b = true) (h4 : ∀ j q s, 4 ≤ q → L.past j q s = L.past j q s) (j q s : Nat) (hq : q < 4) : (L.said own).past j q s = (L.saidK own 2).past j q s := by
  unfold LaneM.said LaneM.saidK
  rw [if_pos hb]
  simp only
  have : q / 2 < 2 := by omega
  simp [this]
theorem LaneM.saidK_ok {L : LaneM} (h : L.okP) {own : Rw} (ho : own.ok) (k : Nat) : (L.saidK own k).okP := fun j q s => by
  unfold LaneM.saidK
  simp only
  split
  · exact Rw.plain_ok ho
  · exact h j q s
theorem LaneM.saidK_okT {L : LaneM} (h : L.okT) (own : Rw) (k : Nat) : (L.saidK own k).okT := fun j q s => by
  unfold LaneM.saidK
  simp only
  split
  · exact plain_tlen
  · exact h j q s
theorem TabS.mono {S S' : Nat → Prop} {p gp : Nat} {G : Nat → Nat} {n T : Nat} (hs : ∀ b, S b → S' b) {b : Nat} (h : TabS S p gp G n T b) : TabS S' p gp G n T b := ⟨hs b h.1, h.2⟩
theorem LaneAt.mono {S S' : Nat → Prop} {w : World} {p gp : Nat} {G : Nat → Nat} {L : LaneM} (h : LaneAt S w p gp G L) (hs : ∀ b, S b → S' b) (hl : ∀ b, S' b → b < w.heap.size) : LaneAt S' w p gp G L :=
  ⟨h.b, h.g, fun k hk => (h.r k hk).mono fun b _ hb => hb.mono hs, hs _ h.sp, hs _ h.sg, fun k hk => hs _ (h.sr k hk), h.inj, hl, h.bd, h.ok, h.okt⟩
/-- the same lane in other words -/
theorem LaneAt.congr {S : Nat → Prop} {w : World} {p gp : Nat} {G : Nat → Nat} {L L' : LaneM} (h : LaneAt S w p gp G L) (hn : L'.n = L.n) (hme : L'.me = L.me) (hT : L'.T = L.T) (hb : L'.b = L.b) (hp : ∀ j q s, q < 4 → L'.past j q s = L.past j q s) (ho : L'.okP) (hot : L'.okT) : LaneAt S w p gp G L' := by
  have e : laneV L' gp = laneV L gp := by unfold laneV; rw [hn, hme, hT, hb]
  refine ⟨by rw [e]; exact h.b, by rw [hn, hT]; exact h.g, fun k hk => ?_, h.sp, h.sg, fun k hk => h.sr k (by rw [← hn, ← hT]; exact hk), fun k k' hk hk' => h.inj k k' (by rw [← hn, ← hT]; exact hk) (by rw [← hn, ← hT]; exact hk'), h.lt, by rw [hn, hme]; exact h.bd, ho, hot⟩
  have := h.r k (by rw [← hn, ← hT]; exact hk)
  rw [hn, hT, show L'.past (k / 4) (k % 4) = L.past (k / 4) (k % 4) from funext fun s => hp _ _ _ (by omega)]
  exact this
/-- it has ended: no way has what it says yet -/
theorem LaneAt.ended {S : Nat → Prop} {w w' : World} {p gp : Nat} {G : Nat → Nat} {L : LaneM} (h : LaneAt S w p gp G L) {own : Rw} (ho : own.ok) (hs : w.heap.size ≤ w'.heap.size) (hb : Blk w' p 142 (laneV (L.saidK own 0) gp).toArray) (hk : ∀ b, S b → b ≠ p → w'.heap[b]? = w.heap[b]?) : LaneAt S w' p gp G (L.saidK own 0) := by
  obtain ⟨hpg, hG⟩ := h.ne
  refine ⟨hb, (hk gp h.sg (Ne.symm hpg)).trans h.g, fun k hm => ?_, h.sp, h.sg, h.sr, h.inj, fun b hb => Nat.lt_of_lt_of_le (h.lt b hb) hs, h.bd, LaneM.saidK_ok h.ok ho 0, LaneM.saidK_okT h.okt own 0⟩
  have := (h.r k hm).keep hs fun b hb hl => by
    rcases hb with rfl | hb
    · exact hk _ (h.sr k hm) (hG k hm).1
    · exact hk b hb.1 hb.2.1
  have e : (L.saidK own 0).past (k / 4) (k % 4) = L.past (k / 4) (k % 4) := by
    funext s; unfold LaneM.saidK; simp
  rw [e]; exact this
/-- one way more -/
theorem LaneAt.saidStep {S : Nat → Prop} {wr w' : World} {p gp lo : Nat} {G : Nat → Nat} {L : LaneM} {own : Rw} {k : Nat} (h : LaneAt (GrowS S lo wr.heap.size) wr p gp G (L.saidK own k)) (hk : k < 2) (hT : 0 < L.T) (hb : Below wr.heap.size wr w') (ho : own.ok) {tv : Value}
    (hlo : lo ≤ wr.heap.size) (ht : RowX (wr.heap.size ≤ ·) w' (own.plain L.n) tv) :
    LaneAt (GrowS S lo w'.heap.size) (putRow w' ⟨G (4 * ((L.T - 1) % (L.n + 1)) + 2 * k), L.me * 57, none⟩ ((own.plain L.n).vals tv)) p gp G (L.saidK own (k + 1)) := by
  obtain ⟨j, hj⟩ : ∃ j, j = (L.T - 1) % (L.n + 1) := ⟨_, rfl⟩
  rw [← hj]
  have hjn : j < L.n + 1 := by rw [hj]; exact Nat.mod_lt _ (by omega)
  have hjT : j < L.T := by
    have : (L.T - 1) % (L.n + 1) ≤ L.T - 1 := Nat.mod_le _ _
    omega
  have hz := hb.size
  obtain ⟨hpg, hG⟩ := h.ne
  have hbl := h.below hb
  have hm0 : Made L.n L.T (4 * j + 2 * k) := ⟨by omega, by omega⟩
  have hm1 : Made (L.saidK own k).n (L.saidK own k).T (4 * j + 2 * k) := hm0
  have hglt := h.lt _ (h.sr _ hm1)
  have hc := (Chg.refl (· = G (4 * j + 2 * k)) w').put (p := ⟨G (4 * j + 2 * k), L.me * 57, none⟩) (.inl rfl) ((own.plain L.n).vals tv)
  have hgr : ∀ b, GrowS S lo wr.heap.size b → GrowS S lo w'.heap.size b := fun b hb => by
    rcases hb with hb | hb
    · exact .inl hb
    · exact .inr ⟨hb.1, by omega⟩
  have hnewT : ∀ b, b < w'.heap.size → wr.heap.size ≤ b → TabS (GrowS S lo w'.heap.size) p gp G L.n L.T b := fun b hl hb => by
    refine ⟨.inr ⟨by omega, hl⟩, by have := h.b.lt; omega, by have := h.g.lt; omega, fun k' hk' => ?_⟩
    have := h.lt _ (h.sr k' hk')
    omega
  have hme := h.bd.2.2
  have hme' : L.me < L.n := hme
  refine ⟨hbl.b.chg hc (Ne.symm (hG _ hm1).1), hbl.g.chg hc (Ne.symm (hG _ hm1).2), fun k' hk' => ?_, hgr _ h.sp, hgr _ h.sg, fun k' hk' => hgr _ (h.sr k' hk'), h.inj, fun b hb => ?_, h.bd, ?_, ?_⟩
  · have hold := (hbl.r k' hk').mono (S' := TabS (GrowS S lo w'.heap.size) p gp G L.n L.T) fun b _ hb => hb.mono hgr
    by_cases he : k' = 4 * j + 2 * k
    · subst he
      have h1 := hold.set (fun b hb => hb.2.2.2 _ hm0) (k := L.me) (by rw [tab_len]; exact hme') (Rw.plain_ok ho) (ht.mono (S' := TabS (GrowS S lo w'.heap.size) p gp G L.n L.T) (fun b hl hb => hnewT b hl hb))
      rw [show (4 * j + 2 * k) / 4 = j from by omega, show (4 * j + 2 * k) % 4 = 2 * k from by omega] at h1 ⊢
      have e : (tab L.n ((L.saidK own k).past j (2 * k))).set L.me (own.plain L.n) = tab L.n ((L.saidK own (k + 1)).past j (2 * k)) := by
        refine tab_put hme' ?_ fun s _ hne => ?_
        · show (if j = (L.T - 1) % (L.n + 1) ∧ 2 * k % 2 = 0 ∧ 2 * k / 2 < k + 1 ∧ L.me = L.me then own.plain L.n else L.past j (2 * k) L.me) = _
          rw [if_pos ⟨hj, by omega, by omega, rfl⟩]
        · show (if j = (L.T - 1) % (L.n + 1) ∧ 2 * k % 2 = 0 ∧ 2 * k / 2 < k + 1 ∧ s = L.me then own.plain L.n else L.past j (2 * k) s) = (if j = (L.T - 1) % (L.n + 1) ∧ 2 * k % 2 = 0 ∧ 2 * k / 2 < k ∧ s = L.me then own.plain L.n else L.past j (2 * k) s)
          rw [if_neg (fun h => hne h.2.2.2), if_neg (fun h => hne h.2.2.2)]
      show RowsB _ _ _ _ (tab L.n ((L.saidK own (k + 1)).past j (2 * k)))
      rw [← e]
      exact h1
    · have hne : G k' ≠ G (4 * j + 2 * k) := fun e => he (h.inj _ _ hk' hm1 e)
      have h1 := hold.chg hc hne (fun b _ hb e => hb.2.2.2 _ hm0 e)
      have e : (L.saidK own (k + 1)).past (k' / 4) (k' % 4) = (L.saidK own k).past (k' / 4) (k' % 4) := by
        funext s
        show (if k' / 4 = (L.T - 1) % (L.n + 1) ∧ k' % 4 % 2 = 0 ∧ k' % 4 / 2 < k + 1 ∧ s = L.me then _ else _) = (if k' / 4 = (L.T - 1) % (L.n + 1) ∧ k' % 4 % 2 = 0 ∧ k' % 4 / 2 < k ∧ s = L.me then _ else _)
        by_cases hc : k' / 4 = (L.T - 1) % (L.n + 1) ∧ k' % 4 % 2 = 0 ∧ k' % 4 / 2 < k + 1 ∧ s = L.me
        · rw [if_pos hc, if_pos ⟨hc.1, hc.2.1, by omega, hc.2.2.2⟩]
        · rw [if_neg hc, if_neg (fun h => hc ⟨h.1, h.2.1, by omega, h.2.2.2⟩)]
      rw [e]; exact h1
  · have hs : (putRow w' ⟨G (4 * j + 2 * k), L.me * 57, none⟩ ((own.plain L.n).vals tv)).heap.size = w'.heap.size := by simp
    rw [hs]
    rcases hb with hb | hb
    · have := h.lt b (.inl hb); omega
    · exact hb.2
  · exact fun j q s => by
      have := h.ok
      unfold LaneM.saidK at this ⊢
      have h0 := this j q s
      simp only at h0 ⊢
      split
      · exact Rw.plain_ok ho
      · rename_i hn
        rw [if_neg (fun h => hn ⟨h.1, h.2.1, by omega, h.2.2.2⟩)] at h0
        exact h0
  · exact fun j q s => by
      have := h.okt
      unfold LaneM.saidK at this ⊢
      have h0 := this j q s
      simp only at h0 ⊢
      split
      · exact plain_tlen
      · rename_i hn
        rw [if_neg (fun h => hn ⟨h.1, h.2.1, by omega, h.2.2.2⟩)] at h0
        exact h0
end Go.Proofs.YtnckfjmaochnkaaGreatDoor
