/-
  The reference's lane of chapter 14: a new one; a row of it is set. (*tracks.Lane).Say.
-/
import Derived.Test.YtopakilglnpinaaGc33
import Derived.Test.YtopakilglnpinaaGc31
namespace Go.Proofs.Ytopakilglnpinaa
open Go.RowKit
set_option linter.unusedVariables false
set_option linter.unusedSimpArgs false

/-! ### New -/
def RNew (n me : Nat) (w : World) (e : Ending) (w' : World) : Prop :=
  ∃ lb, e = .returned (.tuple #[.pointer (some ⟨lb, 0, none⟩), .int .i64 0]) ∧ w.heap.size ≤ lb ∧ RfAt (fun _ => False) w' lb (RfM.new n me) (.slice none 0 0) (.slice none 0 0) ∧ Below w.heap.size w w'
set_option maxRecDepth 100000 in
set_option maxHeartbeats 1000000 in
theorem rnew_ok (n me : Nat) (h4 : 4 ≤ n) (h16 : n ≤ 16) (hm : me < n) (w : World) : Calls Try.prog 7 #[.int .i64 n, .int .i64 me] w (RNew n me w) := by
  have b1 : decide ((n : Int) < 4) = false := by simp; omega
  have b2 : decide (16 < (n : Int)) = false := by simp; omega
  have b3 : decide ((me : Int) < 0) = false := by simp
  have b4 : decide (n ≤ me) = false := by simp; omega
  go_enter Try.func7, Try.ntmps7
  go_wp2_with fail
  go_ret2
  refine ⟨w.heap.size, rfl, Nat.le_refl _, ⟨?_, ⟨[], rfl, World.ownsRow_nil _ _ _ _, by simp⟩, ⟨[], World.ownsRow_nil _ _ _ _, fun j k hj => absurd hj (by simp [RfM.new])⟩, fun b hb => hb.elim, ⟨by simp [RfM.new], h4, h16, hm⟩⟩, (Below.refl _ _).alloc (Nat.le_refl _) _⟩
  exact Blk.new _ _ _
theorem rnew_bad (n me : Int) (h : n < 4 ∨ 16 < n ∨ me < 0 ∨ n ≤ me) (w : World) : Calls Try.prog 7 #[.int .i64 n, .int .i64 me] w fun e w' => e = .returned (.tuple #[.pointer none, .int .i64 1]) ∧ w = w' := by
  have key : ∀ (c1 c2 c3 c4 : Bool), decide (n < 4) = c1 → decide (16 < n) = c2 → decide (me < 0) = c3 → decide (n ≤ me) = c4 → (c1 || c2 || c3 || c4) = true → Calls Try.prog 7 #[.int .i64 n, .int .i64 me] w fun e w' => e = .returned (.tuple #[.pointer none, .int .i64 1]) ∧ w = w' := by
    intro c1 c2 c3 c4 e1 e2 e3 e4 hc
    go_enter Try.func7, Try.ntmps7
    cases c1 <;> cases c2 <;> cases c3 <;> cases c4 <;> first | (exact absurd hc (by decide)) | (go_wp2; go_ret2; exact ⟨rfl, rfl⟩)
  exact key _ _ _ _ rfl rfl rfl rfl (by simp; omega)

/-! ### a row of what it said is set -/
theorem take_splice {l v : List Value} {K N : Nat} (h : K + v.length ≤ N) (hN : N ≤ l.length) : (l.take K ++ v ++ l.drop (K + v.length)).take N = (l.take N).take K ++ v ++ (l.take N).drop (K + v.length) := by
  have h1 : (l.take K ++ v).length = K + v.length := by simp; omega
  rw [List.take_append, h1, List.take_of_length_le (by omega), List.take_take, List.drop_take, Nat.min_eq_left (by omega)]
theorem own_put {w : World} {base g n cap : Nat} {e : TypeId} {ps : List (Rw × Value)} (h : w.ownsRow base e 57 (.slice (some ⟨g, 0, none⟩) n cap) n (flatP ps)) (hl : ps.length = n) (hok : ∀ p ∈ ps, p.1.ok) {k : Nat} (hk : k < n) {r : Rw} (hr : r.ok) (tv : Value) :
    canPut w ⟨g, k * 57, none⟩ 57 = true ∧ (putRow w ⟨g, k * 57, none⟩ (r.vals tv)).ownsRow base e 57 (.slice (some ⟨g, 0, none⟩) n cap) n (flatP (ps.set k (r, tv))) := by
  rcases h.2 with ⟨he, h0⟩ | ⟨g', cp, cur, he, hb, hg, h1, h2, h3, h4⟩
  · cases he
  · cases he
    have hin : k * 57 + 57 ≤ n * 57 := by
      have : (k + 1) * 57 ≤ n * 57 := Nat.mul_le_mul_right _ (by omega)
      omega
    have hcn : n * 57 ≤ cap * 57 := Nat.mul_le_mul_right _ h1
    have hB : Blk w g e cur.toList.toArray := by rw [Array.toArray_toList]; exact hg
    have hlen := Rw.len hr tv
    have hcl : cur.toList.length = cap * 57 := by simpa using h3
    have hp := hB.put (k * 57) (r.vals tv)
    rw [hlen] at hp
    refine ⟨by rw [hB.rules.2.2.2.2, hcl]; simp; omega, ?_⟩
    have hfl := len_flatP hok
    have hset := flatP_set hok (by omega : k < ps.length) (r, tv) hr
    have hfs : (flatP (ps.set k (r, tv))).length = n * 57 := by
      rw [len_flatP, List.length_set, hl]
      intro p hp'
      rcases List.mem_or_eq_of_mem_set hp' with hp' | rfl
      · exact hok p hp'
      · exact hr
    refine ⟨hfs, .inr ⟨g, cap, _, rfl, hb, hp, h1, h2, ?_, ?_⟩⟩
    · simp [hcl, hlen]; omega
    · rw [← hset]
      have e1 : flatP ps = cur.toList.take (n * 57) := h4.symm
      rw [e1]
      have := take_splice (l := cur.toList) (v := r.vals tv) (K := k * 57) (N := n * 57) (by rw [hlen]; exact hin) (by rw [hcl]; exact hcn)
      rw [hlen] at this
      exact this
theorem RfAt.saidStep {D : Nat → Prop} {w w3 : World} {lb : Nat} {M : RfM} {vc : Value} {go co lo : Nat} {own : Rw} (hlo : w.heap.size ≤ lo) (h : RfAt D w lb M (.slice (some ⟨go, 0, none⟩) M.T co) vc) (hb : M.b = true) (hT : 0 < M.T) (ho : own.ok)
    (hc : Chg (· = lb) w w3) (hbl : Blk w3 lb 88 (rlV (M.said own) (.slice (some ⟨go, 0, none⟩) M.T co) vc).toArray) {tv : Value} (ht : RowR (lo ≤ ·) w3 (own.plain M.n) tv) :
    canPut w3 ⟨go, (M.T - 1) * 57, none⟩ 57 = true ∧ RfAt (fun b => D b ∨ (lo ≤ b ∧ b < w3.heap.size)) (putRow w3 ⟨go, (M.T - 1) * 57, none⟩ ((own.plain M.n).vals tv)) lb (M.said own) (.slice (some ⟨go, 0, none⟩) M.T co) vc := by
  obtain ⟨ps, p1, p2, p3⟩ := h.own
  obtain ⟨us, u1, u2⟩ := h.come
  have hs := hc.size
  have hgo : (Value.slice (some ⟨go, 0, none⟩) M.T co).ownBlock = some go := rfl
  have hnl : go ≠ lb := fun e => own_not p2 h.b (by decide) (by rw [hgo, e])
  have hgl := own_lt p2 hgo
  have hvc : ∀ q, vc.ownBlock = some q → q ≠ go ∧ q ≠ lb ∧ q < w.heap.size := fun q hq => by
    refine ⟨?_, ?_, own_lt u1 hq⟩
    · rintro rfl
      rcases p2.2 with ⟨he, -⟩ | ⟨g', cp, cur, he, -, hg, -⟩
      · cases he
      · cases he
        exact own_not u1 (g := q) (t := 74) (cs := cur) hg (by decide) hq
    · rintro rfl
      exact own_not u1 h.b (by decide) hq
  have hpsok : ∀ p ∈ ps, p.1.ok := fun p hp => by
    obtain ⟨j, hj, he⟩ := List.getElem_of_mem hp
    exact (p3 j p (by rw [List.getElem?_eq_getElem hj, he])).2.1
  have hpo := Rw.plain_ok (n := (M.n : Int)) ho
  have p2' : w3.ownsRow 0 74 57 (.slice (some ⟨go, 0, none⟩) M.T co) M.T (flatP ps) := own_block p2 fun q hq => by
    rw [hgo] at hq
    cases hq
    exact hc.block go hgl hnl
  obtain ⟨hcp, hown⟩ := own_put p2' p1 hpsok (show M.T - 1 < M.T from by omega) hpo tv
  have hkeep : ∀ b, b < w.heap.size → b ≠ lb → b ≠ go → (putRow w3 ⟨go, (M.T - 1) * 57, none⟩ ((own.plain M.n).vals tv)).heap[b]? = w.heap[b]? := fun b hb1 hb2 hb3 =>
    (putRow_other _ _ _ _ hb3).trans (hc.block b hb1 hb2)
  have hD : ∀ b, D b → b < w.heap.size ∧ b ≠ lb ∧ b ≠ go := fun b hb => by
    obtain ⟨d0, d1, d2, d3⟩ := h.dn b hb
    exact ⟨d0, d1, fun e => d2 (by rw [hgo, e])⟩
  have eT : (M.said own).T = M.T := by unfold RfM.said; rw [if_pos hb]
  have en : (M.said own).n = M.n := by unfold RfM.said; rw [if_pos hb]
  have eo : (M.said own).own = fun j => if j = M.T - 1 then own.plain M.n else M.own j := by unfold RfM.said; rw [if_pos hb]
  have ei : (M.said own).ins = M.ins := by unfold RfM.said; rw [if_pos hb]
  have em : (M.said own).me = M.me := by unfold RfM.said; rw [if_pos hb]
  refine ⟨hcp, ⟨?_, ⟨ps.set (M.T - 1) (own.plain M.n, tv), ?_, ?_, fun j p hp => ?_⟩, ⟨us, ?_, fun j k hj hk => ?_⟩, fun b hb => ?_, ?_⟩⟩
  · exact (putRow_other _ _ _ _ (Ne.symm hnl)).trans hbl
  · rw [List.length_set, p1, eT]
  · rw [eT]; exact hown
  · rw [eo]
    rw [List.getElem?_set] at hp
    by_cases hj : M.T - 1 = j
    · rw [if_pos hj] at hp
      have hjl : M.T - 1 < ps.length := by omega
      rw [if_pos hjl] at hp
      cases hp
      refine ⟨by simp [hj.symm], hpo, ?_⟩
      refine ((ht.mono (S' := fun b => lo ≤ b ∧ b < w3.heap.size) fun b hb1 hb2 => ⟨hb2, hb1⟩).keep (by simp) fun b hb1 hb2 => putRow_other _ _ _ _ ?_).mono fun b _ hb => .inr hb
      rintro rfl
      have := hb1.1
      omega
    · rw [if_neg hj] at hp
      obtain ⟨y1, y2, y3⟩ := p3 j p hp
      refine ⟨by simp only [if_neg (Ne.symm hj)]; exact y1, y2, ?_⟩
      refine (y3.keep (by simp; omega) fun b hb1 hb2 => ?_).mono fun b _ hb => .inl hb
      obtain ⟨d0, d1, d2⟩ := hD b hb1
      exact hkeep b d0 d1 d2
  · rw [eT]
    refine own_block u1 fun q hq => ?_
    obtain ⟨q1, q2, q3⟩ := hvc q hq
    exact hkeep q q3 q2 q1
  · rw [eT] at hj
    rw [en, ei]
    obtain ⟨a, c, e1, e2, e3⟩ := u2 j k hj hk
    refine ⟨a, c, e1, (e2.keep (by simp; omega) fun b hb1 hb2 => ?_).mono fun b _ hb => .inl hb, e3⟩
    obtain ⟨d0, d1, d2⟩ := hD b hb1
    exact hkeep b d0 d1 d2
  · rcases hb with hb | hb
    · obtain ⟨d0, d1, d2, d3⟩ := h.dn b hb
      exact ⟨by simp; omega, d1, d2, d3⟩
    · refine ⟨by simp; omega, by have := h.b.lt; omega, fun e => ?_, fun e => ?_⟩
      · rw [hgo] at e
        have e : go = b := by simpa using e
        omega
      · have := (hvc b e).2.2
        omega
  · rw [eT, en, em]
    exact h.le
end Go.Proofs.Ytopakilglnpinaa
namespace Go.Proofs.Ytopakilglnpinaa
open Go.RowKit
set_option linter.unusedVariables false
set_option linter.unusedSimpArgs false

theorem ret_row2 {P : Program} {fn : Func} {p q : Tmp} {ty ty' : TypeId} {n n' : Nat} (h : fn.results = #[.cell p ty, .cell q ty']) (hT : aggOf P ty n = true) (hT' : aggOf P ty' n' = true) (tmps : Array Value) (w : World) (a b : Addr)
    (hp : tmps.getD p undef = .pointer (some a)) (hq : tmps.getD q undef = .pointer (some b)) (hr : hasRow w a n = true) (hr' : hasRow w b n' = true) : (results fn tmps).run P w = .ok (.tuple #[.agg (rowOf w a n).toArray, .agg (rowOf w b n').toArray]) w := by
  have hp' : tmps[p]?.getD undef = .pointer (some a) := by simpa using hp
  have hq' : tmps[q]?.getD undef = .pointer (some b) := by simpa using hq
  simp [results, h, hp', hq', asAddr, run_load_row hT hr, run_load_row hT' hr']

/-- a tick has ended for the ways below k -/
def LaneM.saidK (L : LaneM) (own : Rw) (k : Nat) : LaneM :=
  { L with b := false, past := fun j q s => if j = (L.T - 1) % (L.n + 1) ∧ q % 2 = 0 ∧ q / 2 < k ∧ s = L.me then own.plain L.n else L.past j q s }
theorem LaneM.said_of {L : LaneM} (own : Rw) (hb : L.b = true) (h4 : ∀ j q s, 4 ≤ q → L.past j q s = L.past j q s) (j q s : Nat) (hq : q < 4) : (L.said own).past j q s = (L.saidK own 2).past j q s := by
  unfold LaneM.said LaneM.saidK
  rw [if_pos hb]
  simp only
  have : q / 2 < 2 := by omega
  simp [this]
theorem LaneM.saidK_ok {L : LaneM} (h : L.okP) {own : Rw} (ho : own.ok) (k : Nat) : (L.saidK own k).okP := fun j q s => by
  unfold LaneM.saidK
  simp only
  split
  · exact Rw.plain_ok ho
  · exact h j q s
theorem LaneM.saidK_okT {L : LaneM} (h : L.okT) (own : Rw) (k : Nat) : (L.saidK own k).okT := fun j q s => by
  unfold LaneM.saidK
  simp only
  split
  · exact plain_tlen
  · exact h j q s
theorem TabS.mono {S S' : Nat → Prop} {p gp : Nat} {G : Nat → Nat} {n T : Nat} (hs : ∀ b, S b → S' b) {b : Nat} (h : TabS S p gp G n T b) : TabS S' p gp G n T b := ⟨hs b h.1, h.2⟩
theorem LaneAt.mono {S S' : Nat → Prop} {w : World} {p gp : Nat} {G : Nat → Nat} {L : LaneM} (h : LaneAt S w p gp G L) (hs : ∀ b, S b → S' b) (hl : ∀ b, S' b → b < w.heap.size) : LaneAt S' w p gp G L :=
  ⟨h.b, h.g, fun k hk => (h.r k hk).mono fun b _ hb => hb.mono hs, hs _ h.sp, hs _ h.sg, fun k hk => hs _ (h.sr k hk), h.inj, hl, h.bd, h.ok, h.okt⟩
/-- the same lane in other words -/
theorem LaneAt.congr {S : Nat → Prop} {w : World} {p gp : Nat} {G : Nat → Nat} {L L' : LaneM} (h : LaneAt S w p gp G L) (hn : L'.n = L.n) (hme : L'.me = L.me) (hT : L'.T = L.T) (hb : L'.b = L.b) (hp : ∀ j q s, q < 4 → L'.past j q s = L.past j q s) (ho : L'.okP) (hot : L'.okT) : LaneAt S w p gp G L' := by
  have e : laneV L' gp = laneV L gp := by unfold laneV; rw [hn, hme, hT, hb]
  refine ⟨by rw [e]; exact h.b, by rw [hn, hT]; exact h.g, fun k hk => ?_, h.sp, h.sg, fun k hk => h.sr k (by rw [← hn, ← hT]; exact hk), fun k k' hk hk' => h.inj k k' (by rw [← hn, ← hT]; exact hk) (by rw [← hn, ← hT]; exact hk'), h.lt, by rw [hn, hme]; exact h.bd, ho, hot⟩
  have := h.r k (by rw [← hn, ← hT]; exact hk)
  rw [hn, hT, show L'.past (k / 4) (k % 4) = L.past (k / 4) (k % 4) from funext fun s => hp _ _ _ (by omega)]
  exact this
/-- it has ended: no way has what it says yet -/
theorem LaneAt.ended {S : Nat → Prop} {w w' : World} {p gp : Nat} {G : Nat → Nat} {L : LaneM} (h : LaneAt S w p gp G L) {own : Rw} (ho : own.ok) (hs : w.heap.size ≤ w'.heap.size) (hb : Blk w' p 85 (laneV (L.saidK own 0) gp).toArray) (hk : ∀ b, S b → b ≠ p → w'.heap[b]? = w.heap[b]?) : LaneAt S w' p gp G (L.saidK own 0) := by
  obtain ⟨hpg, hG⟩ := h.ne
  refine ⟨hb, (hk gp h.sg (Ne.symm hpg)).trans h.g, fun k hm => ?_, h.sp, h.sg, h.sr, h.inj, fun b hb => Nat.lt_of_lt_of_le (h.lt b hb) hs, h.bd, LaneM.saidK_ok h.ok ho 0, LaneM.saidK_okT h.okt own 0⟩
  have := (h.r k hm).keep hs fun b hb hl => by
    rcases hb with rfl | hb
    · exact hk _ (h.sr k hm) (hG k hm).1
    · exact hk b hb.1 hb.2.1
  have e : (L.saidK own 0).past (k / 4) (k % 4) = L.past (k / 4) (k % 4) := by
    funext s; unfold LaneM.saidK; simp
  rw [e]; exact this
/-- one way more -/
theorem LaneAt.saidStep {S : Nat → Prop} {wr w' : World} {p gp lo : Nat} {G : Nat → Nat} {L : LaneM} {own : Rw} {k : Nat} (h : LaneAt (GrowS S lo wr.heap.size) wr p gp G (L.saidK own k)) (hk : k < 2) (hT : 0 < L.T) (hb : Below wr.heap.size wr w') (ho : own.ok) {tv : Value}
    (hlo : lo ≤ wr.heap.size) (ht : RowX (wr.heap.size ≤ ·) w' (own.plain L.n) tv) :
    LaneAt (GrowS S lo w'.heap.size) (putRow w' ⟨G (4 * ((L.T - 1) % (L.n + 1)) + 2 * k), L.me * 57, none⟩ ((own.plain L.n).vals tv)) p gp G (L.saidK own (k + 1)) := by
  obtain ⟨j, hj⟩ : ∃ j, j = (L.T - 1) % (L.n + 1) := ⟨_, rfl⟩
  rw [← hj]
  have hjn : j < L.n + 1 := by rw [hj]; exact Nat.mod_lt _ (by omega)
  have hjT : j < L.T := by
    have : (L.T - 1) % (L.n + 1) ≤ L.T - 1 := Nat.mod_le _ _
    omega
  have hz := hb.size
  obtain ⟨hpg, hG⟩ := h.ne
  have hbl := h.below hb
  have hm0 : Made L.n L.T (4 * j + 2 * k) := ⟨by omega, by omega⟩
  have hm1 : Made (L.saidK own k).n (L.saidK own k).T (4 * j + 2 * k) := hm0
  have hglt := h.lt _ (h.sr _ hm1)
  have hc := (Chg.refl (· = G (4 * j + 2 * k)) w').put (p := ⟨G (4 * j + 2 * k), L.me * 57, none⟩) (.inl rfl) ((own.plain L.n).vals tv)
  have hgr : ∀ b, GrowS S lo wr.heap.size b → GrowS S lo w'.heap.size b := fun b hb => by
    rcases hb with hb | hb
    · exact .inl hb
    · exact .inr ⟨hb.1, by omega⟩
  have hnewT : ∀ b, b < w'.heap.size → wr.heap.size ≤ b → TabS (GrowS S lo w'.heap.size) p gp G L.n L.T b := fun b hl hb => by
    refine ⟨.inr ⟨by omega, hl⟩, by have := h.b.lt; omega, by have := h.g.lt; omega, fun k' hk' => ?_⟩
    have := h.lt _ (h.sr k' hk')
    omega
  have hme := h.bd.2.2
  have hme' : L.me < L.n := hme
  refine ⟨hbl.b.chg hc (Ne.symm (hG _ hm1).1), hbl.g.chg hc (Ne.symm (hG _ hm1).2), fun k' hk' => ?_, hgr _ h.sp, hgr _ h.sg, fun k' hk' => hgr _ (h.sr k' hk'), h.inj, fun b hb => ?_, h.bd, ?_, ?_⟩
  · have hold := (hbl.r k' hk').mono (S' := TabS (GrowS S lo w'.heap.size) p gp G L.n L.T) fun b _ hb => hb.mono hgr
    by_cases he : k' = 4 * j + 2 * k
    · subst he
      have h1 := hold.set (fun b hb => hb.2.2.2 _ hm0) (k := L.me) (by rw [tab_len]; exact hme') (Rw.plain_ok ho) (ht.mono (S' := TabS (GrowS S lo w'.heap.size) p gp G L.n L.T) (fun b hl hb => hnewT b hl hb))
      rw [show (4 * j + 2 * k) / 4 = j from by omega, show (4 * j + 2 * k) % 4 = 2 * k from by omega] at h1 ⊢
      have e : (tab L.n ((L.saidK own k).past j (2 * k))).set L.me (own.plain L.n) = tab L.n ((L.saidK own (k + 1)).past j (2 * k)) := by
        refine tab_put hme' ?_ fun s _ hne => ?_
        · show (if j = (L.T - 1) % (L.n + 1) ∧ 2 * k % 2 = 0 ∧ 2 * k / 2 < k + 1 ∧ L.me = L.me then own.plain L.n else L.past j (2 * k) L.me) = _
          rw [if_pos ⟨hj, by omega, by omega, rfl⟩]
        · show (if j = (L.T - 1) % (L.n + 1) ∧ 2 * k % 2 = 0 ∧ 2 * k / 2 < k + 1 ∧ s = L.me then own.plain L.n else L.past j (2 * k) s) = (if j = (L.T - 1) % (L.n + 1) ∧ 2 * k % 2 = 0 ∧ 2 * k / 2 < k ∧ s = L.me then own.plain L.n else L.past j (2 * k) s)
          rw [if_neg (fun h => hne h.2.2.2), if_neg (fun h => hne h.2.2.2)]
      show RowsB _ _ _ _ (tab L.n ((L.saidK own (k + 1)).past j (2 * k)))
      rw [← e]
      exact h1
    · have hne : G k' ≠ G (4 * j + 2 * k) := fun e => he (h.inj _ _ hk' hm1 e)
      have h1 := hold.chg hc hne (fun b _ hb e => hb.2.2.2 _ hm0 e)
      have e : (L.saidK own (k + 1)).past (k' / 4) (k' % 4) = (L.saidK own k).past (k' / 4) (k' % 4) := by
        funext s
        show (if k' / 4 = (L.T - 1) % (L.n + 1) ∧ k' % 4 % 2 = 0 ∧ k' % 4 / 2 < k + 1 ∧ s = L.me then _ else _) = (if k' / 4 = (L.T - 1) % (L.n + 1) ∧ k' % 4 % 2 = 0 ∧ k' % 4 / 2 < k ∧ s = L.me then _ else _)
        by_cases hc : k' / 4 = (L.T - 1) % (L.n + 1) ∧ k' % 4 % 2 = 0 ∧ k' % 4 / 2 < k + 1 ∧ s = L.me
        · rw [if_pos hc, if_pos ⟨hc.1, hc.2.1, by omega, hc.2.2.2⟩]
        · rw [if_neg hc, if_neg (fun h => hc ⟨h.1, h.2.1, by omega, h.2.2.2⟩)]
      rw [e]; exact h1
  · have hs : (putRow w' ⟨G (4 * j + 2 * k), L.me * 57, none⟩ ((own.plain L.n).vals tv)).heap.size = w'.heap.size := by simp
    rw [hs]
    rcases hb with hb | hb
    · have := h.lt b (.inl hb); omega
    · exact hb.2
  · exact fun j q s => by
      have := h.ok
      unfold LaneM.saidK at this ⊢
      have h0 := this j q s
      simp only at h0 ⊢
      split
      · exact Rw.plain_ok ho
      · rename_i hn
        rw [if_neg (fun h => hn ⟨h.1, h.2.1, by omega, h.2.2.2⟩)] at h0
        exact h0
  · exact fun j q s => by
      have := h.okt
      unfold LaneM.saidK at this ⊢
      have h0 := this j q s
      simp only at h0 ⊢
      split
      · exact plain_tlen
      · rename_i hn
        rw [if_neg (fun h => hn ⟨h.1, h.2.1, by omega, h.2.2.2⟩)] at h0
        exact h0
end Go.Proofs.Ytopakilglnpinaa
