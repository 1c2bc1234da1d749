/-
  (*sennitlaw14.Ring).Hear, walked.
-/
import Derived.Test.YtbdklfcgcmdgaaaGb29
namespace Go.Proofs.Ytbdklfcgcmdgaaa
open Go.RowKit
set_option linter.unusedVariables false
set_option linter.unusedSimpArgs false

theorem app_lists : AppOk Try.prog 78 32 1 := appOk_of Try.underlying78 (by kernel_rfl)
theorem InsR.ok {S : Nat → Prop} {w : World} {a : Nat → Option Addr} {ln cp : Nat → Nat} {R : RingM} {i : Nat} (h : InsR S w a ln cp (R.insM i)) : ∀ q, ∀ r ∈ R.insM i q, r.ok := fun q => by
  by_cases hq : q < 4
  · exact (h.rd q hq).2.1
  · have : R.insM i q = R.insM i 3 := by unfold RingM.insM; rw [if_neg (by omega), if_neg (by omega), if_neg (by omega)]; rfl
    rw [this]
    exact (h.rd 3 (by omega)).2.1
def RingHeard (tag0 : Nat → Nat) (rg : Nat) (av : Value) (R : RingM) (on : Nat → Bool) (w : World) (e : Ending) (w' : World) : Prop :=
  ∃ tag P v, e = .returned v ∧ RingAt tag w' rg av (R.hear on) P ∧ (∀ b, b < w.heap.size → tag b = tag0 b) ∧ HeldAt (fun b => w.heap.size ≤ b ∧ tag b = 98) w' v R.N (R.hear on).held ∧ Chg (Rgs tag0 R.N) w w'
def ReadyRel (tag0 : Nat → Nat) (w : World) (rg : Nat) (av : Value) (R : RingM) (on : Nat → Bool) (k : Nat) (v : Value) (xs : List Value) (wx : World) : Prop :=
  ∃ tag P, RingAt tag wx rg av (R.readyK on k) P ∧ HearB 32 tag0 w R.N k (R.hear on).held tag v xs wx
theorem hearK_end (R : RingM) (on : Nat → Bool) {tag : Nat → Nat} {w : World} {rg : Nat} {av : Value} {P : RgP} (h : RingAt tag w rg av (R.hearK on R.N) P) : RingAt tag w rg av (R.hear on) P :=
  h.congr rfl rfl (fun i hi => by have : i < R.N := hi; simp [RingM.hearK, this]) (fun i hi => by have : i < R.N := hi; simp [RingM.hearK, this, RingM.hear]) rfl
theorem ready_on {R : RingM} {on : Nat → Bool} {k : Nat} {tag : Nat → Nat} {w : World} {rg : Nat} {av : Value} {P : RgP} (h : RingAt tag w rg av (R.hearK on k) P) (h1 : on k = true) (h2 : R.on k = true) : RingAt tag w rg av (R.readyK on k) P :=
  h.congr rfl rfl (fun i hi => by
    by_cases hik : i = k
    · subst hik; simp [RingM.readyK, RingM.hearK, h2]
    · simp [RingM.readyK, hik]) (fun i hi => by
    by_cases hik : i = k
    · subst hik; simp [RingM.readyK, RingM.hearK, h1, h2]
    · by_cases hi2 : i < k
      · simp [RingM.readyK, RingM.hearK, hi2, show i < k + 1 from by omega]
      · simp [RingM.readyK, RingM.hearK, hi2, show ¬ i < k + 1 from by omega]) rfl
/-- what a lane's Hear leaves, at a ring's node -/
def HearN (tag : Nat → Nat) (R : RingM) (on : Nat → Bool) (k p gp : Nat) (w6 : World) (e : Ending) (w7 : World) : Prop :=
  ∃ (m : Nat) (G' : Nat → Nat) (g : Nat), e = .returned (.slice (some ⟨g, 0, none⟩) R.N R.N) ∧ w6.heap.size ≤ m ∧ LaneAt (GrowS (fun b => tag b = k + 1) w6.heap.size m) w7 p gp G' (((R.readyK on k).lane k).put (R.insM k)) ∧ m ≤ g ∧
    RowsB (fun b => m ≤ b ∧ b ≠ g) w7 g 54 (tab R.N (((R.readyK on k).lane k).put (R.insM k)).held) ∧ Chg (fun b => b = p ∨ b = gp) w6 w7
theorem held_ready {R : RingM} {on : Nat → Bool} {k : Nat} (h : on k = true) : (R.hear on).held k = tab R.N (((R.readyK on k).lane k).put (R.insM k)).held := by
  unfold RingM.held
  rw [if_pos (by exact h)]
  show tab R.N ((R.hear on).lane k).held = _
  unfold RingM.hear RingM.readyK
  simp only [h, if_true]
theorem hear_node {tag : Nat → Nat} {wc : World} {rg : Nat} {av : Value} {R : RingM} {on : Nat → Bool} {k : Nat} {P : RgP} (hr : RingAt tag wc rg av (R.readyK on k) P) (hk : k < R.N) (hT : ((R.readyK on k).lane k).T ≤ 100000000) {w6 : World} (hb : Below wc.heap.size wc w6)
    {a : Nat → Option Addr} {ln cp : Nat → Nat} (hI : InsR (Sn tag wc) w6 a ln cp (R.insM k)) :
    Calls Try.prog 18 #[.pointer (some ⟨P.p k, 0, none⟩), .agg #[insV a ln cp 0, insV a ln cp 1, insV a ln cp 2, insV a ln cp 3]] w6 (HearN tag R on k (P.p k) (P.gp k) w6) := by
  obtain ⟨h1, h2, h3⟩ := hr.la k hk
  have hne : ∀ b, Sn tag wc b → b ≠ P.p k ∧ b ≠ P.gp k := fun b hb => ⟨by rintro rfl; have := h1.sp; rw [hb.1] at this; omega, by rintro rfl; have := h1.sg; rw [hb.1] at this; omega⟩
  refine (hear_any (fun b => tag b = k + 1) (Sn tag wc) (P.p k) (P.gp k) (P.G k) ((R.readyK on k).lane k) a ln cp (R.insM k) w6 (h1.below hb) hI hne hT hI.ok).mono ?_
  rintro e w7 ⟨m, G', g, q1, q2, rfl, q4, q5, q6⟩
  have e2 : ((R.readyK on k).lane k).n = R.N := h2
  rw [e2] at q5 ⊢
  exact ⟨m, G', g, rfl, q1, q2, q4, q5, q6⟩
theorem hear_round {tag0 tag : Nat → Nat} {w wc : World} {rg : Nat} {av : Value} {R : RingM} {on : Nat → Bool} {k : Nat} {P : RgP} {v : Value} {xs : List Value} (hr : RingAt tag wc rg av (R.readyK on k) P) (hh : HearB 32 tag0 w R.N k (R.hear on).held tag v xs wc) (hk : k < R.N) (hon : on k = true)
    {w6 w7 : World} (hb : Below wc.heap.size wc w6) {m : Nat} {G' : Nat → Nat} {g : Nat} (hm : w6.heap.size ≤ m) (hL : LaneAt (GrowS (fun b => tag b = k + 1) w6.heap.size m) w7 (P.p k) (P.gp k) G' (((R.readyK on k).lane k).put (R.insM k))) (hmg : m ≤ g)
    (hrows : RowsB (fun b => m ≤ b ∧ b ≠ g) w7 g 54 (tab R.N (((R.readyK on k).lane k).put (R.insM k)).held)) (hc : Chg (fun b => b = P.p k ∨ b = P.gp k) w6 w7) :
    ∃ tag' P', RingAt tag' w7 rg av (R.hearK on (k + 1)) P' ∧ HearB 32 tag0 w R.N k (R.hear on).held tag' v xs w7 ∧ WdAt (fun b => w.heap.size ≤ b ∧ tag' b = 98 ∧ some b ≠ v.ownBlock) w7 (.slice (some ⟨g, 0, none⟩) R.N R.N) ((R.hear on).held k) := by
  have h16 : R.N ≤ 16 := hr.bd.2
  obtain ⟨l1, l2, l3⟩ := hr.la k hk
  have hg7 := hrows.lt
  have hs6 := hb.size
  have hw := hh.c.size
  have hr6 := hr.below hb
  have ht : ∀ b, b = P.p k ∨ b = P.gp k → tag b = k + 1 := fun b hb => by rcases hb with rfl | rfl; exact l1.sp; exact l1.sg
  have hc' : Chg (fun b => tag b = k + 1) w6 w7 := hc.mono fun b _ hb => ht b hb
  have hturn := hr6.turn (i := k) (m := m) hk hm (by omega) hc' hL l2 l3 rfl
  rw [readyK_put hon] at hturn
  refine ⟨_, _, hturn, (hh.move h16 (Chg.of_below hb _) (fun _ _ => rfl) hr6.tg).move h16 (hc'.mono fun b _ hb => ⟨by omega, by omega⟩) (fun b hb => tagR_lo hb) hturn.tg, ?_⟩
  have hok : ∀ r ∈ tab R.N (((R.readyK on k).lane k).put (R.insM k)).held, r.ok := fun r hr => by
    obtain ⟨i, -, rfl⟩ := tab_mem hr
    exact LaneM.held_ok hL.ok i
  have hrd := hrows.rd hok
  rw [tab_len] at hrd
  rw [held_ready hon]
  refine ⟨_, _, _, rfl, hrd.mono fun b hbl hb => ?_, Nat.le_refl _, by have : R.N ≤ 16 := h16; simp only [maxLen]; omega⟩
  have hmb : m ≤ b := by rcases hb with rfl | hb; exact hmg; exact hb.1
  refine ⟨by omega, by rw [tagR_hi hmb]; exact hr6.tg b (by omega), fun e => ?_⟩
  have := (hh.own.lt b e.symm).2
  omega
set_option maxRecDepth 100000 in
set_option maxHeartbeats 8000000 in
theorem ringHear_any (tag0 : Nat → Nat) (rg : Nat) (av : Value) (R : RingM) (P0 : RgP) (on : Nat → Bool) (ob oc : Nat) (w : World) (hR : RingAt tag0 w rg av R P0) (hon : ∀ i, i < R.N → w.cell? ⟨ob, i, none⟩ = some (.bool (on i))) (hob : ob < w.heap.size) (hobt : ¬ Rgs tag0 R.N ob)
    (hT : ∀ i, i < R.N → (R.lane i).T ≤ 1000000) (hlen : R.sent.length ≤ 1000000) :
    Calls Try.prog 32 #[.pointer (some ⟨rg, 0, none⟩), .slice (some ⟨ob, 0, none⟩) R.N oc] w (RingHeard tag0 rg av R on w) := by
  have HR0 := Lib.hid hR
  have HON := Lib.hid hon
  have HT := Lib.hid hT
  have HLEN := Lib.hid hlen
  have h4 := hR.bd.1
  have h16 := hR.bd.2
  obtain ⟨N, hNN⟩ : ∃ N, N = R.N := ⟨_, rfl⟩
  rw [← hNN] at h4 h16 ⊢
  have HN := Lib.hid hNN
  clear hR hon hT hNN
  go_enter Try.func32, Try.ntmps32
  go_wp2_with fail
  go_loopw [5, 6] (fun s5 s6 wr => ∃ (k : Nat) (tag : Nat → Nat) (P : RgP) (xs : List Value) (a : Option Addr) (cap : Nat), k ≤ N ∧ s5 = .slice a k cap ∧ s6 = .int .i64 k ∧ RingAt tag wr rg av (R.hearK on k) P ∧ HearB 32 tag0 w R.N k (R.hear on).held tag (.slice a k cap) xs wr) (fun _ i _ => N - (intOf i).toNat)
  case atStart => exact ⟨0, tag0, P0, [], none, 0, by omega, rfl, rfl, by rw [hearK_zero]; exact HR0.out, HearB.start HR0.out.tg⟩
  case round =>
    obtain ⟨k, tag, P, xs, a, cap, hk, rfl, rfl, hr, hh⟩ := hrel
    have d0 : wr.cell? ⟨rg, 0, none⟩ = some (.int .i64 N) := by rw [HN.out]; exact hr.cells.1
    by_cases hlt : k < N
    · have hlt1 : (k : Int) < N := by omega
      have hlt0 : (0 : Int) ≤ k := by omega
      have hkR : k < (R.hearK on k).N := by show k < R.N; rw [← HN.out]; exact hlt
      have hkR' : k < R.N := hkR
      have d6 : wr.cell? ⟨rg, 6, none⟩ = some (.slice (some ⟨P.og, 0, none⟩) N N) := by rw [HN.out]; exact hr.cells.2.2.2.2.2.2.1
      have dob : wr.cell? ⟨ob, k, none⟩ = some (.bool (on k)) := (hh.c.cell (p := ⟨ob, k, none⟩) hob hobt).trans (HON.out k hkR')
      have dog : wr.cell? ⟨P.og, k, none⟩ = some (.bool (R.on k)) := by
        have := hr.on_ hkR
        have e : (R.hearK on k).on k = R.on k := by simp [RingM.hearK]
        rwa [e] at this
      have zog := hr.o.frozen k
      have HRR := Lib.hid hr
      have HH := Lib.hid hh
      clear hr hh
      obtain ⟨onk, honk⟩ : ∃ onk, onk = on k := ⟨_, rfl⟩
      rw [← honk] at dob
      have HONK := Lib.hid honk
      clear honk
      cases onk with
      | false =>
        go_upto_region 7 with fail
        have HR1 : Hid (RingAt tag (wr.setCell ⟨P.og, k, none⟩ (.bool false)) rg av (R.hearK on (k + 1)) P) := Lib.hid (by
          have h1 := HRR.out.switch hkR false (on' := fun i => if i < k + 1 then on i else R.on i) (by simp; exact HONK.out.symm) (fun j hj hne => by
            by_cases hjk : j < k
            · simp [RingM.hearK, hjk, show j < k + 1 from by omega]
            · simp [RingM.hearK, hjk, show ¬ j < k + 1 from by omega])
          rwa [hearK_off HONK.out.symm] at h1)
        have HH1 : Hid (HearB 32 tag0 w R.N k (R.hear on).held tag (.slice a k cap) xs (wr.setCell ⟨P.og, k, none⟩ (.bool false))) := Lib.hid (HH.out.move (by rw [← HN.out]; exact h16) ((Chg.refl _ _).setCell (.inl (by show 1 ≤ tag P.og ∧ tag P.og ≤ R.N + 1; have := HRR.out.tog; have e : (R.hearK on k).N = R.N := rfl; rw [e] at this; omega)) _) (fun _ _ => rfl) (fun b hb => HRR.out.tg b (by simpa using hb)))
        have HNIL : Hid ((R.hear on).held k = []) := Lib.hid (by unfold RingM.held; rw [if_neg]; show ¬ on k = true; rw [← HONK.out]; simp)
        generalize (wr.setCell ⟨P.og, k, none⟩ (.bool false)) = w1 at HR1 HH1 ⊢
        clear d0 d6 dob dog zog
        have hws : w.heap.size ≤ w1.heap.size := HH1.out.c.size
        go_wp2_with (at_builtin; refine wpList_lies app_lists (by rfl) (.tmp 28) (.tmp 29) (by rfl) w.heap.size _ _ _ (by rfl) (HH1.out.own.alloc _) ⟨w1.heap.size, 0, none⟩ 1 1 [.slice none 0 0] (by rfl) (by simp) (hasRow_new w1 _ _ 0 1 (by simp)) (rowOf_new w1 _ _ 0 1 (by simp)) (by rfl) (by omega) (by omega) (by simp; omega) ?_; intro gg cp w3 hown1 hgrow hlie; have H8 := Lib.hid (And.intro (HR1.out.grow hgrow HH1.out.tv) (HH1.out.push (by rw [← HN.out]; exact h16) (u := .slice none 0 0) (by rw [HNIL.out]; exact wdAt_nil _ _) hgrow hown1 hlie)); clear hown1 hgrow hlie)
        exact ⟨⟨k + 1, tag, P, _, _, _, by omega, rfl, by go_num, H8.out.1, H8.out.2⟩, by simp [intOf]; omega⟩
      | true =>
        obtain ⟨ronk, hronk⟩ : ∃ ronk, ronk = R.on k := ⟨_, rfl⟩
        rw [← hronk] at dog
        have HRONK := Lib.hid hronk
        clear hronk
        go_upto_if 38 with fail
        go_cut [7] from 39 to 60 (fun s7 wx => ∃ wc : World, wc = wx ∧ ReadyRel tag0 w rg av R on k (.slice a k cap) xs wc)
        case first =>
          cases ronk with
          | true =>
            go_wp2_with fail
            go_meet
            exact ⟨_, rfl, tag, P, ready_on HRR.out HONK.out.symm HRONK.out.symm, HH.out⟩
          | false =>
            have HC := Lib.hid (new_ok N k h4 h16 hlt wr)
            go_wp2_with fail
            (with_reducible refine HC.out.mono ?_)
            rintro e w1 ⟨pk, gpk, rfl, hL, hb⟩
            have HL := Lib.hid hL
            have HB := Lib.hid hb
            clear hL hb HC d0 d6 dob dog zog
            have HA : Hid (RingAt (tagR tag wr.heap.size w1.heap.size (k + 1)) (w1.setCell ⟨P.gl, k, none⟩ (.pointer (some ⟨pk, 0, none⟩))) rg av { R.hearK on k with lane := fun j => if j = k then LaneM.new N k else (R.hearK on k).lane j } { P with p := fun j => if j = k then pk else P.p j, gp := fun j => if j = k then gpk else P.gp j, G := fun j => if j = k then (fun _ => 0) else P.G j }) := Lib.hid (HRR.out.anew hkR HB.out HL.out HN.out rfl)
            have d5 : w1.cell? ⟨rg, 5, none⟩ = some (.slice (some ⟨P.gl, 0, none⟩) N P.lc) := (HB.out.cell (p := ⟨rg, 5, none⟩) HRR.out.b.lt).trans (by rw [HN.out]; exact HRR.out.cells.2.2.2.2.2.1)
            have dgl : w1.cell? ⟨P.gl, k, none⟩ = some (.pointer (some ⟨P.p k, 0, none⟩)) := (HB.out.cell (p := ⟨P.gl, k, none⟩) (by obtain ⟨cur, h1, -⟩ := HRR.out.l; exact h1.lt)).trans (HRR.out.lane_ hkR)
            have zgl : w1.frozen? ⟨P.gl, k, none⟩ = false := by
              obtain ⟨cur, h1, -⟩ := HRR.out.l
              exact (h1.below HB.out h1.lt).frozen k
            go_upto_region 11 with fail
            have HHA : Hid (HearB 32 tag0 w R.N k (R.hear on).held (tagR tag wr.heap.size w1.heap.size (k + 1)) (.slice a k cap) xs (w1.setCell ⟨P.gl, k, none⟩ (.pointer (some ⟨pk, 0, none⟩)))) := Lib.hid (HH.out.move (by rw [← HN.out]; exact h16) ((Chg.of_below HB.out _).setCell (.inl (by show 1 ≤ tag P.gl ∧ tag P.gl ≤ R.N + 1; have := HRR.out.tl; have e : (R.hearK on k).N = R.N := rfl; rw [e] at this; omega)) _) (fun b hb => tagR_lo hb) HA.out.tg)
            generalize (w1.setCell ⟨P.gl, k, none⟩ (.pointer (some ⟨pk, 0, none⟩))) = w2 at HA HHA ⊢
            clear d5 dgl zgl
            have d6 : w2.cell? ⟨rg, 6, none⟩ = some (.slice (some ⟨P.og, 0, none⟩) N N) := by rw [HN.out]; exact HA.out.cells.2.2.2.2.2.2.1
            have dog : w2.cell? ⟨P.og, k, none⟩ = some (.bool false) := by
              have := HA.out.on_ hkR
              have e : (R.hearK on k).on k = false := by simp [RingM.hearK]; exact HRONK.out.symm
              exact this.trans (by show some (Value.bool ((R.hearK on k).on k)) = _; rw [e])
            have zog := HA.out.o.frozen k
            go_wp2_with fail
            go_meet
            refine ⟨_, rfl, tagR tag wr.heap.size w1.heap.size (k + 1), { P with p := fun j => if j = k then pk else P.p j, gp := fun j => if j = k then gpk else P.gp j, G := fun j => if j = k then (fun _ => 0) else P.G j }, ?_, ?_⟩
            · have h1 := HA.out.switch hkR true (on' := fun i => if i < k + 1 then on i else R.on i) (by simp; exact HONK.out.symm) (fun j hj hne => by
                by_cases hjk : j < k
                · simp [RingM.hearK, hjk, show j < k + 1 from by omega]
                · simp [RingM.hearK, hjk, show ¬ j < k + 1 from by omega])
              exact h1.congr rfl rfl (fun i hi => by
                by_cases hik : i = k
                · subst hik; simp only [RingM.readyK, if_true, ← HRONK.out, ← HN.out]; simp
                · simp [RingM.readyK, hik]) (fun i hi => rfl) rfl
            · exact HHA.out.move (by rw [← HN.out]; exact h16) ((Chg.refl _ _).setCell (.inl (by have := HA.out.tog; have e : (R.hearK on k).N = R.N := rfl; exact ⟨by rw [this]; omega, by rw [this]; exact Nat.le_refl _⟩)) _) (fun _ _ => rfl) (fun b hb => HA.out.tg b (by simpa using hb))
        case rest =>
          obtain ⟨wc, rfl, tag', P', hr, hh⟩ := hcut
          have HR2 := Lib.hid hr
          have HH2 := Lib.hid hh
          clear hr hh HRR HH d0 d6 dob dog zog
          have hT0 : Hid (((R.readyK on k).lane k).T ≤ 100000000) := Lib.hid (by
            show (if k = k then (if R.on k then R.lane k else LaneM.new R.N k) else (R.hearK on k).lane k).T ≤ _
            rw [if_pos rfl]
            split
            · have := HT.out k hkR'; omega
            · exact Nat.zero_le _)
          have F : Hid (∀ w' : World, Below wc.heap.size wc w' → w'.cell? ⟨rg, 5, none⟩ = some (.slice (some ⟨P'.gl, 0, none⟩) N P'.lc) ∧ w'.cell? ⟨P'.gl, k, none⟩ = some (.pointer (some ⟨P'.p k, 0, none⟩))) := Lib.hid fun w' hb => by
            have h2 := HR2.out.below hb
            exact ⟨by rw [HN.out]; exact h2.cells.2.2.2.2.2.1, h2.lane_ hkR'⟩
          have HCI : Hid (∀ w' : World, Below wc.heap.size wc w' → Calls Try.prog 61 #[.pointer (some ⟨rg, 0, none⟩), .int .i64 k] w' (InsPost (Sn tag' wc) (R.insM k) w')) := Lib.hid fun w' hb =>
            ins_any (Sn tag' wc) rg (R.readyK on k) P'.sv k w' (HR2.out.below hb).cells.1 (HR2.out.below hb).cells.2.2.2.2.2.2.2 (HR2.out.below hb).b.lt HR2.out.bd.1 HR2.out.bd.2 hkR' (HR2.out.s.below hb) HLEN.out (fun b hb' => Nat.lt_of_lt_of_le hb'.2 hb.size)
          obtain ⟨F1, F2⟩ := F.out wc (Below.refl _ _)
          have hwc := HH2.out.c.size
          have hkk : k ≤ 16 := by omega
          go_upto_region 12 with fail
          go_region_law (first
            | (go_simp; go_at_call 61; (with_reducible refine (HCI.out _ (Below.refl _ _).drew).mono ?_); rintro e w6 ⟨ia, iln, icp, rfl, hI, hb6⟩; have H6 := Lib.hid ((Below.refl wc.heap.size wc).drew.trans hb6); obtain ⟨f1, f2⟩ := F.out w6 H6.out; have HI := Lib.hid hI; clear hb6 hI)
            | (go_simp; go_at_call 18; (with_reducible refine (hear_node HR2.out hkR' hT0.out H6.out HI.out).mono ?_); rintro e w7 ⟨m, G', g, rfl, h71, h72, h73, h74, h75⟩; obtain ⟨tag7, P7, g71, g72, g73⟩ := hear_round HR2.out HH2.out hkR' HONK.out.symm H6.out h71 h72 h73 h74 h75; have H7 := Lib.hid (And.intro g71 (And.intro g72 g73)); have hws7 : w.heap.size ≤ w7.heap.size := g72.c.size; clear h71 h72 h73 h74 h75 g71 g72 g73)
            | (refine step_lies app_lists (by rfl) (.tmp 61) (.tmp 73) (by rfl) w.heap.size _ _ _ (by rfl) (H7.out.2.1.own.alloc _) ⟨w7.heap.size, 0, none⟩ 1 1 [.slice (some ⟨g, 0, none⟩) R.N R.N] (by rfl) (by simp) (hasRow_new w7 _ _ 0 1 (by simp)) (rowOf_new w7 _ _ 0 1 (by simp)) (by rfl) (by omega) (by omega) (by simp; omega) ?_; intro gg cp w9 hown1 hgrow hlie; have H9 := Lib.hid (And.intro (H7.out.1.grow hgrow H7.out.2.1.tv) (H7.out.2.1.push (by rw [← HN.out]; exact h16) H7.out.2.2 hgrow hown1 hlie)); clear hown1 hgrow hlie))
          all_goals go_wp2_with fail
          all_goals exact ⟨⟨k + 1, _, _, _, _, _, by omega, rfl, by go_num, H9.out.1, H9.out.2⟩, by simp [intOf]; omega⟩
    · have hlt1 : ¬ (k : Int) < N := by omega
      have hkN : k = N := by omega
      subst hkN
      have HE : Hid (RingHeard tag0 rg av R on w (.returned (.slice a k cap)) wr) := Lib.hid ⟨tag, P, _, rfl, hearK_end R on (by rw [← HN.out]; exact hr), hh.lo, (by have h' := hh; rw [← HN.out] at h' ⊢; exact h'.end_ (by omega)), hh.c⟩
      clear hr hh
      go_wp2_with fail
      go_ret
      exact HE.out
end Go.Proofs.Ytbdklfcgcmdgaaa
