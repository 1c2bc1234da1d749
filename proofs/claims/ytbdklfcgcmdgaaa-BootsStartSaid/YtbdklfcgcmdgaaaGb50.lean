/-
  ages.Clock, walked. Whether a vector is even, walked. A clique, walked. The power of a node, walked. Nodes that start over a ring: what each does with what is agreed, tick by tick. No program in sight.
-/
import Derived.Test.YtbdklfcgcmdgaaaGb49
import Derived.Deep.CutBlock
import Derived.Deep.CutRange
import Derived.RegionTactic
import Derived.Test.YtbdklfcgcmdgaaaGb02
import Derived.WalkSpells
import Derived.WalkLawsBesides
import Derived.Outline
import Derived.Deep.QuietTactic
import Derived.BigQuiet
import Derived.Deep.Light
import Derived.Deep.RegionWith
import Derived.Test.YtbdklfcgcmdgaaaRows
import Derived.Test.YtbdklfcgcmdgaaaGb01
import Derived.WalkKit
namespace Go.Proofs.Ytbdklfcgcmdgaaa
open Go.RowKit
set_option linter.unusedVariables false
set_option linter.unusedSimpArgs false

theorem agown_any (c : Nat) (n : Nat) (v : Value) (common cold : Int) (w : World) (hb : Blk w c 198 #[.int .i64 n, v]) (hn : n ≤ 1000) (h0 : -9223372036854775808 ≤ common ∧ common ≤ 9223372036854775807) :
    Calls Try.prog 96 #[.pointer (some ⟨c, 0, none⟩), .int .i64 common, .int .i64 cold] w fun e w' => e = .returned (.int .i64 (ownF n common cold)) ∧ w = w' := by
  have hc0 : w.cell? ⟨c, 0, none⟩ = some (.int .i64 n) := hb.cell 0
  have HI := Lib.hid (fun (x : Int) (w' : World) => agis_any x w')
  obtain ⟨a, ha⟩ : ∃ a, a = if okI common then common + 2 * (n : Int) else cold := ⟨_, rfl⟩
  have hF : ownF n common cold = if okI a then a else -1 := by unfold ownF; rw [← ha]
  rw [hF]
  have HA := Lib.hid ha
  clear hF ha hb
  cases hcm : okI common with
  | true =>
    have hc1 : 0 ≤ common ∧ common ≤ 1099511627776 := by simpa [okI] using hcm
    have ha : common + 2 * (n : Int) = a := by rw [HA.out, hcm]; rfl
    obtain ⟨hc2, hc3⟩ := hc1
    cases hok : okI a with
    | true =>
      go_enter Try.func96, Try.ntmps96
      go_wp2_with (go_at_call 97; refine (HI.out _ _).mono ?_; rintro e w' ⟨rfl, rfl⟩)
      go_ret
      exact ⟨rfl, rfl⟩
    | false =>
      go_enter Try.func96, Try.ntmps96
      go_wp2_with (go_at_call 97; refine (HI.out _ _).mono ?_; rintro e w' ⟨rfl, rfl⟩)
      go_ret
      exact ⟨rfl, rfl⟩
  | false =>
    have ha : cold = a := by rw [HA.out, hcm]; rfl
    subst ha
    cases hok : okI cold with
    | true =>
      go_enter Try.func96, Try.ntmps96
      go_wp2_with (go_at_call 97; refine (HI.out _ _).mono ?_; rintro e w' ⟨rfl, rfl⟩)
      go_ret
      exact ⟨rfl, rfl⟩
    | false =>
      go_enter Try.func96, Try.ntmps96
      go_wp2_with (go_at_call 97; refine (HI.out _ _).mono ?_; rintro e w' ⟨rfl, rfl⟩)
      go_ret
      exact ⟨rfl, rfl⟩

/-- the last m of a list -/
def lastN (m : Nat) (l : List Int) : List Int := l.drop (l.length - m)
theorem lastN_all {m : Nat} {l : List Int} (h : l.length ≤ m) : lastN m l = l := by unfold lastN; rw [show l.length - m = 0 from by omega, List.drop_zero]
theorem lastN_one {m : Nat} {l : List Int} (h : l.length = m + 1) : lastN m l = l.drop 1 := by unfold lastN; rw [show l.length - m = 1 from by omega]
/-- a clock that holds a window -/
def CkR (B c n : Nat) (v : Value) (L : List Int) (w : World) : Prop := Blk w c 198 #[.int .i64 n, v] ∧ RmV B w 2 v (L.map (Value.int .i64))
/-- behind the window's cut -/
def CkMid (B c n : Nat) (v : Value) (Wn : List Int) (w wx : World) : Prop :=
  ∃ g off cap, CkR B c n (.slice (some ⟨g, off, none⟩) Wn.length cap) Wn wx ∧ Chg (fun b => b = c ∨ some b = v.ownBlock) w wx ∧ (some g = v.ownBlock ∨ w.heap.size ≤ g)
theorem CkMid.drew {B c n : Nat} {v : Value} {Wn : List Int} {w wx : World} (h : CkMid B c n v Wn w wx) : CkMid B c n v Wn w wx.drew := by
  obtain ⟨g, off, cap, h1, h2, h3⟩ := h
  exact ⟨g, off, cap, ⟨h1.1.drew, h1.2.block (fun _ _ => rfl)⟩, h2.drew, h3⟩
theorem CkMid.drewN {B c n : Nat} {v : Value} {Wn : List Int} {w wx : World} (h : CkMid B c n v Wn w wx) (k : Nat) : CkMid B c n v Wn w (wx.drewN k) := by
  obtain ⟨g, off, cap, h1, h2, h3⟩ := h
  exact ⟨g, off, cap, ⟨h1.1.drewN _, h1.2.block (fun _ _ => rfl)⟩, h2.drewN _, h3⟩
def CkPost (B c n : Nat) (v : Value) (L : List Int) (age : Int) (w : World) (e : Ending) (w' : World) : Prop :=
  e = .returned (.tuple #[.int .i64 age, .int .i64 (showF (lastN (2 * n) (L ++ [age])))]) ∧ (∃ v', CkR B c n v' (lastN (2 * n) (L ++ [age])) w' ∧ (v'.ownBlock = v.ownBlock ∨ ∀ k, v'.ownBlock = some k → w.heap.size ≤ k)) ∧ Chg (fun b => b = c ∨ some b = v.ownBlock) w w'
theorem app_i64' : AppOk Try.prog 173 2 1 := appOk_of Try.underlying173 (by kernel_rfl)

set_option maxRecDepth 100000 in
set_option maxHeartbeats 4000000 in
theorem ckstep_any (B c n : Nat) (h4 : 4 ≤ n) (h16 : n ≤ 16) (v : Value) (L : List Int) (hL : ∀ a ∈ L, -1 ≤ a ∧ a ≤ 1099511627776) (hlen : L.length ≤ 2 * n) (common cold : Int) (h0 : -9223372036854775808 ≤ common ∧ common ≤ 9223372036854775807) (w : World) (hr : CkR B c n v L w) (hB : B ≤ w.heap.size) :
    Calls Try.prog 75 #[.pointer (some ⟨c, 0, none⟩), .int .i64 common, .int .i64 cold] w (CkPost B c n v L (ownF n common cold) w) := by
  obtain ⟨hb, hro⟩ := hr
  have hrange := ownF_range n common cold
  have HC := Lib.hid (agown_any c n v common cold w hb (by omega) h0)
  generalize ownF n common cold = age at hrange HC ⊢
  have hc0 : w.cell? ⟨c, 0, none⟩ = some (.int .i64 n) := hb.cell 0
  have hc1 : w.cell? ⟨c, 1, none⟩ = some v := hb.cell 1
  have hf1 : w.frozen? ⟨c, 1, none⟩ = false := hb.frozen 1
  have hn0 : ((n : Int) == 0) = false := by simp; omega
  have hclt := hb.lt
  have HH := Lib.hid (And.intro hb hro)
  have HL := Lib.hid hL
  obtain ⟨ys, hys⟩ : ∃ ys, ys = L ++ [age] := ⟨_, rfl⟩
  obtain ⟨m, hm⟩ : ∃ m, m = L.length + 1 := ⟨_, rfl⟩
  have hym : (L.map (Value.int .i64) ++ [Value.int .i64 age]) = ys.map (Value.int .i64) := by rw [hys]; simp
  have hyl : (ys.map (Value.int .i64)).length = m := by rw [hys, hm]; simp
  have hm2n : m ≤ 2 * n + 1 := by omega
  have hm1 : 1 ≤ m := by omega
  have hvc : v.ownBlock ≠ some c := hro.not_ hb (by decide)
  have HY := Lib.hid (And.intro hys (And.intro hm (And.intro hym (And.intro hyl hvc))))
  clear hb hro hL hys hm hym hyl hvc
  go_enter Try.func75, Try.ntmps75
  go_wp2_with fail
  refine HC.out.mono ?_
  rintro e w1 ⟨rfl, rfl⟩
  go_wp2_with (at_builtin; refine wpList_appR app_i64' (by rfl) (.tmp 28) (.tmp 30) (by rfl) (B := B) (by simp; omega) v (L.map (Value.int .i64)) (by rfl) (HH.out.2.block (fun k hk => Below.heap_alloc _ _ _ (HH.out.2.lt k hk).2)) ⟨w.heap.size, 0, none⟩ 1 (.int .i64 age) (by rfl) (by first | rfl | simp | go_simp) rfl (by simp; omega) ?_; intro v1 w2 hro2 hg2 hl2; rw [HY.out.2.2.1] at hro2; obtain ⟨g, off, cp, rfl, k1, k2, k3, k4⟩ := hro2.at1 (by rw [HY.out.2.2.2.1]; exact hm1); rw [HY.out.2.2.2.1] at k1 hro2 hl2 ⊢; have hb2 : Blk w2 c 198 #[.int .i64 n, v] := (hg2.block c (by simp; omega) (fun h => HY.out.2.2.2.2 h.symm)).trans (HH.out.1.alloc _); have d0 : w2.cell? ⟨c, 0, none⟩ = some (.int .i64 n) := hb2.cell 0; have d1 : w2.cell? ⟨c, 1, none⟩ = some v := hb2.cell 1; have f1 : w2.frozen? ⟨c, 1, none⟩ = false := hb2.frozen 1; have H2 := Lib.hid (And.intro hro2 (And.intro hg2 (And.intro hl2 (And.intro hb2 k4)))); clear hro2 hg2 hl2 hb2 k4)
  have hX : CkR B c n (.slice (some ⟨g, off, none⟩) m cp) ys (w2.setCell ⟨c, 1, none⟩ (.slice (some ⟨g, off, none⟩) m cp)) ∧ Chg (fun b => b = c ∨ some b = v.ownBlock) w (w2.setCell ⟨c, 1, none⟩ (.slice (some ⟨g, off, none⟩) m cp)) ∧ (some g = v.ownBlock ∨ w.heap.size ≤ g) := by
    obtain ⟨a1, a2, a3, a4, a5⟩ := H2.out
    have hgc := a1.not_ a4 (by decide)
    have hgc : g ≠ c := fun e => hgc (by rw [e]; rfl)
    refine ⟨⟨by simpa using a4.set_ 1 (.slice (some ⟨g, off, none⟩) m cp), a1.block (fun k hk => Below.heap_setCell _ _ _ _ (by simp only [Value.ownBlock, Option.some.injEq] at hk; subst hk; exact hgc))⟩, ?_, ?_⟩
    · have hsz := a2.size
      simp at hsz
      have : Chg (fun b => b = c ∨ some b = v.ownBlock) w w2 := ⟨a2.os, a2.tape, a2.output, by omega, fun k hk hs => (a2.block k (by simp; omega) (fun h => hs (Or.inr h))).trans (Below.heap_alloc _ _ _ hk)⟩
      exact this.setCell (p := ⟨c, 1, none⟩) (Or.inl (Or.inl rfl)) _
    · rcases a3 with h | h | h
      · exact .inl h
      · simp only [Value.ownBlock, Option.some.injEq] at h
        have : w.heap.size ≤ g := by rw [h]; simp
        exact .inr this
      · have := h g rfl
        simp at this
        exact .inr (by omega)
  generalize w2.setCell ⟨c, 1, none⟩ (.slice (some ⟨g, off, none⟩) m cp) = w3 at hX ⊢
  have H3 := Lib.hid hX
  clear hX H2 d0 d1 f1 hc0 hc1 hf1 HC k3
  obtain ⟨⟨b3, r3⟩, ch3, -⟩ := id H3.out
  have d0 : w3.cell? ⟨c, 0, none⟩ = some (.int .i64 n) := b3.cell 0
  have d1 : w3.cell? ⟨c, 1, none⟩ = some (.slice (some ⟨g, off, none⟩) m cp) := b3.cell 1
  have f1 : w3.frozen? ⟨c, 1, none⟩ = false := b3.frozen 1
  have hWn : lastN (2 * n) (L ++ [age]) = lastN (2 * n) ys := by rw [HY.out.1]
  have hyn : ys.length = m := by have := HY.out.2.2.2.1; simpa using this
  have HW := Lib.hid (And.intro hWn hyn)
  clear b3 r3 ch3 hWn hyn
  go_quiet (fail)
  rename_i nq
  go_upto_if 46 with fail
  go_cut [8] from 45 to 65 (fun s8 wx => CkMid B c n v (lastN (2 * n) ys) w wx)
  case first =>
    by_cases hov : m ≤ 2 * n
    · have hfin : CkMid B c n v (lastN (2 * n) ys) w (w3.drewN nq) := by
        rw [lastN_all (by rw [HW.out.2]; exact hov)]
        refine ⟨g, off, cp, ?_, H3.out.2.1.drewN _, H3.out.2.2⟩
        rw [HW.out.2]
        exact ⟨H3.out.1.1.drewN _, H3.out.1.2.block (fun _ _ => rfl)⟩
      have HF := Lib.hid hfin
      clear hfin
      go_wp2_with fail
      go_meet
      exact HF.out
    · have hov1 : (m : Int) - 2 * (n : Int) = 1 := by omega
      have hm1' : 1 < m := by omega
      have hfin : CkMid B c n v (lastN (2 * n) ys) w ((w3.setCell ⟨c, 1, none⟩ (.slice (some ⟨g, off + 1, none⟩) (m - 1) (m - 1)))) := by
        rw [lastN_one (by rw [HW.out.2]; omega)]
        have hd : (ys.drop 1).length = m - 1 := by rw [List.length_drop, HW.out.2]
        obtain ⟨⟨b3, r3⟩, ch3, hl3⟩ := H3.out
        have hgc := r3.not_ b3 (by decide)
        have hgc : g ≠ c := fun e => hgc (by rw [e]; rfl)
        have hr := r3.drop (k := 1) (by rw [HY.out.2.2.2.1]; omega)
        rw [HY.out.2.2.2.1, ← List.map_drop] at hr
        refine ⟨g, off + 1, m - 1, ?_, ch3.setCell (p := ⟨c, 1, none⟩) (Or.inl (Or.inl rfl)) _, hl3⟩
        rw [hd]
        exact ⟨by simpa using b3.set_ 1 (.slice (some ⟨g, off + 1, none⟩) (m - 1) (m - 1)), hr.block (fun k hk => Below.heap_setCell _ _ _ _ (by simp only [Value.ownBlock, Option.some.injEq] at hk; subst hk; exact hgc))⟩
      have HF := Lib.hid hfin
      clear hfin
      go_upto_region 7 with fail
      go_region
      all_goals go_wp2_with fail
      all_goals go_meet
      all_goals first | exact HF.out | exact HF.out.drew | exact HF.out.drewN _ | exact (HF.out.drewN _).drew
  case rest =>
    obtain ⟨g', off', cap', ⟨b5, r5⟩, ch5, hl5⟩ := hcut
    have d0 : wc.cell? ⟨c, 0, none⟩ = some (.int .i64 n) := b5.cell 0
    obtain ⟨Wn, hWn⟩ : ∃ Wn, Wn = lastN (2 * n) ys := ⟨_, rfl⟩
    rw [← hWn] at b5 r5
    have hyr : ∀ a ∈ ys, -1 ≤ a ∧ a ≤ 1099511627776 := fun a ha => by
      rw [HY.out.1] at ha
      rcases List.mem_append.1 ha with ha | ha
      · exact HL.out a ha
      · simp at ha; subst ha; exact hrange
    have hWr : ∀ a ∈ Wn, -1 ≤ a ∧ a ≤ 1099511627776 := fun a ha => hyr a (by rw [hWn] at ha; exact List.mem_of_mem_drop ha)
    have hWl : Wn.length ≤ 2 * n := by rw [hWn]; unfold lastN; rw [List.length_drop]; omega
    have hpos : 0 < Wn.length := by rw [hWn]; unfold lastN; rw [List.length_drop, HW.out.2]; omega
    obtain ⟨g2, off2, cap2, he, -, -, -, hcs⟩ := r5.at1 (by simpa using hpos)
    simp only [Value.slice.injEq, Option.some.injEq, Addr.mk.injEq] at he
    obtain ⟨⟨rfl, rfl, -⟩, -, rfl⟩ := he
    obtain ⟨q, hq⟩ : ∃ q, q = Wn.length := ⟨_, rfl⟩
    rw [← hq] at b5 hWl hpos r5
    have d1 : wc.cell? ⟨c, 1, none⟩ = some (.slice (some ⟨g', off', none⟩) q cap') := b5.cell 1
    have hbl : ∀ (k : Nat) (a : Int), Wn[k]? = some a → wc.cell? ⟨g', off' + k, none⟩ = some (.int .i64 a) := fun k a h => hcs k _ (by rw [List.getElem?_map, h]; rfl)
    have hcap' : q ≤ 1000 := by omega
    have HV := Lib.hid (And.intro b5 (And.intro r5 (And.intro ch5 (And.intro hl5 (And.intro hWn (And.intro hWr (And.intro hq hbl)))))))
    clear b5 r5 ch5 hl5 hWn hWr hq hbl hcs hyr
    go_wp2_with fail
    go_loopw [7, 71] (fun sv i wr => ∃ (k : Nat) (s : Int), k ≤ q ∧ i = .int .i64 k ∧ sv = .int .i64 s ∧ MaxP Wn (fun j => j < k) s ∧ s ≤ 1099511628776 ∧ -1 ≤ s ∧ wr = wc) (fun _ i _ => q - (intOf i).toNat)
    case atStart => exact ⟨0, -1, by omega, rfl, rfl, MaxP.start _ (fun i h => by omega), by omega, by omega, rfl⟩
    case round =>
      obtain ⟨k, s, hk, rfl, rfl, hmx, hs1, hs0, rfl⟩ := hrel
      by_cases hlt : k < q
      · obtain ⟨a, ha⟩ : ∃ a, Wn[k]? = some a := ⟨_, List.getElem?_eq_getElem (by rw [← HV.out.2.2.2.2.2.2.1]; exact hlt)⟩
        have ca := HV.out.2.2.2.2.2.2.2 k a ha
        obtain ⟨ha0, ha1⟩ := HV.out.2.2.2.2.2.1 a (List.mem_of_getElem? ha)
        have hst := hmx.step (I' := fun j => j < k + 1) ha (fun i => by omega)
        rw [← HV.out.2.2.2.2.2.2.1] at hst
        have HS := Lib.hid hst
        clear ha hmx hst
        by_cases hn : a = -1
        · subst hn
          go_wp2_with fail
          go_roundw
          case rel => exact ⟨k + 1, s, by omega, by go_num, rfl, by simpa using HS.out, hs1, hs0, trivial⟩
          case measure => simp [intOf]; omega
        · have hn' : (a == -1) = false := by simpa using hn
          have hnn : 0 ≤ a := by omega
          go_wp2_with fail
          have hmax : max s (a + (q : Int) - 1 - k) ≤ 1099511628776 := by omega
          refine ⟨⟨k + 1, max s (a + (q : Int) - 1 - k), by omega, by go_num, ?_, ?_, hmax, by omega, trivial⟩, by simp [intOf]; omega⟩
          · congr 1
            split <;> omega
          · have h1 := HS.out
            rw [if_pos hnn] at h1
            exact h1
      · have hkq : k = q := by omega
        subst hkq
        have hbest := hmx.best (fun i hi => by have := HV.out.2.2.2.2.2.2.1; omega)
        have hsh : showF (lastN (2 * n) (L ++ [age])) = if okI s then s else -1 := by
          rw [HW.out.1, ← HV.out.2.2.2.2.1]
          unfold showF
          rw [← hbest]
          by_cases h : okI s = true
          · rw [if_pos h]
            have : 0 ≤ s ∧ s ≤ 1099511627776 := by simpa [okI] using h
            rw [if_pos this.2]
          · rw [if_neg h]
            have : ¬ (0 ≤ s ∧ s ≤ 1099511627776) := by simpa [okI] using h
            split
            · omega
            · rfl
        have hfin : ∀ sh, sh = (if okI s then s else -1) → CkPost B c n v L age w (.returned (.tuple #[.int .i64 age, .int .i64 sh])) wr := fun sh he => by
          refine ⟨by rw [he, hsh], ⟨.slice (some ⟨g', off', none⟩) k cap', ?_, ?_⟩, HV.out.2.2.1⟩
          · rw [HW.out.1, ← HV.out.2.2.2.2.1]
            exact ⟨HV.out.1, HV.out.2.1⟩
          · rcases HV.out.2.2.2.1 with h | h
            · exact .inl h
            · exact .inr fun k hk => by simp only [Value.ownBlock, Option.some.injEq] at hk; omega
        have HF := Lib.hid hfin
        have HI := Lib.hid (fun (w' : World) => agis_any s w')
        clear hmx hbest hsh hfin
        cases hok : okI s with
        | true =>
          go_wp2_with fail
          refine (HI.out _).mono ?_
          rintro e w' ⟨rfl, rfl⟩
          go_wp2_with fail
          go_ret2
          exact HF.out s (by rw [hok]; rfl)
        | false =>
          go_wp2_with fail
          refine (HI.out _).mono ?_
          rintro e w' ⟨rfl, rfl⟩
          go_wp2_with fail
          go_ret2
          exact HF.out (-1) (by rw [hok]; rfl)
theorem agstep_nil (a b : Int) (w : World) : Calls Try.prog 75 #[.pointer none, .int .i64 a, .int .i64 b] w fun e w' => e = .returned (.tuple #[.int .i64 (-1), .int .i64 (-1)]) ∧ w = w' := by
  go_enter Try.func75, Try.ntmps75
  go_wp2_with fail
  go_ret2
  exact ⟨rfl, rfl⟩
theorem agstep_unmade (c : Nat) (a b : Int) (w : World) (h : w.cell? ⟨c, 0, none⟩ = some (.int .i64 0)) : Calls Try.prog 75 #[.pointer (some ⟨c, 0, none⟩), .int .i64 a, .int .i64 b] w fun e w' => e = .returned (.tuple #[.int .i64 (-1), .int .i64 (-1)]) ∧ w = w' := by
  go_enter Try.func75, Try.ntmps75
  go_wp2_with fail
  go_ret2
  exact ⟨rfl, rfl⟩
theorem agnew_ok (n : Int) (w : World) (h0 : 4 ≤ n) (h1 : n ≤ 16) :
    Calls Try.prog 72 #[.int .i64 n] w fun e w' => e = .returned (.tuple #[.pointer (some ⟨w.heap.size, 0, none⟩), .int .i64 0]) ∧ w' = w.alloc (.cells #[.int .i64 n, .slice none 0 0] 198) := by
  have e1 : (decide (4 ≤ n) && decide (n ≤ 16)) = true := by simp [h0, h1]
  go_enter Try.func72, Try.ntmps72
  go_wp2_with (go_at_call 91; refine (agmay_any _ _).mono ?_; rintro e w' ⟨rfl, rfl⟩)
  go_ret2
  exact ⟨rfl, rfl⟩
theorem agnew_bad (n : Int) (w : World) (h : n < 4 ∨ 16 < n) :
    Calls Try.prog 72 #[.int .i64 n] w fun e w' => e = .returned (.tuple #[.pointer none, .int .i64 1]) ∧ w' = w := by
  have e1 : (decide (4 ≤ n) && decide (n ≤ 16)) = false := by simp; omega
  clear h
  go_enter Try.func72, Try.ntmps72
  go_wp2_with (go_at_call 91; refine (agmay_any _ _).mono ?_; rintro e w' ⟨rfl, rfl⟩)
  go_ret2
  exact ⟨rfl, rfl⟩
end Go.Proofs.Ytbdklfcgcmdgaaa
namespace Go.Proofs.Ytbdklfcgcmdgaaa
open Go.RowKit
set_option linter.unusedVariables false
set_option linter.unusedSimpArgs false

theorem cmay_any (n : Int) (w : World) : Calls Try.prog 92 #[.int .i64 n] w fun e w' => e = .returned (.bool (decide (4 ≤ n) && decide (n ≤ 16))) ∧ w = w' := by
  by_cases h : 4 ≤ n
  all_goals
    go_enter Try.func92, Try.ntmps92
    go_wp2
    go_ret
    refine ⟨?_, rfl⟩
    first | (rw [show decide (4 ≤ n) = true from by simp; omega]; simp) | (rw [show decide (4 ≤ n) = false from by simp; omega]; simp)

/-- how many are there, and of that age -/
def evenN (l : List Hd) (common : Int) : Nat := (l.filter fun h => h.is && ageL h.c == common).length
def evenF (n : Int) (l : List Hd) (common : Int) : Bool :=
  decide (4 ≤ n) && decide (n ≤ 16) && decide (0 ≤ common) && decide (common ≤ 1099511627776) && decide (n - 1 ≤ evenN (l.take n.toNat) common)
theorem evenN_le (l : List Hd) (c : Int) : evenN l c ≤ l.length := List.length_filter_le _ _
theorem evenN_succ (l : List Hd) (c : Int) (k : Nat) (h : Hd) (hk : l[k]? = some h) : evenN (l.take (k + 1)) c = evenN (l.take k) c + if h.is && ageL h.c == c then 1 else 0 := by
  unfold evenN
  rw [List.take_add_one, hk]
  simp [List.filter_append, List.filter_cons]
  split <;> simp

set_option maxHeartbeats 400000 in
theorem even_any (S : Nat → Prop) (n common : Int) (a : Option Addr) (len cap : Nat) (l : List Hd) (w : World) (hn0 : 4 ≤ n) (hn1 : n ≤ 16) (hc0 : 0 ≤ common) (hc1 : common ≤ 1099511627776)
    (hrd : RdHs S w a len l) (hlc : len ≤ cap) (hcm : cap ≤ maxLen) :
    Calls Try.prog 99 #[.int .i64 n, .slice a len cap, .int .i64 common] w fun e w' => e = .returned (.bool (evenF n l common)) ∧ Below w.heap.size w w' := by
  unfold maxLen at hcm
  obtain ⟨m, rfl⟩ : ∃ m : Nat, n = m := ⟨n.toNat, by omega⟩
  have HR := Lib.hid hrd
  clear hrd
  have HB := Lib.hid (Below.refl w.heap.size w)
  obtain ⟨L, hL⟩ : ∃ L : Nat, L = min m len := ⟨_, rfl⟩
  have hT : l.take (m : Int).toNat = l.take L := by
    rw [Int.toNat_natCast, hL]
    rcases Nat.le_total m len with h | h
    · rw [Nat.min_eq_left h]
    · rw [Nat.min_eq_right h, List.take_of_length_le (by rw [HR.out.1]; exact h), List.take_of_length_le (by rw [HR.out.1]; exact Nat.le_refl _)]
  have HT := Lib.hid hT
  clear hT
  have hcase : len = L ∧ L < m ∨ m = L ∧ L ≤ len := by omega
  clear hL
  have hb := evenN_le (l.take L) common
  rcases hcase with ⟨rfl, hlt⟩ | ⟨rfl, hge⟩
  all_goals
    go_enter Try.func99, Try.ntmps99
    go_wp2_with (go_at_call 92; refine (cmay_any _ _).mono ?_; rintro e w' ⟨rfl, rfl⟩)
  · go_loopw [7, 28] (fun c i wr => ∃ k : Nat, k ≤ len ∧ i = .int .i64 k ∧ c = .int .i64 (evenN (l.take k) common) ∧ Below w.heap.size w wr) (fun _ i _ => len - (intOf i).toNat)
    case atStart => exact ⟨0, by omega, rfl, rfl, HB.out⟩
    case round =>
      obtain ⟨k, hk, rfl, rfl, hbl⟩ := hrel
      by_cases hlt2 : k < len
      · obtain ⟨b, off, is, n, r, rfl, -, hbw, hlk, hok, hlr, hlc1, h1, h2, h3, h4, h5, h6, h7, h8⟩ := HR.out.at_ k (by omega)
        have r1 := row_below hbl (p := ⟨b, off + k * 56, none⟩) hbw 56
        have g1 : hasRow wr ⟨b, off + k * 56, none⟩ 56 = true := r1.1.trans h1
        have g2 : rowOf wr ⟨b, off + k * 56, none⟩ 56 = .bool is :: .int .i64 n :: r := r1.2.trans h2
        have hs := evenN_succ l common k _ hlk
        simp only [ageL] at hs
        have H := Lib.hid (And.intro hs (And.intro hlk hbl))
        have hle := evenN_le (l.take k) common
        have hlt3 : (l.take k).length ≤ k := List.length_take_le _ _
        clear h1 h2 h3 h4 h5 h6 r1 hs hlk hbl hbw
        cases is with
        | false =>
          go_wp2
          exact ⟨⟨k + 1, by omega, by go_num, by rw [H.out.1]; simp, H.out.2.2.alloc H.out.2.2.size _⟩, by simp [intOf]; omega⟩
        | true =>
          by_cases hnc : n = common
          · have e1 : (n == common) = true := by simp [hnc]
            have HN := Lib.hid hnc
            clear hnc
            go_wp2
            exact ⟨⟨k + 1, by omega, by go_num, by rw [H.out.1, HN.out]; simp, H.out.2.2.alloc H.out.2.2.size _⟩, by simp [intOf]; omega⟩
          · have e1 : (n == common) = false := by simp [hnc]
            have HN := Lib.hid hnc
            clear hnc
            go_wp2
            exact ⟨⟨k + 1, by omega, by go_num, by rw [H.out.1]; simp [HN.out], H.out.2.2.alloc H.out.2.2.size _⟩, by simp [intOf]; omega⟩
      · have : k = len := by omega
        subst this
        have HBL := Lib.hid hbl
        clear hbl
        go_wp2
        go_ret
        refine ⟨?_, HBL.out⟩
        unfold evenF
        rw [HT.out]
        simp [hn0, hn1, hc0, hc1]
  · go_loopw [7, 28] (fun c i wr => ∃ k : Nat, k ≤ m ∧ i = .int .i64 k ∧ c = .int .i64 (evenN (l.take k) common) ∧ Below w.heap.size w wr) (fun _ i _ => m - (intOf i).toNat)
    case atStart => exact ⟨0, by omega, rfl, rfl, HB.out⟩
    case round =>
      obtain ⟨k, hk, rfl, rfl, hbl⟩ := hrel
      by_cases hlt2 : k < m
      · obtain ⟨b, off, is, n, r, rfl, -, hbw, hlk, hok, hlr, hlc1, h1, h2, h3, h4, h5, h6, h7, h8⟩ := HR.out.at_ k (by omega)
        have r1 := row_below hbl (p := ⟨b, off + k * 56, none⟩) hbw 56
        have g1 : hasRow wr ⟨b, off + k * 56, none⟩ 56 = true := r1.1.trans h1
        have g2 : rowOf wr ⟨b, off + k * 56, none⟩ 56 = .bool is :: .int .i64 n :: r := r1.2.trans h2
        have hs := evenN_succ l common k _ hlk
        simp only [ageL] at hs
        have H := Lib.hid (And.intro hs (And.intro hlk hbl))
        have hle := evenN_le (l.take k) common
        have hlt3 : (l.take k).length ≤ k := List.length_take_le _ _
        clear h1 h2 h3 h4 h5 h6 r1 hs hlk hbl hbw
        cases is with
        | false =>
          go_wp2
          exact ⟨⟨k + 1, by omega, by go_num, by rw [H.out.1]; simp, H.out.2.2.alloc H.out.2.2.size _⟩, by simp [intOf]; omega⟩
        | true =>
          by_cases hnc : n = common
          · have e1 : (n == common) = true := by simp [hnc]
            have HN := Lib.hid hnc
            clear hnc
            go_wp2
            exact ⟨⟨k + 1, by omega, by go_num, by rw [H.out.1, HN.out]; simp, H.out.2.2.alloc H.out.2.2.size _⟩, by simp [intOf]; omega⟩
          · have e1 : (n == common) = false := by simp [hnc]
            have HN := Lib.hid hnc
            clear hnc
            go_wp2
            exact ⟨⟨k + 1, by omega, by go_num, by rw [H.out.1]; simp [HN.out], H.out.2.2.alloc H.out.2.2.size _⟩, by simp [intOf]; omega⟩
      · have : k = m := by omega
        subst this
        have HBL := Lib.hid hbl
        clear hbl
        go_wp2
        go_ret
        refine ⟨?_, HBL.out⟩
        unfold evenF
        rw [HT.out]
        simp [hn0, hn1, hc0, hc1]

theorem even_no (n common : Int) (a : Option Addr) (len cap : Nat) (l : List Hd) (w : World) (h : n < 4 ∨ 16 < n ∨ common < 0 ∨ 1099511627776 < common) :
    Calls Try.prog 99 #[.int .i64 n, .slice a len cap, .int .i64 common] w fun e w' => e = .returned (.bool (evenF n l common)) ∧ w = w' := by
  have hF : evenF n l common = false := by
    unfold evenF
    rcases h with h | h | h | h
    · rw [show decide (4 ≤ n) = false from by simp; omega]; simp
    · rw [show decide (n ≤ 16) = false from by simp; omega]; simp
    · rw [show decide (0 ≤ common) = false from by simp; omega]; simp
    · rw [show decide (common ≤ 1099511627776) = false from by simp; omega]; simp
  rw [hF]
  clear hF
  by_cases hm : 4 ≤ n ∧ n ≤ 16
  · have e1 : (decide (4 ≤ n) && decide (n ≤ 16)) = true := by simp [hm]
    have h' : common < 0 ∨ 1099511627776 < common := by omega
    clear h
    rcases h' with h' | h'
    all_goals
      go_enter Try.func99, Try.ntmps99
      go_wp2_with (go_at_call 92; refine (cmay_any _ _).mono ?_; rintro e w' ⟨rfl, rfl⟩)
      go_ret
      exact ⟨rfl, rfl⟩
  · have e1 : (decide (4 ≤ n) && decide (n ≤ 16)) = false := by simp; omega
    clear h hm
    go_enter Try.func99, Try.ntmps99
    go_wp2_with (go_at_call 92; refine (cmay_any _ _).mono ?_; rintro e w' ⟨rfl, rfl⟩)
    go_ret
    exact ⟨rfl, rfl⟩

/-- 'Even', of whatever number, vector and age -/
theorem even_all (S : Nat → Prop) (n common : Int) (a : Option Addr) (len cap : Nat) (l : List Hd) (w : World) (hrd : RdHs S w a len l) (hlc : len ≤ cap) (hcm : cap ≤ maxLen) :
    Calls Try.prog 99 #[.int .i64 n, .slice a len cap, .int .i64 common] w fun e w' => e = .returned (.bool (evenF n l common)) ∧ Below w.heap.size w w' := by
  by_cases h : 4 ≤ n ∧ n ≤ 16 ∧ 0 ≤ common ∧ common ≤ 1099511627776
  · exact even_any S n common a len cap l w h.1 h.2.1 h.2.2.1 h.2.2.2 hrd hlc hcm
  · refine (even_no n common a len cap l w (by omega)).mono ?_
    rintro e w' ⟨rfl, rfl⟩
    exact ⟨rfl, Below.refl _ _⟩
end Go.Proofs.Ytbdklfcgcmdgaaa
namespace Go.Proofs.Ytbdklfcgcmdgaaa
open Go.RowKit
set_option linter.unusedVariables false
set_option linter.unusedSimpArgs false

def cqCells (long end_ n : Int) : Array Value := #[.int .i64 long, .int .i64 end_, .int .i64 n]

theorem on_false (g : Nat) (t : TypeId) (long end_ n : Int) (w : World) (hg : Blk w g t (cqCells long end_ n)) :
    Calls Try.prog 98 #[.pointer (some ⟨g, 0, none⟩), .bool false] w fun e w' => e = .returned (.bool false) ∧ Blk w' g t (cqCells 0 end_ n) ∧ Chg (· = g) w w' := by
  have hc0 : w.cell? ⟨g, 0, none⟩ = some (.int .i64 long) := hg.cell 0
  have hf : ∀ i, w.frozen? ⟨g, i, none⟩ = false := hg.frozen
  have HG := Lib.hid hg
  clear hg
  go_enter Try.func98, Try.ntmps98
  go_wp2
  go_ret
  exact ⟨rfl, HG.out.set_ 0 (.int .i64 0), (Chg.refl _ _).set_at _ _⟩

theorem on_true (g : Nat) (t : TypeId) (long end_ n : Int) (w : World) (hg : Blk w g t (cqCells long end_ n)) (h0 : 0 ≤ long) (h1 : long ≤ 1000000) (h2 : 0 ≤ end_) (h3 : end_ ≤ 1000000) :
    Calls Try.prog 98 #[.pointer (some ⟨g, 0, none⟩), .bool true] w fun e w' => e = .returned (.bool (min (long + 1) end_ == end_)) ∧ Blk w' g t (cqCells (min (long + 1) end_) end_ n) ∧ Chg (· = g) w w' := by
  have hc0 : w.cell? ⟨g, 0, none⟩ = some (.int .i64 long) := hg.cell 0
  have hc1 : w.cell? ⟨g, 1, none⟩ = some (.int .i64 end_) := hg.cell 1
  have hf : ∀ i, w.frozen? ⟨g, i, none⟩ = false := hg.frozen
  have HG := Lib.hid hg
  clear hg
  obtain ⟨m, hm⟩ : ∃ m, m = min (long + 1) end_ := ⟨_, rfl⟩
  rw [← hm]
  have hcase : long + 1 = m ∧ m ≤ end_ ∨ end_ = m ∧ m < long + 1 := by omega
  clear hm
  rcases hcase with ⟨rfl, hlt⟩ | ⟨rfl, hlt⟩
  · go_enter Try.func98, Try.ntmps98
    go_wp2
    go_region
    go_wp2
    go_quiet (fail)
    go_wp2
    go_ret
    exact ⟨rfl, HG.out.set_ 0 (.int .i64 (long + 1)), ((Chg.refl _ _).set_at _ _).drew.drewN _⟩
  · go_enter Try.func98, Try.ntmps98
    go_wp2
    go_region
    go_wp2
    go_quiet (fail)
    go_wp2
    go_ret
    exact ⟨by simp, HG.out.set_ 0 (.int .i64 end_), ((Chg.refl _ _).set_at _ _).drew.drewN _⟩

theorem cqnew_ok (n : Int) (w : World) (h0 : 4 ≤ n) (h1 : n ≤ 16) :
    Calls Try.prog 73 #[.int .i64 n] w fun e w' => e = .returned (.tuple #[.pointer (some ⟨w.heap.size, 0, none⟩), .int .i64 0]) ∧ w' = w.alloc (.cells (cqCells 0 (2 * n) n) 202) := by
  have e1 : (decide (4 ≤ n) && decide (n ≤ 16)) = true := by simp [h0, h1]
  go_enter Try.func73, Try.ntmps73
  go_wp2_with (go_at_call 92; refine (cmay_any _ _).mono ?_; rintro e w' ⟨rfl, rfl⟩)
  go_ret2
  exact ⟨rfl, rfl⟩

theorem cqnew_bad (n : Int) (w : World) (h : n < 4 ∨ 16 < n) :
    Calls Try.prog 73 #[.int .i64 n] w fun e w' => e = .returned (.tuple #[.pointer none, .int .i64 1]) ∧ w' = w := by
  have e1 : (decide (4 ≤ n) && decide (n ≤ 16)) = false := by simp; omega
  clear h
  go_enter Try.func73, Try.ntmps73
  go_wp2_with (go_at_call 92; refine (cmay_any _ _).mono ?_; rintro e w' ⟨rfl, rfl⟩)
  go_ret2
  exact ⟨rfl, rfl⟩

theorem cqstep_nil (v : Value) (c : Int) (w : World) :
    Calls Try.prog 76 #[.pointer none, v, .int .i64 c] w fun e w' => e = .returned (.bool false) ∧ w' = w := by
  go_enter Try.func76, Try.ntmps76
  go_wp2
  go_ret
  exact ⟨rfl, rfl⟩

theorem cqstep_unmade (g : Nat) (v : Value) (c : Int) (w : World) (hc : w.cell? ⟨g, 2, none⟩ = some (.int .i64 0)) :
    Calls Try.prog 76 #[.pointer (some ⟨g, 0, none⟩), v, .int .i64 c] w fun e w' => e = .returned (.bool false) ∧ w' = w := by
  go_enter Try.func76, Try.ntmps76
  go_wp2
  go_ret
  exact ⟨rfl, rfl⟩

/-- a tick: how long the run is then -/
def cqOn (long end_ : Int) (b : Bool) : Int := if b then min (long + 1) end_ else 0

theorem on_any_ (g : Nat) (t : TypeId) (long end_ n : Int) (b : Bool) (w : World) (hg : Blk w g t (cqCells long end_ n)) (h0 : 0 ≤ long) (h1 : long ≤ 1000000) (h2 : 1 ≤ end_) (h3 : end_ ≤ 1000000) :
    Calls Try.prog 98 #[.pointer (some ⟨g, 0, none⟩), .bool b] w fun e w' => e = .returned (.bool (cqOn long end_ b == end_)) ∧ Blk w' g t (cqCells (cqOn long end_ b) end_ n) ∧ Chg (· = g) w w' := by
  cases b with
  | false =>
    refine (on_false g t long end_ n w hg).mono ?_
    rintro e w' ⟨rfl, hb, hc⟩
    refine ⟨?_, hb, hc⟩
    have : (cqOn long end_ false == end_) = false := by simp [cqOn]; omega
    rw [this]
  | true => exact on_true g t long end_ n w hg h0 h1 (by omega) h3

theorem cqstep_any (S : Nat → Prop) (g : Nat) (long end_ n c : Int) (a : Option Addr) (len cap : Nat) (l : List Hd) (w : World) (hg : Blk w g 202 (cqCells long end_ n)) (hn : 4 ≤ n) (hn2 : n ≤ 16) (h0 : 0 ≤ long) (h1 : long ≤ 1000000) (h2 : 1 ≤ end_) (h3 : end_ ≤ 1000000)
    (hrd : RdHs S w a len l) (hlc : len ≤ cap) (hcm : cap ≤ maxLen) :
    Calls Try.prog 76 #[.pointer (some ⟨g, 0, none⟩), .slice a len cap, .int .i64 c] w fun e w' =>
      e = .returned (.bool (cqOn long end_ (evenF n l c) == end_)) ∧ Blk w' g 202 (cqCells (cqOn long end_ (evenF n l c)) end_ n) ∧ Chg (· = g) w w' := by
  have hc2 : w.cell? ⟨g, 2, none⟩ = some (.int .i64 n) := hg.cell 2
  have hev : ∀ k, Calls Try.prog 99 #[.int .i64 n, .slice a len cap, .int .i64 c] (w.drewN k) fun e w' => e = .returned (.bool (evenF n l c)) ∧ Below w.heap.size w w' := fun k => by
    refine (even_all S n c a len cap l (w.drewN k) ⟨hrd.1, hrd.2.1, hrd.2.2⟩ hlc hcm).mono ?_
    rintro e w' ⟨rfl, hb⟩
    exact ⟨rfl, (show Below w.heap.size w (w.drewN k) from ⟨rfl, rfl, rfl, Nat.le_refl _, fun _ _ => rfl⟩).trans hb⟩
  have hon : ∀ w', Below w.heap.size w w' → Calls Try.prog 98 #[.pointer (some ⟨g, 0, none⟩), .bool (evenF n l c)] w' fun e w'' => e = .returned (.bool (cqOn long end_ (evenF n l c) == end_)) ∧ Blk w'' g 202 (cqCells (cqOn long end_ (evenF n l c)) end_ n) ∧ Chg (· = g) w w'' := fun w' hb => by
    refine (on_any_ g _ long end_ n _ w' (hg.below hb hg.lt) h0 h1 h2 h3).mono ?_
    rintro e w'' ⟨rfl, hk, hc⟩
    exact ⟨rfl, hk, (Chg.of_below hb _).trans hc⟩
  have HE := Lib.hid hev
  have HO := Lib.hid hon
  clear hev hon hg hrd
  have hz : (n == 0) = false := by simp; omega
  go_enter Try.func76, Try.ntmps76
  go_wp2
  go_region_with (first | (go_at_call 99; refine (HE.out 1).mono ?_; rintro e w1 ⟨rfl, hb1⟩; have HB1 := Lib.hid hb1; clear hb1) | (go_at_call 98; refine (HO.out _ HB1.out).mono ?_; rintro e w2 ⟨rfl, hp2⟩; have HP := Lib.hid hp2; clear hp2))
  all_goals go_wp2
  all_goals go_ret
  all_goals exact ⟨rfl, HP.out⟩
end Go.Proofs.Ytbdklfcgcmdgaaa
namespace Go.Proofs.Ytbdklfcgcmdgaaa
open Go.RowKit
set_option linter.unusedVariables false
set_option linter.unusedSimpArgs false

/-- a power's memory -/
def pwCells (boot s left cold : Int) : Array Value := #[.bool true, .int .i64 boot, .int .u8 s, .int .i64 left, .int .i64 cold]

/-- what a tick with power brings: state, left, cold -/
def pwOn (boot s left cold : Int) : Int × Int × Int :=
  if s = 2 then (2, left, min (cold + 1) 1099511627776)
  else if 0 < (if s = 0 then boot else left) then (1, (if s = 0 then boot else left) - 1, cold)
  else (2, (if s = 0 then boot else left), 0)

def OnPost (g : Nat) (boot s left cold : Int) (w w' : World) : Prop :=
  Blk w' g 196 (pwCells boot (pwOn boot s left cold).1 (pwOn boot s left cold).2.1 (pwOn boot s left cold).2.2) ∧ Chg (· = g) w w'

set_option maxHeartbeats 400000 in
theorem on_any (g : Nat) (boot s left cold : Int) (w : World) (hs : s = 0 ∨ s = 1 ∨ s = 2) (hb0 : 0 ≤ boot) (hb1 : boot ≤ 4096) (hl0 : 0 ≤ left) (hl1 : left ≤ 4096)
    (h0 : -1 ≤ cold) (h1 : cold ≤ 1099511627776) (hg : Blk w g 196 (pwCells boot s left cold)) :
    Calls Try.prog 90 #[.pointer (some ⟨g, 0, none⟩)] w fun e w' => e = .returned (.tuple #[]) ∧ OnPost g boot s left cold w w' := by
  have hc1 : w.cell? ⟨g, 1, none⟩ = some (.int .i64 boot) := hg.cell 1
  have hc2 : w.cell? ⟨g, 2, none⟩ = some (.int .u8 s) := hg.cell 2
  have hc3 : w.cell? ⟨g, 3, none⟩ = some (.int .i64 left) := hg.cell 3
  have hc4 : w.cell? ⟨g, 4, none⟩ = some (.int .i64 cold) := hg.cell 4
  have hf : ∀ i, w.frozen? ⟨g, i, none⟩ = false := hg.frozen
  have HG := Lib.hid hg
  clear hg
  have hp0 : 0 < boot → pwOn boot 0 left cold = (1, boot - 1, cold) := fun h => by simp [pwOn, h]
  have hp0' : ¬ 0 < boot → pwOn boot 0 left cold = (2, boot, 0) := fun h => by unfold pwOn; rw [if_neg (by decide), if_neg (by simpa using h)]; simp
  have hp1 : 0 < left → pwOn boot 1 left cold = (1, left - 1, cold) := fun h => by simp [pwOn, h]
  have hp1' : ¬ 0 < left → pwOn boot 1 left cold = (2, left, 0) := fun h => by unfold pwOn; rw [if_neg (by decide), if_neg (by simpa using h)]; simp
  have hp2 : pwOn boot 2 left cold = (2, left, min (cold + 1) 1099511627776) := rfl
  have HP := Lib.hid (And.intro hp0 (And.intro hp0' (And.intro hp1 (And.intro hp1' hp2))))
  clear hp0 hp0' hp1 hp1' hp2
  rcases hs with rfl | rfl | rfl
  · by_cases hb : 0 < boot
    all_goals go_enter Try.func90, Try.ntmps90
    all_goals go_wp2
    all_goals (try simp only [Exit.inBlock, Exit.then])
    all_goals first | refine bodyPost_end (results_none rfl _ _ _) rfl ?_ | refine bodyPost_ret (results_none rfl _ _ _) rfl ?_
    all_goals go_light
    all_goals refine ⟨rfl, ?_, by repeat (first | exact Chg.refl _ _ | refine Chg.set_at ?_ _ _)⟩
    · rw [HP.out.1 hb]
      exact ((HG.out.set_ 2 (.int .u8 1)).set_ 3 (.int .i64 boot)).set_ 3 (.int .i64 (boot - 1))
    · rw [HP.out.2.1 (by omega)]
      exact ((((HG.out.set_ 2 (.int .u8 1)).set_ 3 (.int .i64 boot)).set_ 2 (.int .u8 2)).set_ 4 (.int .i64 (-1))).set_ 4 (.int .i64 0)
  · by_cases hb : 0 < left
    all_goals go_enter Try.func90, Try.ntmps90
    all_goals go_wp2
    all_goals (try simp only [Exit.inBlock, Exit.then])
    all_goals first | refine bodyPost_end (results_none rfl _ _ _) rfl ?_ | refine bodyPost_ret (results_none rfl _ _ _) rfl ?_
    all_goals go_light
    all_goals refine ⟨rfl, ?_, by repeat (first | exact Chg.refl _ _ | refine Chg.set_at ?_ _ _)⟩
    · rw [HP.out.2.2.1 hb]
      exact HG.out.set_ 3 (.int .i64 (left - 1))
    · rw [HP.out.2.2.2.1 (by omega)]
      exact ((HG.out.set_ 2 (.int .u8 2)).set_ 4 (.int .i64 (-1))).set_ 4 (.int .i64 0)
  · by_cases hb : cold + 1 ≤ 1099511627776
    all_goals go_enter Try.func90, Try.ntmps90
    all_goals go_wp2
    all_goals (try simp only [Exit.inBlock, Exit.then])
    all_goals first | refine bodyPost_end (results_none rfl _ _ _) rfl ?_ | refine bodyPost_ret (results_none rfl _ _ _) rfl ?_
    all_goals go_light
    all_goals refine ⟨rfl, ?_, by repeat (first | exact Chg.refl _ _ | refine Chg.set_at ?_ _ _)⟩
    · rw [HP.out.2.2.2.2, Int.min_eq_left hb]
      exact HG.out.set_ 4 (.int .i64 (cold + 1))
    · rw [HP.out.2.2.2.2, Int.min_eq_right (by omega)]
      exact HG.out.set_ 4 (.int .i64 1099511627776)

end Go.Proofs.Ytbdklfcgcmdgaaa
namespace Go.Proofs.Ytbdklfcgcmdgaaa
open Go.RowKit
set_option linter.unusedVariables false
set_option linter.unusedSimpArgs false

/-! ### one node -/
structure NdM where
  s : Int
  left : Int
  cold : Int
  ck : List Int
  long : Int
  sure : Bool
  shows : Int
def NdM.new : NdM := ⟨0, 0, 0, [], 0, false, -1⟩
/-- its power, behind a tick -/
def pwM (boot : Int) (x : NdM) (p : Bool) : Int × Int × Int := if p = true then pwOn boot x.s x.left x.cold else (0, x.left, x.cold)
def coldM (q : Int × Int × Int) : Int := if q.1 = 2 then q.2.2 else -1
def ageM (n : Nat) (boot : Int) (p : Bool) (A : List Hd) (x : NdM) : Int := ownF n (commonF n A) (coldM (pwM boot x p))
def longN (n : Nat) (A : List Hd) (x : NdM) : Int := cqOn x.long (2 * n) (evenF n A (commonF n A))
def ckN (n : Nat) (boot : Int) (p : Bool) (A : List Hd) (x : NdM) : List Int := lastN (2 * n) (x.ck ++ [ageM n boot p A x])
def NdM.step (n : Nat) (boot : Int) (p : Bool) (A : List Hd) (x : NdM) : NdM :=
  if p = true then ⟨(pwM boot x p).1, (pwM boot x p).2.1, (pwM boot x p).2.2, ckN n boot p A x, longN n A x, longN n A x == 2 * n, showF (ckN n boot p A x)⟩
  else ⟨(pwM boot x p).1, (pwM boot x p).2.1, (pwM boot x p).2.2, [], 0, false, -1⟩
theorem NdM.step_s (n : Nat) (boot : Int) (p : Bool) (A : List Hd) (x : NdM) : (x.step n boot p A).s = (pwM boot x p).1 ∧ (x.step n boot p A).left = (pwM boot x p).2.1 ∧ (x.step n boot p A).cold = (pwM boot x p).2.2 := by
  unfold NdM.step; split <;> exact ⟨rfl, rfl, rfl⟩
/-- a cell of that age -/
def setAge (a : Int) (c : List Value) : List Value := .int .i64 a :: c.drop 1
theorem setAge_ok {a : Int} {c : List Value} (hc : okL cellK c = true) (h1 : -1 ≤ a) (h2 : a ≤ 1099511627776) : okL cellK (setAge a c) = true := by
  obtain ⟨C, rfl, hC⟩ := cell_of hc
  obtain ⟨h0, hr⟩ := (cell_ok_parts hC).1 hc
  refine (cell_ok_parts (c := { C with age := a }) hC).2 ⟨?_, hr⟩
  simp [Lit.wf, IntKind.min, IntKind.max, IntKind.signed, IntKind.bits]
  omega
theorem age_nrm {a : Int} {c : List Value} (hc : okL cellK c = true) (h1 : -1 ≤ a) (h2 : a ≤ 1099511627776) : ageL (nrm (setAge a c)) = a := by
  obtain ⟨C, rfl, hC⟩ := cell_of hc
  have : setAge a C.vals = ({ C with age := a } : Cl).vals := rfl
  rw [this, nrm_vals { C with age := a } hC]
  show (if a < 0 ∨ 1099511627776 < a then -1 else a) = a
  split <;> omega
noncomputable def ownN (n : Nat) (boot : Int) (p : Bool) (held : List Rw) (c : List Value) (x : NdM) : Rw :=
  if p = true ∧ (pwM boot x p).1 = 2 then ⟨true, setAge (ageM n boot p (agreeL n held) x) c, tabL held⟩ else rw0

/-! ### the ring and its nodes -/
structure BtM where
  R : RingM
  nd : Nat → NdM
noncomputable def BtM.step (n : Nat) (boot : Nat → Int) (S : BtM) (p : Nat → Bool) (c : Nat → List Value) : BtM :=
  ⟨(S.R.hear p).say fun i => ownN n (boot i) (p i) ((S.R.hear p).held i) (c i) (S.nd i), fun i => (S.nd i).step n (boot i) (p i) (agreeL n ((S.R.hear p).held i))⟩
section
variable (N : Nat) (F : FltM) (boot : Nat → Int) (on : Nat → Nat → Bool) (cell : Nat → Nat → List Value)
noncomputable def btT : Nat → BtM
  | 0 => ⟨RingM.new N F, fun _ => NdM.new⟩
  | t + 1 => (btT t).step N boot (on t) (cell t)
noncomputable def ownT (t i : Nat) : Rw := ownN N (boot i) (on t i) (((btT N F boot on cell t).R.hear (on t)).held i) (cell t i) ((btT N F boot on cell t).nd i)
theorem rgT_bt (t : Nat) : rgT N F on (ownT N F boot on cell) t = (btT N F boot on cell t).R := by
  induction t with
  | zero => rfl
  | succ t ih => rw [rgT_succ, ih]; rfl
noncomputable def ndT (t i : Nat) : NdM := (btT N F boot on cell t).nd i
/-- what a node agrees on -/
noncomputable def agT (t i : Nat) : List Hd := agreeL N (heldO N F on (ownT N F boot on cell) t i)
theorem heldO_bt (t i : Nat) : heldO N F on (ownT N F boot on cell) t i = ((btT N F boot on cell t).R.hear (on t)).held i := by
  unfold heldO; rw [rgT_bt]
theorem ndT_succ (t i : Nat) : ndT N F boot on cell (t + 1) i = (ndT N F boot on cell t i).step N (boot i) (on t i) (agT N F boot on cell t i) := by
  unfold agT; rw [heldO_bt]; rfl
noncomputable def pwT (t i : Nat) : Int × Int × Int := pwM (boot i) (ndT N F boot on cell t i) (on t i)
noncomputable def comT (t i : Nat) : Int := commonF N (agT N F boot on cell t i)
noncomputable def ageT (t i : Nat) : Int := ageM N (boot i) (on t i) (agT N F boot on cell t i) (ndT N F boot on cell t i)
noncomputable def sayT (t i : Nat) : Bool := on t i && decide ((pwT N F boot on cell t i).1 = 2)
noncomputable def cT (t i : Nat) : List Value := setAge (ageT N F boot on cell t i) (cell t i)
theorem ageT_eq (t i : Nat) : ageT N F boot on cell t i = ownF N (comT N F boot on cell t i) (coldM (pwT N F boot on cell t i)) := rfl
theorem ageT_range (t i : Nat) : -1 ≤ ageT N F boot on cell t i ∧ ageT N F boot on cell t i ≤ 1099511627776 := ownF_range _ _ _
theorem ownT_eq (t i : Nat) : ownT N F boot on cell t i = if sayT N F boot on cell t i = true then ⟨true, cT N F boot on cell t i, tabL (heldO N F on (ownT N F boot on cell) t i)⟩ else rw0 := by
  unfold cT ageT agT
  rw [heldO_bt]
  unfold ownT ownN sayT pwT ndT
  by_cases h : on t i = true ∧ (pwM (boot i) ((btT N F boot on cell t).nd i) (on t i)).1 = 2
  · rw [if_pos h, if_pos (by simp [h.1]; exact h.1 ▸ h.2)]
  · rw [if_neg h, if_neg (by simpa using h)]
variable {N F boot on cell}
theorem bt_ok (hF : ∀ a ∈ F.acts, a.row.ok) (hc : ∀ t i, okL cellK (cell t i) = true) (t : Nat) : (btT N F boot on cell t).R.okR ∧ ∀ i, (ownT N F boot on cell t i).ok := by
  have own_ok : ∀ t, (btT N F boot on cell t).R.okR → ∀ i, (ownT N F boot on cell t i).ok := fun t h i => by
    rw [ownT_eq]
    split
    · refine ⟨setAge_ok (hc _ _) (ageT_range N F boot on cell t i).1 (ageT_range N F boot on cell t i).2, ?_⟩
      rw [heldO_bt]
      exact tabL_ok (held_okR (RingM.okR_hear h _) i)
    · exact ⟨by kernel_rfl, by simp [rw0]⟩
  induction t with
  | zero => exact ⟨RingM.okR_new N F hF, own_ok 0 (RingM.okR_new N F hF)⟩
  | succ t ih =>
    have h1 : (btT N F boot on cell (t + 1)).R.okR := RingM.okR_say (RingM.okR_hear ih.1 _) ih.2
    exact ⟨h1, own_ok (t + 1) h1⟩
theorem bt_say (hF : ∀ a ∈ F.acts, a.row.ok) (hc : ∀ t i, okL cellK (cell t i) = true) : SayP N F on (ownT N F boot on cell) (cT N F boot on cell) (sayT N F boot on cell) where
  on_ := fun t i h => by unfold sayT at h; simp at h; exact h.1
  own_ := fun t i => ownT_eq N F boot on cell t i
  c := fun t i => setAge_ok (hc _ _) (ageT_range N F boot on cell t i).1 (ageT_range N F boot on cell t i).2
  ok := fun t i => (bt_ok hF hc t).2 i

/-! ### power -/
theorem pw_inv (hb : ∀ i, 0 ≤ boot i) (t i : Nat) : ((ndT N F boot on cell t i).s = 0 ∨ (ndT N F boot on cell t i).s = 1 ∨ (ndT N F boot on cell t i).s = 2) ∧ 0 ≤ (ndT N F boot on cell t i).left ∧ (ndT N F boot on cell t i).left ≤ boot i ∧ 0 ≤ (ndT N F boot on cell t i).cold ∧ (ndT N F boot on cell t i).cold ≤ t ∧ (ndT N F boot on cell t i).cold ≤ 1099511627776 := by
  induction t with
  | zero => exact ⟨.inl rfl, Int.le_refl _, hb i, Int.le_refl _, Int.le_refl _, by show (0 : Int) ≤ _; decide⟩
  | succ t ih =>
    have hbi := hb i
    rw [ndT_succ]
    obtain ⟨e1, e2, e3⟩ := (ndT N F boot on cell t i).step_s N (boot i) (on t i) (agT N F boot on cell t i)
    rw [e1, e2, e3]
    generalize ndT N F boot on cell t i = x at *
    unfold pwM
    cases on t i with
    | false =>
      simp only [Bool.false_eq_true, if_false]
      obtain ⟨-, i1, i2, i3, i4, i5⟩ := ih
      exact ⟨.inl trivial, i1, i2, i3, by push_cast; omega, i5⟩
    | true =>
      simp only [if_true]
      unfold pwOn
      rcases ih with ⟨h | h | h, ih⟩ <;> rw [h] <;> simp only [if_true, if_false, show ¬ (0 : Int) = 2 from by decide, show ¬ (1 : Int) = 2 from by decide, show ¬ (1 : Int) = 0 from by decide] <;> (try split) <;> simp <;> omega
/-- power long enough: it is on -/
theorem pw_on (hb : ∀ i, 0 ≤ boot i) {i a : Nat} : ∀ k, (∀ t, a ≤ t → t ≤ a + k → on t i = true) → (ndT N F boot on cell (a + k + 1) i).s = 2 ∨ ((ndT N F boot on cell (a + k + 1) i).s = 1 ∧ (ndT N F boot on cell (a + k + 1) i).left ≤ boot i - (k + 1)) := by
  have one : ∀ t (m : Int), on t i = true → ((ndT N F boot on cell t i).s = 2 ∨ ((ndT N F boot on cell t i).s = 1 ∧ (ndT N F boot on cell t i).left ≤ m) ∨ ((ndT N F boot on cell t i).s = 0 ∧ boot i ≤ m)) →
      (ndT N F boot on cell (t + 1) i).s = 2 ∨ ((ndT N F boot on cell (t + 1) i).s = 1 ∧ (ndT N F boot on cell (t + 1) i).left ≤ m - 1) := fun t m ho hx => by
    rw [ndT_succ]
    obtain ⟨e1, e2, e3⟩ := (ndT N F boot on cell t i).step_s N (boot i) (on t i) (agT N F boot on cell t i)
    rw [e1, e2]
    generalize ndT N F boot on cell t i = x at *
    unfold pwM
    rw [if_pos ho]
    unfold pwOn
    rcases hx with h | ⟨h, h2⟩ | ⟨h, h2⟩ <;> rw [h] <;> simp only [if_true, if_false, show ¬ (0 : Int) = 2 from by decide, show ¬ (1 : Int) = 2 from by decide, show ¬ (1 : Int) = 0 from by decide] <;> (try split) <;> simp <;> omega
  intro k
  induction k with
  | zero =>
    intro h
    obtain ⟨h1, h2, h3, -⟩ := pw_inv (N := N) (F := F) (on := on) (cell := cell) hb a i
    have := one a (boot i) (h a (by omega) (by omega)) (by rcases h1 with h1 | h1 | h1; exact .inr (.inr ⟨h1, Int.le_refl _⟩); exact .inr (.inl ⟨h1, h3⟩); exact .inl h1)
    simpa using this
  | succ k ih =>
    intro h
    have := ih fun t h1 h2 => h t h1 (by omega)
    have h2 := one (a + k + 1) (boot i - (k + 1)) (h _ (by omega) (by omega)) (by rcases this with h | h; exact .inl h; exact .inr (.inl h))
    rcases h2 with h2 | ⟨h2, h3⟩
    · exact .inl h2
    · refine .inr ⟨h2, ?_⟩
      have : a + (k + 1) + 1 = a + k + 1 + 1 := by omega
      rw [this]; push_cast; omega
theorem say_on (hb : ∀ i, 0 ≤ boot i) {i a t : Nat} (h : ∀ t', a ≤ t' → t' ≤ t → on t' i = true) (ht : (a : Int) + boot i ≤ t) : sayT N F boot on cell t i = true := by
  have hat : a ≤ t := by have := hb i; omega
  have h1 := pw_on (N := N) (F := F) (cell := cell) hb (i := i) (a := a) (t - a) (fun t' h1 h2 => h t' h1 (by omega))
  rw [show a + (t - a) + 1 = t + 1 from by omega] at h1
  have h2 := (pw_inv (N := N) (F := F) (on := on) (cell := cell) hb (t + 1) i).2.1
  have h3 : (ndT N F boot on cell (t + 1) i).s = 2 := by
    rcases h1 with h1 | ⟨-, h1⟩
    · exact h1
    · omega
  rw [ndT_succ, ((ndT N F boot on cell t i).step_s N (boot i) (on t i) (agT N F boot on cell t i)).1] at h3
  unfold sayT pwT
  rw [h3, h t hat (Nat.le_refl _)]
  rfl

/-! ### a clock's ages, a clique's run -/
theorem ck_len (t i : Nat) : (ndT N F boot on cell t i).ck.length ≤ 2 * N := by
  cases t with
  | zero => exact Nat.zero_le _
  | succ t =>
    rw [ndT_succ]
    unfold NdM.step
    split
    · show (lastN _ _).length ≤ _
      unfold lastN
      rw [List.length_drop]; omega
    · exact Nat.zero_le _
theorem ck_run {i : Nat} : ∀ m t, m ≤ t → m ≤ 2 * N → (∀ d, d < m → on (t - 1 - d) i = true) → ∃ pre, (ndT N F boot on cell t i).ck = pre ++ (List.range m).map fun j => ageT N F boot on cell (t - m + j) i
  | 0, t, _, _, _ => ⟨(ndT N F boot on cell t i).ck, by simp⟩
  | m + 1, 0, h, _, _ => by omega
  | m + 1, t + 1, h, h2, ho => by
    obtain ⟨pre, e⟩ := ck_run m t (by omega) (by omega) (fun d hd => by have := ho (d + 1) (by omega); rwa [show t + 1 - 1 - (d + 1) = t - 1 - d from by omega] at this)
    have hon := ho 0 (by omega)
    rw [show t + 1 - 1 - 0 = t from by omega] at hon
    rw [ndT_succ]
    have e3 : ((ndT N F boot on cell t i).step N (boot i) (on t i) (agT N F boot on cell t i)).ck = lastN (2 * N) ((ndT N F boot on cell t i).ck ++ [ageT N F boot on cell t i]) := by
      unfold NdM.step
      rw [if_pos hon]
      rfl
    rw [e3, e, List.append_assoc]
    have e4 : ((List.range m).map fun j => ageT N F boot on cell (t - m + j) i) ++ [ageT N F boot on cell t i] = (List.range (m + 1)).map fun j => ageT N F boot on cell (t + 1 - (m + 1) + j) i := by
      rw [List.range_succ, List.map_append]
      simp only [List.map_cons, List.map_nil]
      rw [show t + 1 - (m + 1) = t - m from by omega, show t - m + m = t from by omega]
    rw [e4]
    unfold lastN
    refine ⟨pre.drop ((pre ++ (List.range (m + 1)).map fun j => ageT N F boot on cell (t + 1 - (m + 1) + j) i).length - 2 * N), ?_⟩
    rw [List.drop_append_of_le_length]
    simp; omega
theorem ck_full {i t : Nat} (ht : 2 * N ≤ t) (ho : ∀ d, d < 2 * N → on (t - 1 - d) i = true) : (ndT N F boot on cell t i).ck = (List.range (2 * N)).map fun j => ageT N F boot on cell (t - 2 * N + j) i := by
  obtain ⟨pre, e⟩ := ck_run (N := N) (F := F) (boot := boot) (on := on) (cell := cell) (i := i) (2 * N) t ht (Nat.le_refl _) ho
  have := ck_len (N := N) (F := F) (boot := boot) (on := on) (cell := cell) t i
  rw [e] at this ⊢
  simp at this
  have hp : pre = [] := List.eq_nil_of_length_eq_zero (by omega)
  rw [hp]; rfl
theorem long_run {i : Nat} : ∀ t k : Nat, (k : Int) ≤ (ndT N F boot on cell t i).long → k ≤ t ∧ ∀ d, d < k → on (t - 1 - d) i = true ∧ evenF N (agT N F boot on cell (t - 1 - d) i) (comT N F boot on cell (t - 1 - d) i) = true
  | 0, k, h => by
    have : (ndT N F boot on cell 0 i).long = 0 := rfl
    rw [this] at h
    exact ⟨by omega, fun d hd => by omega⟩
  | t + 1, 0, _ => ⟨Nat.zero_le _, fun d hd => by omega⟩
  | t + 1, k + 1, h => by
    rw [ndT_succ] at h
    unfold NdM.step at h
    by_cases hon : on t i = true
    · rw [if_pos hon] at h
      simp only [longN, cqOn] at h
      by_cases he : evenF N (agT N F boot on cell t i) (commonF N (agT N F boot on cell t i)) = true
      · rw [if_pos he] at h
        obtain ⟨h1, h2⟩ := long_run (i := i) t k (by omega)
        refine ⟨by omega, fun d hd => ?_⟩
        cases d with
        | zero => exact ⟨hon, he⟩
        | succ d =>
          have := h2 d (by omega)
          rwa [show t + 1 - 1 - (d + 1) = t - 1 - d from by omega]
      · rw [if_neg he] at h; omega
    · rw [if_neg hon] at h
      simp only at h; omega
theorem long_ge0 (t i : Nat) : 0 ≤ (ndT N F boot on cell t i).long := by
  induction t with
  | zero => exact Int.le_refl _
  | succ t ih =>
    rw [ndT_succ]
    unfold NdM.step
    split
    · simp only [longN, cqOn]; split <;> omega
    · exact Int.le_refl _
theorem long_step {t i k : Nat} (h1 : on t i = true) (h2 : evenF N (agT N F boot on cell t i) (comT N F boot on cell t i) = true) (h3 : (k : Int) ≤ (ndT N F boot on cell t i).long) (hk : k + 1 ≤ 2 * N) : ((k + 1 : Nat) : Int) ≤ (ndT N F boot on cell (t + 1) i).long := by
  rw [ndT_succ]
  unfold NdM.step
  rw [if_pos h1]
  simp only [longN, cqOn]
  rw [show commonF N (agT N F boot on cell t i) = comT N F boot on cell t i from rfl, if_pos h2]
  push_cast; omega
theorem long_le (t i : Nat) : (ndT N F boot on cell t i).long ≤ 2 * N := by
  cases t with
  | zero => show (0 : Int) ≤ _; omega
  | succ t =>
    rw [ndT_succ]
    unfold NdM.step
    split
    · simp only [longN, cqOn]; split <;> omega
    · simp only; omega
theorem sure_iff (t i : Nat) : (ndT N F boot on cell (t + 1) i).sure = true ↔ on t i = true ∧ (ndT N F boot on cell (t + 1) i).long = 2 * N := by
  rw [ndT_succ]
  unfold NdM.step
  by_cases h : on t i = true
  · rw [if_pos h]; simp [h]
  · rw [if_neg h]; simp [h]
theorem shows_on {t i : Nat} (h : on t i = true) : (ndT N F boot on cell (t + 1) i).shows = showF (ndT N F boot on cell (t + 1) i).ck := by
  rw [ndT_succ]
  unfold NdM.step
  rw [if_pos h]
end
end Go.Proofs.Ytbdklfcgcmdgaaa
