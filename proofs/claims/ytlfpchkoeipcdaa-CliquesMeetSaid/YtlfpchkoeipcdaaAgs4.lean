/-
  sennitref16.Common, walked.
-/
import Derived.Test.YtlfpchkoeipcdaaAgs2
import Derived.Deep.CutBlock
import Derived.Deep.CutRange
namespace Go.Proofs.Ytlfpchkoeipcdaa
open Go.RowKit
set_option linter.unusedVariables false
set_option linter.unusedSimpArgs false

theorem app_i64 : AppOk Try.prog 23 2 1 := appOk_of Try.underlying23 (by kernel_rfl)
def OwnI (w0 : World) (v : Value) (l : List Int) (wr : World) : Prop := wr.ownsRow w0.heap.size 2 1 v l.length (l.map (Value.int .i64)) ∧ Below w0.heap.size w0 wr
theorem OwnI.start (w : World) : OwnI w (.slice none 0 0) [] w := ⟨World.ownsRow_nil _ _ _ _, Below.refl _ _⟩
theorem own_some {w : World} {base : Nat} {e : TypeId} {v : Value} {n : Nat} {l : List Int} (h : w.ownsRow base e 1 v n (l.map (Value.int .i64))) (hn : 0 < n) : ∃ g cap, v = .slice (some ⟨g, 0, none⟩) n cap ∧ base ≤ g ∧ g < w.heap.size ∧ ∀ (j : Nat) (x : Int), l[j]? = some x → w.cell? ⟨g, j, none⟩ = some (.int .i64 x) := by
  rcases id h.2 with ⟨rfl, h0⟩ | ⟨g, cap, cur, rfl, hb, hg, -⟩
  · omega
  · refine ⟨g, cap, rfl, hb, (h.lt g rfl).2, fun j x hx => ?_⟩
    have := h.cells (g := g) rfl j (.int .i64 x) (by rw [List.getElem?_map, hx]; rfl)
    rwa [add_at, Nat.zero_add] at this
def sameN (l : List Int) (x : Int) : Nat := l.countP fun y => decide (y = x)
theorem lessN_succ {l : List Int} {k : Nat} {y : Int} (h : l[k]? = some y) (x : Int) : lessN (l.take (k + 1)) x = lessN (l.take k) x + if y < x then 1 else 0 := by
  unfold lessN
  rw [List.take_add_one, h, List.countP_append]
  simp [List.countP_cons]
theorem sameN_succ {l : List Int} {k : Nat} {y : Int} (h : l[k]? = some y) (x : Int) : sameN (l.take (k + 1)) x = sameN (l.take k) x + if y = x then 1 else 0 := by
  unfold sameN
  rw [List.take_add_one, h, List.countP_append]
  simp [List.countP_cons]
theorem lessN_le (l : List Int) (x : Int) : lessN l x ≤ l.length := List.countP_le_length
theorem sameN_le (l : List Int) (x : Int) : sameN l x ≤ l.length := List.countP_le_length
/-- the one of the middle: by counting -/
def midP (l : List Int) (x : Int) : Prop := lessN l x ≤ (l.length - 1) / 2 ∧ (l.length - 1) / 2 < lessN l x + sameN l x
theorem midP_eq {l : List Int} (h : 0 < l.length) {x : Int} : midP l x → x = medI l := fun ⟨h1, h2⟩ => medI_unique h h1 (by rw [mostN_eq]; exact h2)
theorem mid_is {l : List Int} (h : 0 < l.length) : ∃ j : Nat, l[j]? = some (medI l) ∧ midP l (medI l) := by
  obtain ⟨j, hj⟩ := List.mem_iff_getElem?.1 (medI_mem h)
  obtain ⟨h1, h2⟩ := medI_spec h
  rw [mostN_eq] at h2
  exact ⟨j, hj, h1, h2⟩

set_option maxRecDepth 100000 in
set_option maxHeartbeats 4000000 in
theorem rcommon_in (S : Nat → Prop) (m : Nat) (h4 : 4 ≤ m) (h16 : m ≤ 16) (a : Option Addr) (len cap : Nat) (L : List Hd) (w : World) (hrd : RdHs S w a len L) (hm1 : len ≤ cap) (hm2 : cap ≤ maxLen) :
    Calls Try.prog 14 #[.int .i64 m, .slice a len cap] w fun e w' => e = .returned (.int .i64 (commonF m L)) ∧ Below w.heap.size w w' := by
  unfold maxLen at hm2
  obtain ⟨M, hM⟩ : ∃ M : Nat, M = min m len := ⟨_, rfl⟩
  have hMl : M ≤ len := by omega
  have hMm : M ≤ m := by omega
  have hMx : M = m ∨ M = len := by omega
  have htk : L.take (m : Int).toNat = L.take M := by
    rw [hM, Int.toNat_natCast]
    rcases Nat.le_total m len with h | h
    · rw [Nat.min_eq_left h]
    · rw [Nat.min_eq_right h, List.take_of_length_le (by rw [hrd.1]; exact h), List.take_of_length_le (by rw [hrd.1]; exact Nat.le_refl _)]
  have hcF : commonF m L = if ((agesOf (L.take M)).length : Int) < m - 1 then -1 else medI (agesOf (L.take M)) := by
    unfold commonF
    rw [if_pos (by omega), htk]
  have hlen := agesOf_len (L.take M)
  rw [List.length_take] at hlen
  rw [hcF]
  obtain ⟨xs, hxs⟩ : ∃ xs, xs = agesOf (L.take M) := ⟨_, rfl⟩
  rw [← hxs] at hlen ⊢
  have HR := Lib.hid (And.intro hrd hxs)
  obtain ⟨res, hres⟩ : ∃ res : Int, res = if (xs.length : Int) < m - 1 then -1 else medI xs := ⟨_, rfl⟩
  rw [← hres]
  have HRES := Lib.hid hres
  clear hrd hM htk hcF hxs hres
  have h4' : ¬ (m : Int) < 4 := by omega
  have h16' : ¬ 16 < (m : Int) := by omega
  go_enter Try.func14, Try.ntmps14
  go_upto_block 0 with fail
  go_cut [5, 6] from 18 to 60 (fun v5 v6 wx => OwnI w v5 xs wx)
  case first =>
    have HS := Lib.hid (OwnI.start w)
    go_wp2_with fail
    go_loopw [5, 6] (fun v i wr => ∃ k : Nat, k ≤ M ∧ i = .int .i64 k ∧ OwnI w v (agesOf (L.take k)) wr) (fun _ i _ => M - (intOf i).toNat)
    case atStart => exact ⟨0, by omega, rfl, by simpa [agesOf] using HS.out⟩
    case round =>
      obtain ⟨k, hk, rfl, hr⟩ := hrel
      by_cases hlt : k < M
      · obtain ⟨b, off, is, n, r, rfl, hS, hbw, hlk, hok, hlr, hlc1, h1, h2, h3, h4, h5, h6, h7, h8⟩ := HR.out.1.at_ k (by omega)
        have g0 : wr.cell? ⟨b, off + k * 56, none⟩ = some (.bool is) := (hr.2.cell (p := ⟨b, off + k * 56, none⟩) hbw).trans h5
        have g1 : wr.cell? ⟨b, off + k * 56 + 1, none⟩ = some (.int .i64 n) := (hr.2.cell (p := ⟨b, off + k * 56 + 1, none⟩) hbw).trans h6
        have hkl : k < len := by omega
        have hkm : k < m := by omega
        have hsc := agesOf_succ hlk
        have e1 : oneAge ⟨is, .int .i64 n :: r⟩ = if is && okI n then [n] else [] := by simp [oneAge, okAge, ageL]
        rw [e1] at hsc
        have hal : (agesOf (L.take k)).length ≤ 16 := by
          have := agesOf_len (L.take k)
          rw [List.length_take] at this
          omega
        have HK := Lib.hid (And.intro hr hsc)
        have hsz := hr.2.size
        clear hr hsc e1 h1 h2 h3 h4 h5 h6 hlk hok hlr hlc1
        have hno : (is && okI n) = false → OwnI w u5 (agesOf (L.take (k + 1))) wr := fun h => by rw [HK.out.2, h]; simpa using HK.out.1
        have HN := Lib.hid hno
        clear hno
        cases is with
        | false =>
          go_wp2_with fail
          exact ⟨⟨k + 1, by omega, by go_num, HN.out rfl⟩, by simp [intOf]; omega⟩
        | true =>
          by_cases hn0 : 0 ≤ n
          · by_cases hn1 : n ≤ 1099511627776
            · have hy : (true && okI n) = true := by simp [okI, hn0, hn1]
              have HY := Lib.hid hy
              clear hy
              generalize agesOf (L.take k) = ys at HK hal
              go_wp2_with (at_builtin; refine wpList_app app_i64 (by rfl) (.tmp 52) (.tmp 59) (by rfl) w.heap.size _ _ _ (by rfl) (HK.out.1.1.alloc _) ⟨wr.heap.size, 0, none⟩ 1 1 [.int .i64 n] (by rfl) (by simp) (hasRow_new wr _ _ 0 1 (by simp)) ((rowOf_new wr _ _ 0 1 (by simp)).trans rfl) (by simp [cell1]) (by omega) (by simp; omega) ?_; intro v1 w1 hown1 hgrow; have HG := Lib.hid (And.intro hown1 hgrow); clear hown1 hgrow)
              refine ⟨⟨k + 1, by omega, by go_num, ?_⟩, by simp [intOf]; omega⟩
              rw [HK.out.2, HY.out, if_pos rfl]
              refine ⟨by simpa using HG.out.1, ((HK.out.1.2.alloc hsz _)).grown HG.out.2 (by simp; omega) (fun q hq => (HK.out.1.1.lt q hq).1)⟩
            · have hn1' : 1099511627776 < n := by omega
              go_wp2_with fail
              exact ⟨⟨k + 1, by omega, by go_num, HN.out (by simp [okI, hn1])⟩, by simp [intOf]; omega⟩
          · go_wp2_with fail
            exact ⟨⟨k + 1, by omega, by go_num, HN.out (by simp [okI, hn0])⟩, by simp [intOf]; omega⟩
      · have hkM : k = M := by omega
        subst hkM
        have H := Lib.hid hr
        clear hr
        have hfin : OwnI w u5 xs wr := by rw [HR.out.2]; exact H.out
        have HF := Lib.hid hfin
        clear hfin
        by_cases hkm : k < m
        · have hkl : ¬ k < len := by omega
          go_wp2_with fail
          go_meet
          exact HF.out
        · go_wp2_with fail
          go_meet
          exact HF.out
  case rest =>
    have HC := Lib.hid hcut
    clear hcut
    have hx16 : xs.length ≤ 16 := by omega
    clear hlen hMx
    by_cases hfew : (xs.length : Int) < m - 1
    · obtain ⟨va, vc, rfl⟩ := own_slice HC.out.1
      go_wp2_with fail
      go_ret
      exact ⟨by rw [HRES.out, if_pos hfew]; rfl, HC.out.2⟩
    · have hpos : 0 < xs.length := by omega
      obtain ⟨g, cp, rfl, hgb, hgl, hcs⟩ := own_some HC.out.1 hpos
      obtain ⟨at0, hat⟩ : ∃ at0, at0 = (xs.length - 1) / 2 := ⟨_, rfl⟩
      have hati : ((xs.length : Int) - 1) / 2 = (at0 : Int) := by omega
      have HAT := Lib.hid hat
      have HCS := Lib.hid hcs
      have hat16 : at0 ≤ 16 := by omega
      clear hat hcs
      go_wp2_with fail
      go_loopw [7] (fun i wr => ∃ k : Nat, k ≤ xs.length ∧ i = .int .i64 k ∧ (∀ (j : Nat) (x : Int), j < k → xs[j]? = some x → ¬ midP xs x) ∧ wr.heap = wc.heap ∧ Chg (fun _ => False) wc wr) (fun i _ => xs.length - (intOf i).toNat)
      case atStart => exact ⟨0, by omega, rfl, fun j x h => by omega, rfl, Chg.refl _ _⟩
      case round =>
        obtain ⟨k, hk, rfl, hno, hhp, hch⟩ := hrel
        by_cases hlt : k < xs.length
        · obtain ⟨x, hx⟩ : ∃ x, xs[k]? = some x := ⟨_, List.getElem?_eq_getElem hlt⟩
          have HX := Lib.hid (And.intro hx (And.intro hno (And.intro hhp hch)))
          clear hx hno hhp hch
          obtain ⟨wo, rfl⟩ : ∃ wo : World, wo = wr := ⟨_, rfl⟩
          go_wp2_with fail
          go_loopw [8, 9, 10] (fun le sa i wi => ∃ j : Nat, j ≤ xs.length ∧ i = .int .i64 j ∧ le = .int .i64 (lessN (xs.take j) x : Nat) ∧ sa = .int .i64 (sameN (xs.take j) x : Nat) ∧ wi.heap = wc.heap ∧ Chg (fun _ => False) wc wi) (fun _ _ i _ => xs.length - (intOf i).toNat)
          case atStart => exact ⟨0, by omega, rfl, rfl, rfl, HX.out.2.2.1, HX.out.2.2.2⟩
          case round =>
            obtain ⟨j, hj, rfl, rfl, rfl, hhp, hch⟩ := hrel
            have hb1 : lessN (xs.take j) x ≤ 16 := Nat.le_trans (lessN_le _ _) (by rw [List.length_take]; omega)
            have hb2 : sameN (xs.take j) x ≤ 16 := Nat.le_trans (sameN_le _ _) (by rw [List.length_take]; omega)
            by_cases hjl : j < xs.length
            · obtain ⟨y, hy⟩ : ∃ y, xs[j]? = some y := ⟨_, List.getElem?_eq_getElem hjl⟩
              have cj : wr.cell? ⟨g, j, none⟩ = some (.int .i64 y) := (World.cell?_of_block (by rw [hhp])).trans (HCS.out j y hy)
              have ck : wr.cell? ⟨g, k, none⟩ = some (.int .i64 x) := (World.cell?_of_block (by rw [hhp])).trans (HCS.out k x HX.out.1)
              have HJ := Lib.hid (And.intro (lessN_succ hy x) (And.intro (sameN_succ hy x) (And.intro hhp hch)))
              clear hy hhp hch
              generalize lessN (xs.take j) x = p at *
              generalize sameN (xs.take j) x = q at *
              rcases Int.lt_trichotomy y x with h | h | h
              · have hne : ¬ y = x := by omega
                have hb : (y == x) = false := by simpa using hne
                go_wp2_with fail
                go_quiet (fail)
                go_wp2_with fail
                go_quiet (fail)
                go_wp2_with fail
                exact ⟨⟨j + 1, by omega, by go_num, by rw [HJ.out.1, if_pos h]; go_num, by rw [HJ.out.2.1, if_neg hne]; go_num, HJ.out.2.2.1, (HJ.out.2.2.2.drewN _)⟩, by simp [intOf]; omega⟩
              · subst h
                have hb : (y == y) = true := by simp
                go_wp2_with fail
                go_quiet (fail)
                go_wp2_with fail
                go_quiet (fail)
                go_wp2_with fail
                exact ⟨⟨j + 1, by omega, by go_num, by rw [HJ.out.1, if_neg (by omega)]; go_num, by rw [HJ.out.2.1]; simp, HJ.out.2.2.1, (HJ.out.2.2.2.drewN _)⟩, by simp [intOf]; omega⟩
              · have hne : ¬ y = x := by omega
                have hnl : ¬ y < x := by omega
                have hb : (y == x) = false := by simpa using hne
                go_wp2_with fail
                go_quiet (fail)
                go_wp2_with fail
                go_quiet (fail)
                go_wp2_with fail
                exact ⟨⟨j + 1, by omega, by go_num, by rw [HJ.out.1, if_neg (by omega)]; go_num, by rw [HJ.out.2.1, if_neg hne]; go_num, HJ.out.2.2.1, (HJ.out.2.2.2.drewN _)⟩, by simp [intOf]; omega⟩
            · rw [List.take_of_length_le (by omega)] at hb1 hb2 ⊢
              have ck : wr.cell? ⟨g, k, none⟩ = some (.int .i64 x) := (World.cell?_of_block (by rw [hhp])).trans (HCS.out k x HX.out.1)
              have HJ := Lib.hid (And.intro hhp hch)
              obtain ⟨p, hp⟩ : ∃ p, p = lessN xs x := ⟨_, rfl⟩
              obtain ⟨q, hq⟩ : ∃ q, q = sameN xs x := ⟨_, rfl⟩
              rw [← hp] at hb1
              rw [← hq] at hb2
              rw [← hp, ← hq]
              have HP := Lib.hid (And.intro hp hq)
              clear hhp hch hp hq
              by_cases h1 : p ≤ at0
              · by_cases h2 : at0 < p + q
                · have hmid : midP xs x := ⟨by rw [← HP.out.1, ← HAT.out]; exact h1, by rw [← HP.out.1, ← HP.out.2, ← HAT.out]; exact h2⟩
                  have hxm := midP_eq hpos hmid
                  have HXM := Lib.hid hxm
                  clear hmid hxm
                  go_wp2_with fail
                  go_ret
                  refine ⟨by rw [HRES.out, if_neg (by omega), ← HXM.out]; rfl, ?_⟩
                  exact ⟨HJ.out.2.os.trans HC.out.2.os, HJ.out.2.tape.trans HC.out.2.tape, HJ.out.2.output.trans HC.out.2.output, Nat.le_trans HC.out.2.size HJ.out.2.size, fun b hb => (by rw [HJ.out.1]; exact HC.out.2.block b hb)⟩
                · have hno' : ∀ (j : Nat) (y : Int), j < k + 1 → xs[j]? = some y → ¬ midP xs y := fun j y hj hy hm => by
                    by_cases hjk : j = k
                    · subst hjk
                      rw [HX.out.1] at hy
                      cases hy
                      have := hm.2
                      rw [← HP.out.1, ← HP.out.2, ← HAT.out] at this
                      exact h2 this
                    · exact HX.out.2.1 j y (by omega) hy hm
                  have HN := Lib.hid hno'
                  clear hno'
                  go_wp2_with fail
                  exact ⟨⟨k + 1, by omega, by go_num, HN.out, HJ.out.1, HJ.out.2⟩, by simp [intOf]; omega⟩
              · have hno' : ∀ (j : Nat) (y : Int), j < k + 1 → xs[j]? = some y → ¬ midP xs y := fun j y hj hy hm => by
                  by_cases hjk : j = k
                  · subst hjk
                    rw [HX.out.1] at hy
                    cases hy
                    have := hm.1
                    rw [← HP.out.1, ← HAT.out] at this
                    exact h1 this
                  · exact HX.out.2.1 j y (by omega) hy hm
                have HN := Lib.hid hno'
                clear hno'
                go_wp2_with fail
                exact ⟨⟨k + 1, by omega, by go_num, HN.out, HJ.out.1, HJ.out.2⟩, by simp [intOf]; omega⟩
        · exfalso
          obtain ⟨j, h1, h2⟩ := mid_is hpos
          exact hno j _ (by have := (List.getElem?_eq_some_iff.1 h1).1; omega) h1 h2
theorem rcommon_any (S : Nat → Prop) (n : Int) (a : Option Addr) (len cap : Nat) (L : List Hd) (w : World) (hrd : RdHs S w a len L) (hm1 : len ≤ cap) (hm2 : cap ≤ maxLen) :
    Calls Try.prog 14 #[.int .i64 n, .slice a len cap] w fun e w' => e = .returned (.int .i64 (commonF n L)) ∧ Below w.heap.size w w' := by
  by_cases h : 4 ≤ n ∧ n ≤ 16
  · obtain ⟨m, rfl⟩ : ∃ m : Nat, n = m := ⟨n.toNat, by omega⟩
    exact rcommon_in S m (by omega) (by omega) a len cap L w hrd hm1 hm2
  · have e2 : commonF n L = -1 := by unfold commonF; rw [if_neg h]
    rw [e2]
    have h' : n < 4 ∨ 16 < n := by omega
    clear h e2
    rcases h' with h | h
    all_goals
      go_enter Try.func14, Try.ntmps14
      go_wp2_with fail
      go_ret
      exact ⟨rfl, Below.refl _ _⟩
end Go.Proofs.Ytlfpchkoeipcdaa
