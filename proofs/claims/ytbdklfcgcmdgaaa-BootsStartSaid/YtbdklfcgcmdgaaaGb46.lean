/-
  sennitlaw14.TracksTruth, walked.
-/
import Derived.Test.YtbdklfcgcmdgaaaGb35
import Derived.WalkSpells
namespace Go.Proofs.Ytbdklfcgcmdgaaa
open Go.RowKit
set_option linter.unusedVariables false
set_option linter.unusedSimpArgs false

/-- what came in is read alone; all else is nobody's -/
def tagW (w : World) (b : Nat) : Nat := if b < w.heap.size then 0 else 98
theorem tagW_lo {w : World} {b : Nat} (h : b < w.heap.size) : tagW w b = 0 := if_pos h
theorem tagW_hi {w : World} {b : Nat} (h : w.heap.size ≤ b) : tagW w b = 98 := if_neg (by omega)
/-- a ring is made; the state of a law over it -/
theorem LSt.start {N : Nat} {F : FltM} {av : Value} {w w0 wm : World} {e : Ending} (f : Nat → List Rw) (hb : Below w.heap.size w w0) (h : NewRingP (tagW w0) N F av w0 e wm) (on : Nat → Nat → Bool) (own : Nat → Nat → Rw) :
    ∃ rg tag P, e = .returned (.pointer (some ⟨rg, 0, none⟩)) ∧ LSt f 0 w rg av (rgT N F on own 0) tag P (.slice none 0 0) [] wm := by
  obtain ⟨rg, tag, P, rfl, h1, h2, h3, h4⟩ := h
  have hs := hb.size
  exact ⟨rg, tag, P, rfl, h1, WasB.start _ _ _ _, fun b hbl => by rw [h2 b (by omega)]; exact tagW_lo (by omega), hb.trans (h4.mono hs)⟩
/-- the switches being laid -/
theorem onL_step {N i : Nat} (hi : i < N) : (onL N fun j => decide (j < i)).set i (.bool true) = onL N fun j => decide (j < i + 1) := by
  have := onL_set (N := N) (on := fun j => decide (j < i)) (on' := fun j => decide (j < i + 1)) (i := i) (fun j _ hne => by
    have : (j < i + 1) = (j < i) := by simp; omega
    simp only [this])
  simpa using this
set_option maxRecDepth 100000 in
set_option maxHeartbeats 8000000 in
theorem truth_any (p : Int) (hp : 0 ≤ p ∧ p ≤ 255) (N : Nat) (hN : 4 + p % 13 = (N : Int)) (F : FltM) (aa : Option Addr) (an ac : Nat) (sa : Option Addr) (sl sc : Nat) (S : List Rw) (w : World)
    (hA : RdAs (· < w.heap.size) w aa an F.acts) (ha1 : an ≤ ac) (ha2 : ac ≤ maxLen) (ha3 : an ≤ 140737488355328) (hfz : ∀ x ∈ F.acts, x.row.t.length ≤ 140737488355328) (hf : F.at_ < 256 ∧ F.which < 256)
    (hS : RdRs (· < w.heap.size) w sa sl S) (hs1 : sl ≤ sc) (hs2 : sc ≤ maxLen) (hsz : szW S) :
    Calls Try.prog 5 #[.int .u8 p, .agg (F.vals (.slice aa an ac)).toArray, .slice sa sl sc] w fun e w' => e = .returned (.bool true) ∧ Below w.heap.size w w' := by
  have h4 : 4 ≤ N := by omega
  have h16 : N ≤ 16 := by omega
  obtain ⟨hp0, hp1⟩ := hp
  have HA := Lib.hid hA
  have HF := Lib.hid hf
  have HS := Lib.hid hS
  have HFG : Hid (∀ w' : World, Below w.heap.size w w' → Calls Try.prog 28 #[.agg #[.bool F.link, .int .u8 F.at_, .int .u8 F.which, .slice aa an ac]] w' (FGreat w')) := Lib.hid fun w' hb =>
    fgreat_any (· < w.heap.size) F aa an ac w' (hA.below hb) ha1 ha2 ha3 hfz
  have HFL : Hid (∀ w' : World, Below w.heap.size w w' → Calls Try.prog 29 #[.slice sa sl sc] w' (LightPost sl S w')) := Lib.hid fun w' hb =>
    light_any (· < w.heap.size) sa sl sc S w' (hS.keep hb.size fun b hb' _ => hb.block b hb') hs1 hs2 hsz
  have HNR : Hid (∀ w' : World, Below w.heap.size w w' → Calls Try.prog 30 #[.int .i64 N, .agg #[.bool F.link, .int .u8 F.at_, .int .u8 F.which, .slice aa an ac]] w' (NewRingP (tagW w') N F (.slice aa an ac) w')) := Lib.hid fun w' hb =>
    newRing_any (tagW w') N F aa an ac w' h4 h16 hf (fun b hb => tagW_hi hb) ((hA.below hb).mono fun b hbl _ => ⟨tagW_lo hbl, hbl⟩) ha1 ha2 ha3
  have HB0 : Hid (Below w.heap.size w (w.alloc (.cells #[.bool F.link, .int .u8 F.at_, .int .u8 F.which, .slice aa an ac] 88))) := Lib.hid ((Below.refl _ _).alloc (Nat.le_refl _) _)
  have HK0 : Hid (Blk (w.alloc (.cells #[.bool F.link, .int .u8 F.at_, .int .u8 F.which, .slice aa an ac] 88)) w.heap.size 88 #[.bool F.link, .int .u8 F.at_, .int .u8 F.which, .slice aa an ac]) := Lib.hid (Blk.new _ _ _)
  clear hA hS hf hfz hsz
  show Calls _ _ #[.int .u8 p, .agg #[.bool F.link, .int .u8 F.at_, .int .u8 F.which, .slice aa an ac], .slice sa sl sc] w _
  go_enter Try.func5, Try.ntmps5
  go_upto_region 1 with fail
  generalize w.alloc (.cells #[.bool F.link, .int .u8 F.at_, .int .u8 F.which, .slice aa an ac] 88) = w0 at HB0 HK0 ⊢
  have c0 := HK0.out.cell 0
  have c1 := HK0.out.cell 1
  have c2 := HK0.out.cell 2
  have c3 := HK0.out.cell 3
  simp at c0 c1 c2 c3
  go_wp2_with fail
  (with_reducible refine (HFG.out w0 HB0.out).mono ?_)
  rintro e w1 ⟨⟨bb, rfl⟩, hb1⟩
  have HB1 := Lib.hid (HB0.out.trans (hb1.mono HB0.out.size))
  have HK1 := Lib.hid (HK0.out.below hb1 HK0.out.lt)
  clear hb1 c0 c1 c2 c3
  cases bb with
  | true =>
    go_wp2_with fail
    refine (lives14_any w1).mono ?_
    rintro e w2 ⟨rfl, hb2⟩
    have HE := Lib.hid (HB1.out.trans (hb2.mono HB1.out.size))
    clear hb2
    go_wp2_with fail
    go_ret
    exact ⟨rfl, HE.out⟩
  | false =>
    go_wp2_with fail
    (with_reducible refine (HFL.out w1 HB1.out).mono ?_)
    rintro e w2 ⟨⟨lb, rfl, hlb⟩, hb2⟩
    have HB2 := Lib.hid (HB1.out.trans (hb2.mono HB1.out.size))
    have HK2 := Lib.hid (HK1.out.below hb2 HK1.out.lt)
    clear hb2
    cases lb with
    | false =>
      clear hlb
      go_wp2_with fail
      refine (lives14_any w2).mono ?_
      rintro e w3 ⟨rfl, hb3⟩
      have HE := Lib.hid (HB2.out.trans (hb3.mono HB2.out.size))
      clear hb3
      go_wp2_with fail
      go_ret
      exact ⟨rfl, HE.out⟩
    | true =>
      have hl200 := (hlb rfl).1
      clear hlb
      have c0 := HK2.out.cell 0
      have c1 := HK2.out.cell 1
      have c2 := HK2.out.cell 2
      have c3 := HK2.out.cell 3
      simp at c0 c1 c2 c3
      have hb0 : 0 ≤ p % 13 := by omega
      have hb13 : p % 13 < 13 := by omega
      go_wp2_with fail
      (with_reducible refine (HNR.out w2 HB2.out).mono ?_)
      rintro e w3 hnr
      obtain ⟨rg, tag, P, rfl, hst⟩ := LSt.start (fun τ => (tab N (ownS S N τ)).map (Rw.plain N)) HB2.out hnr (fun _ _ => true) (ownS S N)
      have HST := Lib.hid hst
      clear hst hnr c0 c1 c2 c3 hN hb0 hb13 HNR HFG HFL
      have hm : madeOk (.int .i64 (N : Int)) (.int .i64 (N : Int)) = true := by simp [madeOk]; omega
      go_upto_region 8 with fail
      have hk1 : Blk (w3.alloc (.cells (zrep [Value.bool false] N).toArray 4)) w3.heap.size 4 (onL N fun j => decide (j < 0)).toArray := by
        have := Blk.new w3 4 (zrep [Value.bool false] N).toArray
        rw [zrep_onL] at this
        rw [show (onL N fun j => decide (j < 0)) = onL N fun _ => false from by simp]
        rw [zrep_onL]
        exact this
      have HK3 := Lib.hid hk1
      have HST2 := Lib.hid (HST.out.below ((Below.refl _ _).alloc (Nat.le_refl _) (.cells (zrep [Value.bool false] N).toArray 4)))
      have HOT := Lib.hid (HST.out.r.tg w3.heap.size (Nat.le_refl _))
      generalize w3.alloc (.cells (zrep [Value.bool false] N).toArray 4) = w4 at HK3 HST2 ⊢
      have hob0 : w.heap.size ≤ w3.heap.size := HST.out.bel.size
      clear HST hk1
      generalize w3.heap.size = ob at HK3 HOT hob0 ⊢
      go_wp2_with fail
      go_loopw [10] (fun i wr => ∃ k : Nat, k ≤ N ∧ i = .int .i64 k ∧ LSt (fun τ => (tab N (ownS S N τ)).map (Rw.plain N)) 0 w rg (.slice aa an ac) (rgT N F (fun _ _ => true) (ownS S N) 0) tag P (.slice none 0 0) [] wr ∧ Blk wr ob 4 (onL N fun j => decide (j < k)).toArray) (fun i _ => N - (intOf i).toNat)
      case atStart => exact ⟨0, by omega, rfl, HST2.out, HK3.out⟩
      case round =>
        obtain ⟨k, hk, rfl, hst, hkb⟩ := hrel
        by_cases hlt : k < N
        · have hlt1 : (k : Int) < N := by omega
          have hlt0 : (0 : Int) ≤ k := by omega
          obtain ⟨cb, hcb⟩ : ∃ cb, wr.cell? ⟨ob, k, none⟩ = some cb := ⟨_, by rw [hkb.cell]; simp only [List.getElem?_toArray]; exact onL_at hlt⟩
          have zb := hkb.frozen k
          have HN1 := Lib.hid (hst.own_ (g := ob) ((Chg.refl _ _).set_at k (.bool true)) HOT.out (by simp [Value.ownBlock]) hob0)
          have hb2 := hkb.set_ k (.bool true)
          rw [List.setIfInBounds_toArray, onL_step hlt] at hb2
          have HN2 := Lib.hid hb2
          clear hst hkb hb2
          go_wp2_with fail
          exact ⟨⟨k + 1, by omega, by go_num, HN1.out, HN2.out⟩, by simp [intOf]; omega⟩
        · have hlt1 : ¬ (k : Int) < N := by omega
          obtain rfl : N = k := by omega
          have HST3 := Lib.hid hst
          have hon : (onL N fun j => decide (j < N)) = onL N fun _ => true := onL_congr (fun j hj => by simp [hj])
          rw [hon] at hkb
          have HK4 := Lib.hid hkb
          clear hst hkb hon HST2 HK3
          clear hk
          go_wp2_with fail
          go_loopw [11, 12] (fun s11 s12 wr => ∃ (t : Nat) (tag : Nat → Nat) (P : RgP) (xs : List Value) (a : Option Addr) (cap : Nat), t ≤ 60 ∧ s12 = .int .i64 t ∧ s11 = .slice a t cap ∧ LSt (fun τ => (tab N (ownS S N τ)).map (Rw.plain N)) t w rg (.slice aa an ac) (rgT N F (fun _ _ => true) (ownS S N) t) tag P (.slice a t cap) xs wr ∧ Blk wr ob 4 (onL N fun _ => true).toArray ∧ tag ob = 98) (fun _ t _ => 60 - (intOf t).toNat)
          case atStart => exact ⟨0, tag, P, [], none, 0, by omega, rfl, rfl, HST3.out, HK4.out, HOT.out⟩
          case round =>
            clear HST3 HK4 HOT
            obtain ⟨t, tag, P, xs, a, cap, ht, rfl, rfl, hst, hkb, hot⟩ := hrel
            have HST := Lib.hid hst
            have HKB := Lib.hid hkb
            have HOT := Lib.hid hot
            clear hst hkb hot
            by_cases hlt : t < 2 * N + 6
            · have hlt1 : (t : Int) < 2 * (N : Int) + 6 := by omega
              obtain ⟨W, rfl⟩ : ∃ W, W = wr := ⟨_, rfl⟩
              go_upto_region 17 with fail
              have hWw : w.heap.size ≤ W.heap.size := HST.out.bel.size
              have HOI := Lib.hid (OwnI.start W (· < w.heap.size) (fun b hb => Nat.lt_of_lt_of_le hb hWw) (ownS S N t) N)
              generalize W.alloc (.cells (zrep rowZ N).toArray 54) = w5 at HOI ⊢
              obtain ⟨tn, htn⟩ : ∃ tn, tn = t * N := ⟨_, rfl⟩
              have e1 : (t : Int) * (N : Int) = (tn : Int) := by rw [htn]; push_cast; rfl
              have htnl : tn ≤ 1000 := by rw [htn]; exact Nat.le_trans (Nat.mul_le_mul (by omega : t ≤ 38) h16) (by omega)
              have HTN := Lib.hid htn
              have wr1 : IntKind.i64.wrap (tn : Int) = tn := IntWalk.i64_in _ (by omega)
              clear htn
              go_upto_block 4 with fail
              go_cut [14] from 56 to 79 (fun s14 wx => ∃ wc : World, wc = wx ∧ OwnDone w W (ownS S N t) N wc)
              case first =>
                go_wp2_with fail
                go_loopw [14] (fun s14 wq => ∃ s : Nat, s ≤ N ∧ s14 = .int .i64 s ∧ OwnI W (· < w.heap.size) (ownS S N t) N s wq) (fun s _ => N - (intOf s).toNat)
                case atStart => exact ⟨0, by omega, rfl, HOI.out⟩
                case round =>
                  obtain ⟨s, hs, rfl, hoi⟩ := hrel
                  by_cases hsN : s < N
                  · have hsN1 : (s : Int) < N := by omega
                    have hs0 : (0 : Int) ≤ s := by omega
                    by_cases hsl : sl = 0
                    · subst hsl
                      have HD := Lib.hid (hoi.done (w := w) fun s' _ _ => ownS_nil HS.out.1 N t s')
                      clear hoi
                      go_wp2_with fail
                      go_meet
                      exact ⟨_, rfl, HD.out⟩
                    · obtain ⟨j, hj⟩ : ∃ j, (tn + s) % sl = j := ⟨_, rfl⟩
                      have hjl : j < sl := by rw [← hj]; exact Nat.mod_lt _ (by omega)
                      obtain ⟨b, off, x, m, cp, r, rfl, hSb, hbw, hv, hok, hrl, hrc1, hr1, hr2, hr3, hr4, hr5, hr6, hr7⟩ := HS.out.at_ j hjl
                      have hbq := hoi.bel
                      have hd := row_below hbq (p := ⟨b, off + j * 57, none⟩) (by show b < _; omega) 57
                      have hd0 := row_below HST.out.bel (p := ⟨b, off + j * 57, none⟩) hbw 57
                      have hrow : RowR (· < w.heap.size) wr r (.slice x m cp) := ((show RowR (· < w.heap.size) w r (.slice x m cp) from ⟨x, m, cp, rfl, hr5, hr6, hr7⟩).keep HST.out.bel.size fun b hb _ => HST.out.bel.block b hb).keep hbq.size fun b hb _ => hbq.block b (Nat.lt_of_lt_of_le hb hWw)
                      have hrs : ownS S N t s = r := ownS_at (j := j) (by rw [← HTN.out, HS.out.1]; exact hj) hv
                      obtain ⟨rv, hrv⟩ : ∃ rv, rv = r.vals (.slice x m cp) := ⟨_, rfl⟩
                      have d1 := hd.1.trans (hd0.1.trans hr1)
                      have d2 : rowOf wr ⟨b, off + j * 57, none⟩ 57 = rv := by rw [hrv]; exact hd.2.trans (hd0.2.trans hr2)
                      obtain ⟨cput, hstep⟩ := hoi.step hsN (by rw [hrs]; exact hok) (tv := .slice x m cp) (by rw [hrs]; exact hrow)
                      rw [hrs, ← hrv] at hstep
                      have hrvl : rv.length = 57 := by rw [hrv]; exact Rw.len hok _
                      have hrvc : rv.all cell1 = true := by rw [hrv]; exact hrow.cell1 hok
                      have HNX := Lib.hid hstep
                      have wr2 : IntKind.i64.wrap ((tn : Int) + s) = (tn : Int) + s := IntWalk.i64_in _ (by omega)
                      have f1 : ((tn : Int) + s).tmod sl = (j : Int) := by rw [← hj, Int.tmod_eq_emod_of_nonneg (by omega)]; norm_cast
                      have f2 : ((tn : Int) + s) % sl = (j : Int) := by rw [← hj]; norm_cast
                      have f3 : ¬ (sl : Int) = 0 := by omega
                      have f4 : (0 : Int) < sl := by omega
                      have f5 : (j : Int) < sl := by omega
                      have f6 : (0 : Int) ≤ j := by omega
                      clear hd hd0 hr1 hr2 hr3 hr4 hr5 hr6 hr7 hrow hrs hv hok hrl hrc1 hrv hstep hoi hbq hj
                      go_wp2_with fail
                      exact ⟨⟨s + 1, by omega, by go_num, HNX.out⟩, by simp [intOf]; omega⟩
                  · have hsN1 : ¬ (s : Int) < N := by omega
                    have HD := Lib.hid (hoi.done (w := w) fun s' h1 h2 => by omega)
                    clear hoi
                    go_wp2_with fail
                    go_meet
                    exact ⟨_, rfl, HD.out⟩
              case rest =>
                obtain ⟨wx, rfl, hod⟩ := hcut
                have HOD := Lib.hid hod
                clear hod HOI e1 wr1 htnl HTN
                have HWX := Lib.hid (HST.out.below HOD.out.1)
                have HPL := Lib.hid (plain14_tab (cap := N) h16 HOD.out.2 (Nat.le_refl _) (by simp only [maxLen]; omega))
                have HVO : Hid (∀ b, (Value.slice a t cap).ownBlock = some b → b < W.heap.size) := Lib.hid fun b hb => (HST.out.was.own.lt b hb).2
                have HKX := Lib.hid (HKB.out.below HOD.out.1 HKB.out.lt)
                have hobW := HKB.out.lt
                have hWx : W.heap.size ≤ wx.heap.size := HOD.out.1.size
                go_wp2_with fail
                (with_reducible refine HPL.out.mono ?_)
                rintro e w6 ⟨pa, pcap, rfl, hp1, hp2, hp3, hpb⟩
                have HP6 := Lib.hid (And.intro hp1 (And.intro hp2 (And.intro hp3 hpb)))
                have hs6 := hpb.size
                have HW6 : Hid (w6.ownsRow w.heap.size 32 1 (.slice a t cap) t xs) := Lib.hid (own_block HWX.out.was.own fun b hb => hpb.block b (HWX.out.was.own.lt b hb).2)
                have HR6 : Hid (RdRs (fun b => b = W.heap.size ∨ b < w.heap.size) w6 (some ⟨W.heap.size, 0, none⟩) N (tab N (ownS S N t))) := Lib.hid (HOD.out.2.keep hpb.size fun b _ hl => hpb.block b hl)
                have HK6 := Lib.hid (HKX.out.below hpb HKX.out.lt)
                clear hp1 hp2 hp3 hpb HPL
                go_wp2_with (at_builtin; refine wpList_lies app_lists (by rfl) (.tmp 80) (.tmp 84) (by rfl) w.heap.size _ _ _ (by rfl) (HW6.out.alloc _) ⟨w6.heap.size, 0, none⟩ 1 1 [.slice pa N pcap] (by rfl) (by simp) (hasRow_new w6 _ _ 0 1 (by simp)) (rowOf_new w6 _ _ 0 1 (by simp)) (by rfl) (by omega) (by omega) (by simp; omega) ?_; intro gg cp w7 hown1 hgrow hlie; have H7 := Lib.hid (HWX.out.push HP6.out.2.2.2 HP6.out.1 HP6.out.2.1 HP6.out.2.2.1 rfl hgrow hown1 hlie); have H7b := Lib.hid hgrow; clear hown1 hgrow hlie)
                have hs7 : w6.heap.size < w7.heap.size := by have := H7b.out.size; simp at this; omega
                have HR7 : Hid (RdRs (fun b => b = W.heap.size ∨ b < w.heap.size) w7 (some ⟨W.heap.size, 0, none⟩) N (tab N (ownS S N t))) := Lib.hid ((HR6.out.keep (by omega) fun b hb hl => (H7b.out.block b (by simp; omega) (fun e => by
                  have h1 := HVO.out b e.symm
                  rcases hb with rfl | hb
                  · omega
                  · have := (HST.out.was.own.lt b e.symm).1; omega)).trans (Below.heap_alloc _ _ _ hl)))
                have HK7 : Hid (Blk w7 ob 4 (onL N fun _ => true).toArray) := Lib.hid ((H7b.out.block ob (by simp; omega) (fun e => own_not HW6.out HK6.out (by decide) e.symm)).trans (HK6.out.alloc _))
                have HT7 : Hid (tagR tag wx.heap.size w6.heap.size 0 ob = 98 ∧ ∀ b, b < W.heap.size + 1 → tagR tag wx.heap.size w6.heap.size 0 b = tag b) := Lib.hid ⟨by rw [tagR_lo (by omega)]; exact HOT.out, fun b hb => tagR_lo (by have := HOD.out.2.2.2 0 _ (tab_at (by omega : 0 < N)); obtain ⟨b', off', x', m', c', e', -, hbl', -⟩ := this; cases e'; omega)⟩
                obtain ⟨tag7, htag7⟩ : ∃ tag7, tag7 = tagR tag wx.heap.size w6.heap.size 0 := ⟨_, rfl⟩
                rw [← htag7] at H7 HT7
                have HNN : Hid ((rgT N F (fun _ _ => true) (ownS S N) t).N = N) := Lib.hid (rgT_N N F (fun _ _ => true) (ownS S N) t).1
                have hs7W : W.heap.size < w7.heap.size := by omega
                have HST98 : Hid (tag W.heap.size = 98) := Lib.hid (HST.out.r.tg _ (Nat.le_refl _))
                have HSo : Hid (∀ b, (b = W.heap.size ∨ b < w.heap.size) → ¬ Rgs tag7 N b) := Lib.hid fun b hb hr => by
                  have h1 := HT7.out.2 b (by omega)
                  have h2 := hr.1
                  have h3 := hr.2
                  rw [h1] at h2 h3
                  rcases hb with rfl | hb
                  · rw [HST98.out] at h3; omega
                  · rw [HST.out.lo b hb] at h2; omega
                have HHC := Lib.hid (hear_tick N F (fun _ _ => true) (ownS S N) (oc := N) H7.out.r (by omega : t ≤ 100000) (fun i hi => by rw [HK7.out.cell]; simp only [List.getElem?_toArray]; exact onL_at hi) HK7.out.lt (fun h => by have := h.2; rw [HT7.out.1] at this; omega))
                clear htag7
                (with_reducible refine HHC.out.mono ?_)
                rintro e w8 hh
                obtain ⟨tag8, P8, hv, rfl, hl8, hheld, htg8, hc8⟩ := H7.out.hear hh
                rw [HNN.out] at hheld hc8
                have H8 := Lib.hid hl8
                have HH8 := Lib.hid hheld
                have HT8 := Lib.hid (And.intro htg8 hc8)
                have hs8 := hc8.size
                obtain ⟨hg, hcap, rfl, -, hgl, hgc1, hgc2, -⟩ := hheld
                have HR8 : Hid (RdRs (fun b => b = W.heap.size ∨ b < w.heap.size) w8 (some ⟨W.heap.size, 0, none⟩) N (tab N (ownS S N t))) := Lib.hid (HR7.out.keep hc8.size fun b hb hl => hc8.block b hl (HSo.out b hb))
                have HK8 := Lib.hid (HK7.out.chg hc8 (fun h => by have := h.2; rw [HT7.out.1] at this; omega))
                have HSC := Lib.hid (say_tick N F (fun _ _ => true) (ownS S N) (oc := N) H8.out.r (by omega : t ≤ 100000) HR8.out (fun b hbl hb hr => HSo.out b hb (by unfold Rgs at hr ⊢; rwa [HT8.out.1 b (by omega)] at hr)) (Nat.le_refl _))
                clear hh hl8 htg8 hc8 HHC
                go_wp2_with fail
                (with_reducible refine HSC.out.mono ?_)
                rintro e w9 hs
                obtain ⟨rfl, tag9, P9, hl9, htg9, hc9⟩ := H8.out.say hs
                have HNN8 : ((rgT N F (fun _ _ => true) (ownS S N) t).hear ((fun _ _ => true) t)).N = N := HNN.out
                rw [HNN8] at hc9
                have H9 : Hid (LSt (fun τ => (tab N (ownS S N τ)).map (Rw.plain N)) (t + 1) w rg (.slice aa an ac) (rgT N F (fun _ _ => true) (ownS S N) (t + 1)) tag9 P9 (.slice (some ⟨gg, 0, none⟩) (t + 1) cp) _ w9) := Lib.hid hl9
                have HH9 := Lib.hid (HH8.out.keep hc9.size fun b hb hl => hc9.block b hl fun hr => by have := hr.2; rw [hb.2] at this; omega)
                have HT9 : Hid (tag9 ob = 98) := Lib.hid (by rw [htg9 ob (by omega), HT8.out.1 ob (by omega)]; exact HT7.out.1)
                have HK9 := Lib.hid (HK8.out.chg hc9 (fun h => by have := h.2; rw [HT8.out.1 ob (by omega), HT7.out.1] at this; omega))
                have hs9 := hc9.size
                clear hs hl9 htg9 hc9 HSC HNN8
                clear H7 H7b HR7 HK7 HT7 HSo H8 HH8 HT8 HR8 HK8 HW6 HR6 HK6 HP6 HKX HWX HVO HOD
                go_wp2_with fail
                have HNF := Lib.hid (rgT_N N F (fun _ _ => true) (ownS S N) (t + 1))
                go_loopw [16] (fun s16 wq => ∃ i : Nat, i ≤ N ∧ s16 = .int .i64 i ∧ Below w9.heap.size w9 wq) (fun i _ => N - (intOf i).toNat)
                case atStart => exact ⟨0, by omega, rfl, Below.refl _ _⟩
                case round =>
                  obtain ⟨i, hi, rfl, hbq⟩ := hrel
                  have HBQ := Lib.hid hbq
                  clear hbq
                  by_cases hiN : i < N
                  · have hiN1 : (i : Int) < N := by omega
                    have hi0 : (0 : Int) ≤ i := by omega
                    have HBI := Lib.hid (bad_node H9.out.r HBQ.out HNF.out.1 HNF.out.2 hiN)
                    obtain ⟨qi, hqi⟩ : ∃ qi, qi = (!F.link && decide (F.at_ % N = i)) := ⟨_, rfl⟩
                    rw [← hqi] at HBI
                    have HQI := Lib.hid hqi
                    clear hqi
                    go_wp2_with fail
                    (with_reducible refine HBI.out.mono ?_)
                    rintro e wb ⟨rfl, hbb⟩
                    have HBB := Lib.hid (HBQ.out.trans (hbb.mono HBQ.out.size))
                    clear hbb HBI
                    cases qi with
                    | true =>
                      go_wp2_with fail
                      exact ⟨⟨i + 1, by omega, by go_num, HBB.out⟩, by simp [intOf]; omega⟩
                    | false =>
                      obtain ⟨g', c', he, -, hgl9, -, -, hcell⟩ := HH9.out
                      cases he
                      obtain ⟨hu, hgi, ha, hnn, hcc, rfl, hrd, hmc, hcm⟩ := hcell i hiN
                      have hlen : ((rgT N F (fun _ _ => true) (ownS S N) t).hear (fun _ => true)).held i = tab N fun s => if N < runs (fun _ _ => true) t i then ofM N i s (fun ago => trk N F (fun _ _ => true) (ownS S N) (t - ago) i) else rw0 := held_all N F (fun _ _ => true) (ownS S N) t i rfl hiN
                      have hnN : hnn = N := by rw [← hrd.1]; exact (congrArg List.length hlen).trans (tab_len _ _)
                      subst hnN
                      have HRD := Lib.hid hrd
                      have HFT := Lib.hid (fits_any rg hnn hg hcap hnn hcc ha i wb (by have := (H9.out.r.below HBB.out).cells.1; rwa [HNF.out.1] at this) ((HBB.out.cell (p := ⟨hg, i, none⟩) hgl9).trans hgi) hiN hmc)
                      rw [show decide (hnn = hnn) = true from by simp] at HFT
                      clear hcell hlen hrd
                      obtain ⟨N, rfl⟩ : ∃ N, N = hnn := ⟨_, rfl⟩
                      go_wp2_with fail
                      (with_reducible refine HFT.out.mono ?_)
                      rintro e wc ⟨rfl, hbc⟩
                      have HBC := Lib.hid (HBB.out.trans (hbc.mono HBB.out.size))
                      clear hbc HFT
                      go_wp2_with fail
                      go_loopw [17] (fun s17 wq => ∃ s : Nat, s ≤ N ∧ s17 = .int .i64 s ∧ Below w9.heap.size w9 wq) (fun s _ => N - (intOf s).toNat)
                      case atStart => exact ⟨0, by omega, rfl, HBC.out⟩
                      case round =>
                        obtain ⟨s, hs, rfl, hbr⟩ := hrel
                        have HBR := Lib.hid hbr
                        clear hbr
                        by_cases hsN : s < N
                        · have hsN1 : (s : Int) < N := by omega
                          have hs0 : (0 : Int) ≤ s := by omega
                          have HBS := Lib.hid (bad_node H9.out.r HBR.out HNF.out.1 HNF.out.2 hsN)
                          obtain ⟨qs, hqs⟩ : ∃ qs, qs = (!F.link && decide (F.at_ % N = s)) := ⟨_, rfl⟩
                          rw [← hqs] at HBS
                          have HQS := Lib.hid hqs
                          clear hqs
                          go_wp2_with fail
                          (with_reducible refine HBS.out.mono ?_)
                          rintro e wd ⟨rfl, hbd⟩
                          have HBD := Lib.hid (HBR.out.trans (hbd.mono HBR.out.size))
                          clear hbd HBS
                          cases qs with
                          | true =>
                            go_wp2_with fail
                            exact ⟨⟨s + 1, by omega, by go_num, HBD.out⟩, by simp [intOf]; omega⟩
                          | false =>
                            have hkey := held_truth N F (fun _ _ => true) (ownS S N) (t := t) h4 hsN hiN (fun e => by have := HQS.out; rw [e] at this; simpa using this) (fun e => by have := HQI.out; rw [e] at this; simpa using this) (fun t' s' => ownS_ok HS.out.2.1 N t' s') rfl
                            obtain ⟨r, hr, hrt, -⟩ := hkey
                            have hrt := hrt fun _ _ _ => rfl
                            obtain ⟨hb, hoff, hx, hm', hc2, rfl, hbS, hbl9, hh1, hh2, hh3, hh4, hh5⟩ := HRD.out.2.2 s r hr
                            have hrok := HRD.out.2.1 r (List.mem_of_getElem? hr)
                            obtain ⟨hv, hhv⟩ : ∃ hv, hv = r.vals (.slice hx hm' hc2) := ⟨_, rfl⟩
                            rw [← hhv] at hh2
                            have hhvl : hv.length = 57 := by rw [hhv]; exact Rw.len hrok _
                            have HHV := Lib.hid hhv
                            have HHR : Hid (RowR (fun b => w7.heap.size ≤ b ∧ tag8 b = 98) w9 r (.slice hx hm' hc2)) := Lib.hid ⟨hx, hm', hc2, rfl, hh3, hh4, hh5⟩
                            have HROK := Lib.hid hrok
                            clear hhv hr hh3 hrok hbS
                            have hwd9 := HBD.out.size
                            by_cases htN : N ≤ t
                            · have htN1 : (N : Int) ≤ t := by omega
                              rw [if_pos htN] at hrt
                              obtain ⟨d, hd⟩ : ∃ d, t = d + N := ⟨t - N, by omega⟩
                              have hdt : t - N = d := by omega
                              rw [hdt] at hrt
                              have e1 : (t : Int) - (N : Int) = (d : Int) := by omega
                              have wr1 : IntKind.i64.wrap (d : Int) = d := IntWalk.i64_in _ (by omega)
                              have d1 : (d : Int) < (t : Int) + 1 := by omega
                              have d0 : (0 : Int) ≤ d := by omega
                              obtain ⟨g2, c2, u2, he2, hgc, hgm, hg2l, hg2, wa, wn2, wc2, rfl, hwrd, hwm1, hwm2⟩ := H9.out.was.at_ (j := d) (by omega)
                              cases he2
                              obtain ⟨b2, off2, x2, m2, k2, rfl, hb2S, hb2l, hw1, hw2, hw3, hw4, hw5⟩ := hwrd.2.2 s _ (plain_at hsN)
                              have hwn : wn2 = N := by rw [← hwrd.1]; simp [tab_len]
                              subst hwn
                              have hpok := hwrd.2.1 _ (List.mem_of_getElem? (plain_at (N := wn2) (f := ownS S wn2 d) hsN))
                              obtain ⟨wv, hwv⟩ : ∃ wv, wv = ((ownS S wn2 d s).plain wn2).vals (.slice x2 m2 k2) := ⟨_, rfl⟩
                              rw [← hwv] at hw2
                              have hwvl : wv.length = 57 := by rw [hwv]; exact Rw.len hpok _
                              have hwvc : wv.all cell1 = true := by rw [hwv]; exact (show RowR (Sn tag9 w9) w9 _ _ from ⟨x2, m2, k2, rfl, hw3, hw4, hw5⟩).cell1 hpok
                              have HWV := Lib.hid hwv
                              have HWR0 : Hid (RowR (Sn tag9 w9) w9 ((ownS S wn2 d s).plain wn2) (.slice x2 m2 k2)) := Lib.hid ⟨x2, m2, k2, rfl, hw3, hw4, hw5⟩
                              have HRK := Lib.hid (And.intro HROK.out (And.intro hpok hrt))
                              have v1 := ((ba1 (HBD.out) (.cells rowZ.toArray 54)).cell (p := ⟨gg, d, none⟩) hg2l).trans hg2
                              have v2 := row_below (ba1 (HBD.out) (.cells rowZ.toArray 54)) (p := ⟨b2, off2 + s * 57, none⟩) hb2l 57
                              have v3 := v2.1.trans hw1
                              have v4 := v2.2.trans hw2
                              clear v2 hwrd hw1 hw2 hw3 hwv hpok hg2 hd hdt hrt
                              obtain ⟨N, rfl⟩ : ∃ N, N = wn2 := ⟨_, rfl⟩
                              go_upto_region 37 with fail
                              have HBX := Lib.hid (ba1 HBD.out (.cells wv.toArray 54))
                              have HKW := Lib.hid (Blk.new wd 54 wv.toArray)
                              have HWR := Lib.hid (HWR0.out.keep HBX.out.size fun b _ hl => HBX.out.block b hl)
                              generalize wd.alloc (.cells wv.toArray 54) = wx at HBX HKW HWR ⊢
                              clear v1 v3 v4
                              generalize wd.heap.size = wn at HKW ⊢
                              have F37 : Hid (∀ w' : World, Below wx.heap.size wx w' → (w'.cell? ⟨hg, i, none⟩ = some (.slice (some ⟨hb, hoff, none⟩) N hcc) ∧ hasRow w' ⟨hb, hoff + s * 57, none⟩ 57 = true ∧ rowOf w' ⟨hb, hoff + s * 57, none⟩ 57 = hv ∧ hasRow w' ⟨wn, 0, none⟩ 57 = true ∧ rowOf w' ⟨wn, 0, none⟩ 57 = wv)) := Lib.hid fun w' hbe => by
                                have g1 := (HBX.out.trans (hbe.mono HBX.out.size)).cell (p := ⟨hg, i, none⟩) hgl9
                                have g2 := row_below (HBX.out.trans (hbe.mono HBX.out.size)) (p := ⟨hb, hoff + s * 57, none⟩) hbl9 57
                                have g3 := row_below hbe (p := ⟨wn, 0, none⟩) HKW.out.lt 57
                                obtain ⟨k1, k2, -⟩ := HKW.out.whole (n := 57) hwvl
                                exact ⟨g1.trans hgi, g2.1.trans hh1, g2.2.trans hh2, g3.1.trans k1, g3.2.trans k2⟩
                              have HSM : Hid (∀ w' : World, Below wx.heap.size wx w' → Calls Try.prog 36 #[.agg hv.toArray, .agg wv.toArray] w' (Same14 true w')) := Lib.hid fun w' hbe => by
                                rw [HHV.out, HWV.out]
                                exact same14_any _ _ _ _ HRK.out.1 HRK.out.2.1 _ _ w' (HHR.out.keep (HBX.out.trans (hbe.mono HBX.out.size)).size fun b _ hl => (HBX.out.trans (hbe.mono HBX.out.size)).block b hl) (HWR.out.below hbe) HRK.out.2.2
                              go_region_held3 (fun w' => (w'.cell? ⟨hg, i, none⟩ = some (.slice (some ⟨hb, hoff, none⟩) N hcc) ∧ hasRow w' ⟨hb, hoff + s * 57, none⟩ 57 = true ∧ rowOf w' ⟨hb, hoff + s * 57, none⟩ 57 = hv ∧ hasRow w' ⟨wn, 0, none⟩ 57 = true ∧ rowOf w' ⟨wn, 0, none⟩ 57 = wv))
                                (with_reducible (first | exact F37.out _ (Below.refl _ _).drew | exact F37.out _ H38.out))
                                ((first | ((with_reducible refine (HSM.out _ (Below.refl _ _).drew).mono ?_); rintro e w38 ⟨rfl, hb38⟩; have H38 := Lib.hid ((Below.refl wx.heap.size wx).drew.trans hb38); clear hb38)))
                              go_wp2_with fail
                              exact ⟨⟨s + 1, by omega, by go_num, HBX.out.trans (H38.out.mono HBX.out.size)⟩, by simp [intOf]; omega⟩
                            · have htN1 : ¬ (N : Int) ≤ t := by omega
                              rw [if_neg htN] at hrt
                              have HWV : Hid (rowZ = rw0.vals (.slice none 0 0)) := Lib.hid rw0_vals'.symm
                              have HRK := Lib.hid (And.intro HROK.out (And.intro rw0_ok' hrt))
                              have hwvl : rowZ.length = 57 := len_rowZ
                              clear hrt
                              obtain ⟨wv, hwv⟩ : ∃ wv, wv = rowZ := ⟨_, rfl⟩
                              go_upto_region 37 with fail
                              rw [← hwv] at HWV hwvl ⊢
                              clear hwv
                              have HBX := Lib.hid (ba1 HBD.out (.cells wv.toArray 54))
                              have HKW := Lib.hid (Blk.new wd 54 wv.toArray)
                              have HWR := Lib.hid (rw0_row' (fun _ => True) (wd.alloc (.cells wv.toArray 54)))
                              generalize wd.alloc (.cells wv.toArray 54) = wx at HBX HKW HWR ⊢
                              generalize wd.heap.size = wn at HKW ⊢
                              have F37 : Hid (∀ w' : World, Below wx.heap.size wx w' → (w'.cell? ⟨hg, i, none⟩ = some (.slice (some ⟨hb, hoff, none⟩) N hcc) ∧ hasRow w' ⟨hb, hoff + s * 57, none⟩ 57 = true ∧ rowOf w' ⟨hb, hoff + s * 57, none⟩ 57 = hv ∧ hasRow w' ⟨wn, 0, none⟩ 57 = true ∧ rowOf w' ⟨wn, 0, none⟩ 57 = wv)) := Lib.hid fun w' hbe => by
                                have g1 := (HBX.out.trans (hbe.mono HBX.out.size)).cell (p := ⟨hg, i, none⟩) hgl9
                                have g2 := row_below (HBX.out.trans (hbe.mono HBX.out.size)) (p := ⟨hb, hoff + s * 57, none⟩) hbl9 57
                                have g3 := row_below hbe (p := ⟨wn, 0, none⟩) HKW.out.lt 57
                                obtain ⟨k1, k2, -⟩ := HKW.out.whole (n := 57) hwvl
                                exact ⟨g1.trans hgi, g2.1.trans hh1, g2.2.trans hh2, g3.1.trans k1, g3.2.trans k2⟩
                              have HSM : Hid (∀ w' : World, Below wx.heap.size wx w' → Calls Try.prog 36 #[.agg hv.toArray, .agg wv.toArray] w' (Same14 true w')) := Lib.hid fun w' hbe => by
                                rw [HHV.out, HWV.out]
                                exact same14_any _ _ _ _ HRK.out.1 HRK.out.2.1 _ _ w' (HHR.out.keep (HBX.out.trans (hbe.mono HBX.out.size)).size fun b _ hl => (HBX.out.trans (hbe.mono HBX.out.size)).block b hl) (HWR.out.below hbe) HRK.out.2.2
                              go_region_held3 (fun w' => (w'.cell? ⟨hg, i, none⟩ = some (.slice (some ⟨hb, hoff, none⟩) N hcc) ∧ hasRow w' ⟨hb, hoff + s * 57, none⟩ 57 = true ∧ rowOf w' ⟨hb, hoff + s * 57, none⟩ 57 = hv ∧ hasRow w' ⟨wn, 0, none⟩ 57 = true ∧ rowOf w' ⟨wn, 0, none⟩ 57 = wv))
                                (with_reducible (first | exact F37.out _ (Below.refl _ _).drew | exact F37.out _ H38.out))
                                ((first | ((with_reducible refine (HSM.out _ (Below.refl _ _).drew).mono ?_); rintro e w38 ⟨rfl, hb38⟩; have H38 := Lib.hid ((Below.refl wx.heap.size wx).drew.trans hb38); clear hb38)))
                              go_wp2_with fail
                              exact ⟨⟨s + 1, by omega, by go_num, HBX.out.trans (H38.out.mono HBX.out.size)⟩, by simp [intOf]; omega⟩
                        · have hsN1 : ¬ (s : Int) < N := by omega
                          go_wp2_with fail
                          exact ⟨⟨i + 1, by omega, by go_num, HBR.out⟩, by simp [intOf]; omega⟩
                  · have hiN1 : ¬ (i : Int) < N := by omega
                    go_wp2_with fail
                    exact ⟨⟨t + 1, tag9, P9, _, _, _, by omega, by go_num, rfl, H9.out.below HBQ.out, HK9.out.below HBQ.out HK9.out.lt, HT9.out⟩, by simp [intOf]; omega⟩
            · have hlt1 : ¬ (t : Int) < 2 * (N : Int) + 6 := by omega
              have hb9 := HST.out.bel
              have HB9 := Lib.hid hb9
              clear hb9
              go_wp2_with fail
              refine (lives14_any wr).mono ?_
              rintro e w9 ⟨rfl, hb9⟩
              have HE := Lib.hid (HB9.out.trans (hb9.mono HB9.out.size))
              clear hb9
              go_wp2_with fail
              go_ret
              exact ⟨rfl, HE.out⟩
end Go.Proofs.Ytbdklfcgcmdgaaa
