/-
  sennitlaw14.TracksRound, walked.
-/
import Derived.Test.YtbdklfcgcmdgaaaGa52
namespace Go.Proofs.Ytbdklfcgcmdgaaa
open Go.RowKit
set_option linter.unusedVariables false
set_option linter.unusedSimpArgs false

/-- nobody faulty -/
def flt0 : FltM := ⟨false, 0, 0, []⟩
set_option maxRecDepth 100000 in
set_option maxHeartbeats 8000000 in
theorem round_any (p : Int) (hp : 0 ≤ p ∧ p ≤ 255) (N : Nat) (hN : 4 + p % 13 = (N : Int)) (sa : Option Addr) (sl sc : Nat) (S : List Rw) (w : World)
    (hS : RdRs (· < w.heap.size) w sa sl S) (hs1 : sl ≤ sc) (hs2 : sc ≤ maxLen) (hsz : szW S) :
    Calls Try.prog 7 #[.int .u8 p, .slice sa sl sc] w fun e w' => e = .returned (.bool true) ∧ Below w.heap.size w w' := by
  have h4 : 4 ≤ N := by omega
  have h16 : N ≤ 16 := by omega
  obtain ⟨hp0, hp1⟩ := hp
  have HS := Lib.hid hS
  obtain ⟨F, hF⟩ : ∃ F, F = flt0 := ⟨_, rfl⟩
  have HFZ := Lib.hid hF
  have HFL : Hid (∀ w' : World, Below w.heap.size w w' → Calls Try.prog 29 #[.slice sa sl sc] w' (LightPost sl S w')) := Lib.hid fun w' hb =>
    light_any (· < w.heap.size) sa sl sc S w' (hS.keep hb.size fun b hb' _ => hb.block b hb') hs1 hs2 hsz
  have HNR : Hid (∀ w' : World, Below w.heap.size w w' → Calls Try.prog 30 #[.int .i64 N, .agg #[.bool false, .int .u8 0, .int .u8 0, .slice none 0 0]] w' (NewRingP (tagW w') N F (.slice none 0 0) w')) := Lib.hid fun w' hb => by
    rw [hF]
    exact newRing_any (tagW w') N flt0 none 0 0 w' h4 h16 ⟨by decide, by decide⟩ (fun b hb => tagW_hi hb) (rdAs_nil _ _) (Nat.le_refl _) (by simp) (by omega)
  clear hS hsz hF
  go_enter Try.func7, Try.ntmps7
  go_wp2_with fail
  (with_reducible refine (HFL.out w (Below.refl _ _)).mono ?_)
  rintro e w2 ⟨⟨lb, rfl, hlb⟩, hb2⟩
  have HB2 := Lib.hid hb2
  clear hb2
  cases lb with
  | false =>
    clear hlb
    go_wp2_with fail
    refine (lives14_any w2).mono ?_
    rintro e w3 ⟨rfl, hb3⟩
    have HE := Lib.hid (HB2.out.trans (hb3.mono HB2.out.size))
    clear hb3
    go_wp2_with fail
    go_ret
    exact ⟨rfl, HE.out⟩
  | true =>
    have hl200 := (hlb rfl).1
    clear hlb
    have hb0 : 0 ≤ p % 13 := by omega
    have hb13 : p % 13 < 13 := by omega
    go_wp2_with fail
    (with_reducible refine (HNR.out w2 HB2.out).mono ?_)
    rintro e w3 hnr
    obtain ⟨rg, tag, P, rfl, hst⟩ := LSt.start (fun τ => (tab N (ownS S N τ)).map (Rw.plain N)) HB2.out hnr (fun _ _ => true) (ownS S N)
    have HST := Lib.hid hst
    clear hst hnr hN hb0 hb13 HNR HFL
    have hm : madeOk (.int .i64 (N : Int)) (.int .i64 (N : Int)) = true := by simp [madeOk]; omega
    go_upto_region 8 with fail
    have hk1 : Blk (w3.alloc (.cells (zrep [Value.bool false] N).toArray 4)) w3.heap.size 4 (onL N fun j => decide (j < 0)).toArray := by
      have := Blk.new w3 4 (zrep [Value.bool false] N).toArray
      rw [zrep_onL] at this
      rw [show (onL N fun j => decide (j < 0)) = onL N fun _ => false from by simp]
      rw [zrep_onL]
      exact this
    have HK3 := Lib.hid hk1
    have HST2 := Lib.hid (HST.out.below ((Below.refl _ _).alloc (Nat.le_refl _) (.cells (zrep [Value.bool false] N).toArray 4)))
    have HOT := Lib.hid (HST.out.r.tg w3.heap.size (Nat.le_refl _))
    generalize w3.alloc (.cells (zrep [Value.bool false] N).toArray 4) = w4 at HK3 HST2 ⊢
    have hob0 : w.heap.size ≤ w3.heap.size := HST.out.bel.size
    clear HST hk1
    generalize w3.heap.size = ob at HK3 HOT hob0 ⊢
    go_wp2_with fail
    go_loopw [8] (fun i wr => ∃ k : Nat, k ≤ N ∧ i = .int .i64 k ∧ LSt (fun τ => (tab N (ownS S N τ)).map (Rw.plain N)) 0 w rg (.slice none 0 0) (rgT N F (fun _ _ => true) (ownS S N) 0) tag P (.slice none 0 0) [] wr ∧ Blk wr ob 4 (onL N fun j => decide (j < k)).toArray) (fun i _ => N - (intOf i).toNat)
    case atStart => exact ⟨0, by omega, rfl, HST2.out, HK3.out⟩
    case round =>
      obtain ⟨k, hk, rfl, hst, hkb⟩ := hrel
      by_cases hlt : k < N
      · have hlt1 : (k : Int) < N := by omega
        have hlt0 : (0 : Int) ≤ k := by omega
        obtain ⟨cb, hcb⟩ : ∃ cb, wr.cell? ⟨ob, k, none⟩ = some cb := ⟨_, by rw [hkb.cell]; simp only [List.getElem?_toArray]; exact onL_at hlt⟩
        have zb := hkb.frozen k
        have HN1 := Lib.hid (hst.own_ (g := ob) ((Chg.refl _ _).set_at k (.bool true)) HOT.out (by simp [Value.ownBlock]) hob0)
        have hb2 := hkb.set_ k (.bool true)
        rw [List.setIfInBounds_toArray, onL_step hlt] at hb2
        have HN2 := Lib.hid hb2
        clear hst hkb hb2
        go_wp2_with fail
        exact ⟨⟨k + 1, by omega, by go_num, HN1.out, HN2.out⟩, by simp [intOf]; omega⟩
      · have hlt1 : ¬ (k : Int) < N := by omega
        obtain rfl : N = k := by omega
        have HST3 := Lib.hid hst
        have hon : (onL N fun j => decide (j < N)) = onL N fun _ => true := onL_congr (fun j hj => by simp [hj])
        rw [hon] at hkb
        have HK4 := Lib.hid hkb
        clear hst hkb hon HST2 HK3
        clear hk
        go_wp2_with fail
        go_loopw [9, 10] (fun s11 s12 wr => ∃ (t : Nat) (tag : Nat → Nat) (P : RgP) (xs : List Value) (a : Option Addr) (cap : Nat), t ≤ 60 ∧ s12 = .int .i64 t ∧ s11 = .slice a t cap ∧ LSt (fun τ => (tab N (ownS S N τ)).map (Rw.plain N)) t w rg (.slice none 0 0) (rgT N F (fun _ _ => true) (ownS S N) t) tag P (.slice a t cap) xs wr ∧ Blk wr ob 4 (onL N fun _ => true).toArray ∧ tag ob = 98) (fun _ t _ => 60 - (intOf t).toNat)
        case atStart => exact ⟨0, tag, P, [], none, 0, by omega, rfl, rfl, HST3.out, HK4.out, HOT.out⟩
        case round =>
          clear HST3 HK4 HOT
          obtain ⟨t, tag, P, xs, a, cap, ht, rfl, rfl, hst, hkb, hot⟩ := hrel
          have HST := Lib.hid hst
          have HKB := Lib.hid hkb
          have HOT := Lib.hid hot
          clear hst hkb hot
          by_cases hlt : t < N + 4
          · have hlt1 : (t : Int) < (N : Int) + 4 := by omega
            obtain ⟨W, rfl⟩ : ∃ W, W = wr := ⟨_, rfl⟩
            go_upto_region 17 with fail
            have hWw : w.heap.size ≤ W.heap.size := HST.out.bel.size
            have HOI := Lib.hid (OwnI.start W (· < w.heap.size) (fun b hb => Nat.lt_of_lt_of_le hb hWw) (ownS S N t) N)
            generalize W.alloc (.cells (zrep rowZ N).toArray 54) = w5 at HOI ⊢
            obtain ⟨tn, htn⟩ : ∃ tn, tn = t * N := ⟨_, rfl⟩
            have e1 : (t : Int) * (N : Int) = (tn : Int) := by rw [htn]; push_cast; rfl
            have htnl : tn ≤ 1000 := by rw [htn]; exact Nat.le_trans (Nat.mul_le_mul (by omega : t ≤ 38) h16) (by omega)
            have HTN := Lib.hid htn
            have wr1 : IntKind.i64.wrap (tn : Int) = tn := IntWalk.i64_in _ (by omega)
            clear htn
            go_upto_block 4 with fail
            go_cut [12] from 50 to 73 (fun s14 wx => ∃ wc : World, wc = wx ∧ OwnDone w W (ownS S N t) N wc)
            case first =>
              go_wp2_with fail
              go_loopw [12] (fun s14 wq => ∃ s : Nat, s ≤ N ∧ s14 = .int .i64 s ∧ OwnI W (· < w.heap.size) (ownS S N t) N s wq) (fun s _ => N - (intOf s).toNat)
              case atStart => exact ⟨0, by omega, rfl, HOI.out⟩
              case round =>
                obtain ⟨s, hs, rfl, hoi⟩ := hrel
                by_cases hsN : s < N
                · have hsN1 : (s : Int) < N := by omega
                  have hs0 : (0 : Int) ≤ s := by omega
                  by_cases hsl : sl = 0
                  · subst hsl
                    have HD := Lib.hid (hoi.done (w := w) fun s' _ _ => ownS_nil HS.out.1 N t s')
                    clear hoi
                    go_wp2_with fail
                    go_meet
                    exact ⟨_, rfl, HD.out⟩
                  · obtain ⟨j, hj⟩ : ∃ j, (tn + s) % sl = j := ⟨_, rfl⟩
                    have hjl : j < sl := by rw [← hj]; exact Nat.mod_lt _ (by omega)
                    obtain ⟨b, off, x, m, cp, r, rfl, hSb, hbw, hv, hok, hrl, hrc1, hr1, hr2, hr3, hr4, hr5, hr6, hr7⟩ := HS.out.at_ j hjl
                    have hbq := hoi.bel
                    have hd := row_below hbq (p := ⟨b, off + j * 57, none⟩) (by show b < _; omega) 57
                    have hd0 := row_below HST.out.bel (p := ⟨b, off + j * 57, none⟩) hbw 57
                    have hrow : RowR (· < w.heap.size) wr r (.slice x m cp) := ((show RowR (· < w.heap.size) w r (.slice x m cp) from ⟨x, m, cp, rfl, hr5, hr6, hr7⟩).keep HST.out.bel.size fun b hb _ => HST.out.bel.block b hb).keep hbq.size fun b hb _ => hbq.block b (Nat.lt_of_lt_of_le hb hWw)
                    have hrs : ownS S N t s = r := ownS_at (j := j) (by rw [← HTN.out, HS.out.1]; exact hj) hv
                    obtain ⟨rv, hrv⟩ : ∃ rv, rv = r.vals (.slice x m cp) := ⟨_, rfl⟩
                    have d1 := hd.1.trans (hd0.1.trans hr1)
                    have d2 : rowOf wr ⟨b, off + j * 57, none⟩ 57 = rv := by rw [hrv]; exact hd.2.trans (hd0.2.trans hr2)
                    obtain ⟨cput, hstep⟩ := hoi.step hsN (by rw [hrs]; exact hok) (tv := .slice x m cp) (by rw [hrs]; exact hrow)
                    rw [hrs, ← hrv] at hstep
                    have hrvl : rv.length = 57 := by rw [hrv]; exact Rw.len hok _
                    have hrvc : rv.all cell1 = true := by rw [hrv]; exact hrow.cell1 hok
                    have HNX := Lib.hid hstep
                    have wr2 : IntKind.i64.wrap ((tn : Int) + s) = (tn : Int) + s := IntWalk.i64_in _ (by omega)
                    have f1 : ((tn : Int) + s).tmod sl = (j : Int) := by rw [← hj, Int.tmod_eq_emod_of_nonneg (by omega)]; norm_cast
                    have f2 : ((tn : Int) + s) % sl = (j : Int) := by rw [← hj]; norm_cast
                    have f3 : ¬ (sl : Int) = 0 := by omega
                    have f4 : (0 : Int) < sl := by omega
                    have f5 : (j : Int) < sl := by omega
                    have f6 : (0 : Int) ≤ j := by omega
                    clear hd hd0 hr1 hr2 hr3 hr4 hr5 hr6 hr7 hrow hrs hv hok hrl hrc1 hrv hstep hoi hbq hj
                    go_wp2_with fail
                    exact ⟨⟨s + 1, by omega, by go_num, HNX.out⟩, by simp [intOf]; omega⟩
                · have hsN1 : ¬ (s : Int) < N := by omega
                  have HD := Lib.hid (hoi.done (w := w) fun s' h1 h2 => by omega)
                  clear hoi
                  go_wp2_with fail
                  go_meet
                  exact ⟨_, rfl, HD.out⟩
            case rest =>
              obtain ⟨wx, rfl, hod⟩ := hcut
              have HOD := Lib.hid hod
              clear hod HOI e1 wr1 htnl HTN
              have HWX := Lib.hid (HST.out.below HOD.out.1)
              have HPL := Lib.hid (plain14_tab (cap := N) h16 HOD.out.2 (Nat.le_refl _) (by simp only [maxLen]; omega))
              have HVO : Hid (∀ b, (Value.slice a t cap).ownBlock = some b → b < W.heap.size) := Lib.hid fun b hb => (HST.out.was.own.lt b hb).2
              have HKX := Lib.hid (HKB.out.below HOD.out.1 HKB.out.lt)
              have hobW := HKB.out.lt
              have hWx : W.heap.size ≤ wx.heap.size := HOD.out.1.size
              go_wp2_with fail
              (with_reducible refine HPL.out.mono ?_)
              rintro e w6 ⟨pa, pcap, rfl, hp1, hp2, hp3, hpb⟩
              have HP6 := Lib.hid (And.intro hp1 (And.intro hp2 (And.intro hp3 hpb)))
              have hs6 := hpb.size
              have HW6 : Hid (w6.ownsRow w.heap.size 32 1 (.slice a t cap) t xs) := Lib.hid (own_block HWX.out.was.own fun b hb => hpb.block b (HWX.out.was.own.lt b hb).2)
              have HR6 : Hid (RdRs (fun b => b = W.heap.size ∨ b < w.heap.size) w6 (some ⟨W.heap.size, 0, none⟩) N (tab N (ownS S N t))) := Lib.hid (HOD.out.2.keep hpb.size fun b _ hl => hpb.block b hl)
              have HK6 := Lib.hid (HKX.out.below hpb HKX.out.lt)
              clear hp1 hp2 hp3 hpb HPL
              go_wp2_with (at_builtin; refine wpList_lies app_lists (by rfl) (.tmp 74) (.tmp 78) (by rfl) w.heap.size _ _ _ (by rfl) (HW6.out.alloc _) ⟨w6.heap.size, 0, none⟩ 1 1 [.slice pa N pcap] (by rfl) (by simp) (hasRow_new w6 _ _ 0 1 (by simp)) (rowOf_new w6 _ _ 0 1 (by simp)) (by rfl) (by omega) (by omega) (by simp; omega) ?_; intro gg cp w7 hown1 hgrow hlie; have H7 := Lib.hid (HWX.out.push HP6.out.2.2.2 HP6.out.1 HP6.out.2.1 HP6.out.2.2.1 rfl hgrow hown1 hlie); have H7b := Lib.hid hgrow; clear hown1 hgrow hlie)
              have hs7 : w6.heap.size < w7.heap.size := by have := H7b.out.size; simp at this; omega
              have HR7 : Hid (RdRs (fun b => b = W.heap.size ∨ b < w.heap.size) w7 (some ⟨W.heap.size, 0, none⟩) N (tab N (ownS S N t))) := Lib.hid ((HR6.out.keep (by omega) fun b hb hl => (H7b.out.block b (by simp; omega) (fun e => by
                have h1 := HVO.out b e.symm
                rcases hb with rfl | hb
                · omega
                · have := (HST.out.was.own.lt b e.symm).1; omega)).trans (Below.heap_alloc _ _ _ hl)))
              have HK7 : Hid (Blk w7 ob 4 (onL N fun _ => true).toArray) := Lib.hid ((H7b.out.block ob (by simp; omega) (fun e => own_not HW6.out HK6.out (by decide) e.symm)).trans (HK6.out.alloc _))
              have HT7 : Hid (tagR tag wx.heap.size w6.heap.size 0 ob = 98 ∧ ∀ b, b < W.heap.size + 1 → tagR tag wx.heap.size w6.heap.size 0 b = tag b) := Lib.hid ⟨by rw [tagR_lo (by omega)]; exact HOT.out, fun b hb => tagR_lo (by have := HOD.out.2.2.2 0 _ (tab_at (by omega : 0 < N)); obtain ⟨b', off', x', m', c', e', -, hbl', -⟩ := this; cases e'; omega)⟩
              obtain ⟨tag7, htag7⟩ : ∃ tag7, tag7 = tagR tag wx.heap.size w6.heap.size 0 := ⟨_, rfl⟩
              rw [← htag7] at H7 HT7
              have HNN : Hid ((rgT N F (fun _ _ => true) (ownS S N) t).N = N) := Lib.hid (rgT_N N F (fun _ _ => true) (ownS S N) t).1
              have hs7W : W.heap.size < w7.heap.size := by omega
              have HST98 : Hid (tag W.heap.size = 98) := Lib.hid (HST.out.r.tg _ (Nat.le_refl _))
              have HSo : Hid (∀ b, (b = W.heap.size ∨ b < w.heap.size) → ¬ Rgs tag7 N b) := Lib.hid fun b hb hr => by
                have h1 := HT7.out.2 b (by omega)
                have h2 := hr.1
                have h3 := hr.2
                rw [h1] at h2 h3
                rcases hb with rfl | hb
                · rw [HST98.out] at h3; omega
                · rw [HST.out.lo b hb] at h2; omega
              have HHC := Lib.hid (hear_tick N F (fun _ _ => true) (ownS S N) (oc := N) H7.out.r (by omega : t ≤ 100000) (fun i hi => by rw [HK7.out.cell]; simp only [List.getElem?_toArray]; exact onL_at hi) HK7.out.lt (fun h => by have := h.2; rw [HT7.out.1] at this; omega))
              clear htag7
              (with_reducible refine HHC.out.mono ?_)
              rintro e w8 hh
              obtain ⟨tag8, P8, hv, rfl, hl8, hheld, htg8, hc8⟩ := H7.out.hear hh
              rw [HNN.out] at hheld hc8
              have H8 := Lib.hid hl8
              have HH8 := Lib.hid hheld
              have HT8 := Lib.hid (And.intro htg8 hc8)
              have hs8 := hc8.size
              obtain ⟨hg, hcap, rfl, -, hgl, hgc1, hgc2, -⟩ := hheld
              have HR8 : Hid (RdRs (fun b => b = W.heap.size ∨ b < w.heap.size) w8 (some ⟨W.heap.size, 0, none⟩) N (tab N (ownS S N t))) := Lib.hid (HR7.out.keep hc8.size fun b hb hl => hc8.block b hl (HSo.out b hb))
              have HK8 := Lib.hid (HK7.out.chg hc8 (fun h => by have := h.2; rw [HT7.out.1] at this; omega))
              have HSC := Lib.hid (say_tick N F (fun _ _ => true) (ownS S N) (oc := N) H8.out.r (by omega : t ≤ 100000) HR8.out (fun b hbl hb hr => HSo.out b hb (by unfold Rgs at hr ⊢; rwa [HT8.out.1 b (by omega)] at hr)) (Nat.le_refl _))
              clear hh hl8 htg8 hc8 HHC
              go_wp2_with fail
              (with_reducible refine HSC.out.mono ?_)
              rintro e w9 hs
              obtain ⟨rfl, tag9, P9, hl9, htg9, hc9⟩ := H8.out.say hs
              have HNN8 : ((rgT N F (fun _ _ => true) (ownS S N) t).hear ((fun _ _ => true) t)).N = N := HNN.out
              rw [HNN8] at hc9
              have H9 : Hid (LSt (fun τ => (tab N (ownS S N τ)).map (Rw.plain N)) (t + 1) w rg (.slice none 0 0) (rgT N F (fun _ _ => true) (ownS S N) (t + 1)) tag9 P9 (.slice (some ⟨gg, 0, none⟩) (t + 1) cp) _ w9) := Lib.hid hl9
              have HH9 := Lib.hid (HH8.out.keep hc9.size fun b hb hl => hc9.block b hl fun hr => by have := hr.2; rw [hb.2] at this; omega)
              have HT9 : Hid (tag9 ob = 98) := Lib.hid (by rw [htg9 ob (by omega), HT8.out.1 ob (by omega)]; exact HT7.out.1)
              have HK9 := Lib.hid (HK8.out.chg hc9 (fun h => by have := h.2; rw [HT8.out.1 ob (by omega), HT7.out.1] at this; omega))
              have hs9 := hc9.size
              clear hs hl9 htg9 hc9 HSC HNN8
              clear H7 H7b HR7 HK7 HT7 HSo H8 HH8 HT8 HR8 HK8 HW6 HR6 HK6 HP6 HKX HWX HVO HOD
              go_wp2_with fail
              have HNF := Lib.hid (rgT_N N F (fun _ _ => true) (ownS S N) (t + 1))
              go_loopw [13] (fun s13 wq => ∃ i : Nat, i ≤ N ∧ s13 = .int .i64 i ∧ Below w9.heap.size w9 wq) (fun i _ => N - (intOf i).toNat)
              case atStart => exact ⟨0, by omega, rfl, Below.refl _ _⟩
              case round =>
                obtain ⟨i, hi, rfl, hbq⟩ := hrel
                have HBQ := Lib.hid hbq
                clear hbq
                by_cases hiN : i < N
                · have hiN1 : (i : Int) < N := by omega
                  have hi0 : (0 : Int) ≤ i := by omega
                  obtain ⟨sa1, scap, hsv, hsc1, hsc2, hat⟩ := H9.out.r.s.at_
                  obtain ⟨sg, sx, rfl, hsx, htick, hsgl⟩ := hat t _ (rgT_sent N F (fun _ _ => true) (ownS S N) (t + 1) t (by omega))
                  rw [HNF.out.1] at htick
                  obtain ⟨gt, tc, rfl, -, hgtl, htc1, htc2, htcell⟩ := htick
                  obtain ⟨u0, hu0, ca, cn, cc, rfl, hcrd, hcm1, hcm2⟩ := htcell i 0 hiN (by omega)
                  obtain ⟨u2, hu2, da, dn, dc, rfl, hdrd, hdm1, hdm2⟩ := htcell i 2 hiN (by omega)
                  have hF0 : F.acts = [] := by rw [HFZ.out]; rfl
                  have hso : ∀ t s, (ownS S N t s).ok := fun t s => ownS_ok HS.out.2.1 N t s
                  have hc0 := sent_round N F (fun _ _ => true) (ownS S N) h4 hF0 (fun _ _ => rfl) hso (way := 0) (t := t) (i := i) (by omega) hiN
                  have hc2 := sent_round N F (fun _ _ => true) (ownS S N) h4 hF0 (fun _ _ => rfl) hso (way := 1) (t := t) (i := i) (by omega) hiN
                  rw [show 2 * 0 = 0 from rfl] at hc0
                  rw [show 2 * 1 = 2 from rfl] at hc2
                  rw [hc0] at hcrd
                  rw [hc2] at hdrd
                  have hcn : cn = N := by rw [← hcrd.1, tab_len]
                  have hdn : dn = N := by rw [← hdrd.1, tab_len]
                  subst hcn
                  obtain rfl : cn = dn := hdn.symm
                  obtain ⟨N, rfl⟩ : ∃ N, N = cn := ⟨_, rfl⟩
                  rw [Nat.add_zero] at hu0
                  have hsl1 : (rgT N F (fun _ _ => true) (ownS S N) (t + 1)).sent.length = t + 1 := rgT_len N F _ _ (t + 1)
                  rw [hsl1] at hsv hsc1
                  have h7 : w9.cell? ⟨rg, 7, none⟩ = some (.slice (some ⟨sg, 0, none⟩) (t + 1) scap) := by rw [← hsv]; exact H9.out.r.cells.2.2.2.2.2.2.2
                  have HSX := Lib.hid (And.intro h7 (And.intro H9.out.r.b.lt (And.intro hsx (And.intro hsgl (And.intro hu0 (And.intro hu2 hgtl))))))
                  have HCD := Lib.hid (And.intro hcrd hdrd)
                  clear h7 hsx hsgl hu0 hu2 hgtl hcrd hdrd hc0 hc2 hF0 hso hsl1 hsv hat htcell
                  go_wp2_with fail
                  go_loopw [14] (fun s14 wq => ∃ s : Nat, s ≤ N ∧ s14 = .int .i64 s ∧ Below w9.heap.size w9 wq) (fun s _ => N - (intOf s).toNat)
                  case atStart => exact ⟨0, by omega, rfl, HBQ.out⟩
                  case round =>
                    obtain ⟨s, hs, rfl, hbr⟩ := hrel
                    have HBR := Lib.hid hbr
                    clear hbr
                    by_cases hsN : s < N
                    · have hsN1 : (s : Int) < N := by omega
                      have hs0 : (0 : Int) ≤ s := by omega
                      obtain ⟨d, hd⟩ : ∃ d, d = distM N i 0 s := ⟨_, rfl⟩
                      obtain ⟨e, he⟩ : ∃ e, e = distM N i 1 s := ⟨_, rfl⟩
                      have hd' : (i + N - s) % N = d := by rw [hd]; rfl
                      have he' : (s + N - i) % N = e := by rw [he]; rfl
                      have hdN : d < N := by rw [← hd']; exact Nat.mod_lt _ (by omega)
                      have heN : e < N := by rw [← he']; exact Nat.mod_lt _ (by omega)
                      have hcast1 : (i : Int) + N - s = ((i + N - s : Nat) : Int) := by omega
                      have hcast2 : (s : Int) + N - i = ((s + N - i : Nat) : Int) := by omega
                      have m1 : ((i : Int) + N - s).tmod N = (d : Int) := by rw [hcast1, ← hd', Int.tmod_eq_emod_of_nonneg (by omega)]; norm_cast
                      have m2 : ((i : Int) + N - s) % N = (d : Int) := by rw [hcast1, ← hd']; norm_cast
                      have m3 : ((s : Int) + N - i).tmod N = (e : Int) := by rw [hcast2, ← he', Int.tmod_eq_emod_of_nonneg (by omega)]; norm_cast
                      have m4 : ((s : Int) + N - i) % N = (e : Int) := by rw [hcast2, ← he']; norm_cast
                      have m5 : ¬ (N : Int) = 0 := by omega
                      have m6 : IntKind.i64.wrap ((i : Int) + N - s) = (i : Int) + N - s := IntWalk.i64_in _ (by omega)
                      have m7 : IntKind.i64.wrap ((s : Int) + N - i) = (s : Int) + N - i := IntWalk.i64_in _ (by omega)
                      have m8 : IntKind.i64.wrap ((t : Int) - d) = (t : Int) - d := IntWalk.i64_in _ (by omega)
                      have m9 : IntKind.i64.wrap ((t : Int) - e) = (t : Int) - e := IntWalk.i64_in _ (by omega)
                      clear hcast1 hcast2 hd' he'
                      obtain ⟨r1, hr1⟩ : ∃ r1, r1 = if d ≤ t then (ownS S N (t - d) s).plain N else rw0 := ⟨_, rfl⟩
                      obtain ⟨r2, hr2⟩ : ∃ r2, r2 = if e ≤ t then (ownS S N (t - e) s).plain N else rw0 := ⟨_, rfl⟩
                      have hat : ∀ (q : Nat) (r : Rw), q ≤ 100 → r = (if q ≤ t then (ownS S N (t - q) s).plain N else rw0) → ∀ w' : World, Below w9.heap.size w9 w' → Calls Try.prog 37 #[.slice (some ⟨gg, 0, none⟩) (t + 1) cp, .int .i64 ((t : Int) - q), .int .i64 s] w' (AtPost (Sn tag9 w9) r w') := fun q r hq100 hr w' hb => by
                        by_cases hq : q ≤ t
                        · rw [if_pos hq] at hr
                          obtain ⟨g2, c2, u2, he2, -, -, hg2l, hg2, wa, wn2, wc2, rfl, hwrd, hwm1, hwm2⟩ := H9.out.was.at_ (j := t - q) (by omega)
                          cases he2
                          rw [show (t : Int) - q = ((t - q : Nat) : Int) from by omega, hr]
                          exact at_any (Sn tag9 w9) gg (t + 1) cp (t - q) s wn2 wc2 wa _ _ w' (Nat.lt_of_lt_of_le hg2l hb.size) ((hb.cell (p := ⟨gg, t - q, none⟩) hg2l).trans hg2) (by omega) hwm1 (hwrd.keep hb.size fun b hb' hl => hb.block b hl) (plain_at hsN)
                        · rw [if_neg hq] at hr
                          rw [hr]
                          exact at_neg (Sn tag9 w9) _ _ s w' (by omega)
                      have HA1 := Lib.hid (hat d r1 (by omega) hr1)
                      have HA2 := Lib.hid (hat e r2 (by omega) hr2)
                      obtain ⟨cb, coff, cx, cxm, cxc, rfl, hcbS, hcbl, hcr1, hcr2, hcr3, hcr4, hcr5⟩ := HCD.out.1.2.2 s r1 (by rw [tab_at hsN, hr1, hd])
                      obtain ⟨db, doff, dx, dxm, dxc, rfl, hdbS, hdbl, hdr1, hdr2, hdr3, hdr4, hdr5⟩ := HCD.out.2.2.2 s r2 (by rw [tab_at hsN, hr2, he])
                      have hok1 := HCD.out.1.2.1 r1 (List.mem_of_getElem? (by rw [tab_at hsN, hr1, hd]))
                      have hok2 := HCD.out.2.2.1 r2 (List.mem_of_getElem? (by rw [tab_at hsN, hr2, he]))
                      obtain ⟨v1, hv1⟩ : ∃ v, v = r1.vals (.slice cx cxm cxc) := ⟨_, rfl⟩
                      obtain ⟨v2, hv2⟩ : ∃ v, v = r2.vals (.slice dx dxm dxc) := ⟨_, rfl⟩
                      rw [← hv1] at hcr2
                      rw [← hv2] at hdr2
                      have HV := Lib.hid (And.intro hv1 hv2)
                      have HRW1 : Hid (RowR (Sn tag9 w9) w9 r1 (.slice cx cxm cxc)) := Lib.hid ⟨cx, cxm, cxc, rfl, hcr3, hcr4, hcr5⟩
                      have HRW2 : Hid (RowR (Sn tag9 w9) w9 r2 (.slice dx dxm dxc)) := Lib.hid ⟨dx, dxm, dxc, rfl, hdr3, hdr4, hdr5⟩
                      have HOK := Lib.hid (And.intro hok1 hok2)
                      have F34 : Hid (∀ w' : World, Below w9.heap.size w9 w' → (hasRow w' ⟨cb, coff + s * 57, none⟩ 57 = true ∧ rowOf w' ⟨cb, coff + s * 57, none⟩ 57 = v1 ∧ hasRow w' ⟨db, doff + s * 57, none⟩ 57 = true ∧ rowOf w' ⟨db, doff + s * 57, none⟩ 57 = v2)) := Lib.hid fun w' hb => by
                        have g1 := row_below hb (p := ⟨cb, coff + s * 57, none⟩) hcbl 57
                        have g2 := row_below hb (p := ⟨db, doff + s * 57, none⟩) hdbl 57
                        exact ⟨g1.1.trans hcr1, g1.2.trans hcr2, g2.1.trans hdr1, g2.2.trans hdr2⟩
                      have HS1 : Hid (∀ (w' : World) (tv : Value), Below w9.heap.size w9 w' → RowR (Sn tag9 w9) w' r1 tv → Calls Try.prog 36 #[.agg v1.toArray, .agg (r1.vals tv).toArray] w' (Same14 true w')) := Lib.hid fun w' tv hb ht => by
                        rw [HV.out.1]
                        exact same14_any _ _ r1 r1 HOK.out.1 HOK.out.1 _ tv w' (HRW1.out.keep hb.size fun b _ hl => hb.block b hl) ht rfl
                      have HS2 : Hid (∀ (w' : World) (tv : Value), Below w9.heap.size w9 w' → RowR (Sn tag9 w9) w' r2 tv → Calls Try.prog 36 #[.agg v2.toArray, .agg (r2.vals tv).toArray] w' (Same14 true w')) := Lib.hid fun w' tv hb ht => by
                        rw [HV.out.2]
                        exact same14_any _ _ r2 r2 HOK.out.2 HOK.out.2 _ tv w' (HRW2.out.keep hb.size fun b _ hl => hb.block b hl) ht rfl
                      have z7 := (HBR.out.cell (p := ⟨rg, 7, none⟩) HSX.out.2.1).trans HSX.out.1
                      have zx := (HBR.out.cell (p := ⟨sg, t, none⟩) HSX.out.2.2.2.1).trans HSX.out.2.2.1
                      have z0 := (HBR.out.cell (p := ⟨gt, i * 4, none⟩) HSX.out.2.2.2.2.2.2).trans HSX.out.2.2.2.2.1
                      have z2 := (HBR.out.cell (p := ⟨gt, i * 4 + 2, none⟩) HSX.out.2.2.2.2.2.2).trans HSX.out.2.2.2.2.2.1
                      have ht1 : (t : Int) < (t : Int) + 1 := by omega
                      clear hat hr1 hr2 hd he hv1 hv2 hcr1 hcr2 hcr3 hdr1 hdr2 hdr3 hok1 hok2 hcbS hdbS
                      go_upto_region 34 with fail
                      go_region_held3 (fun w' => (hasRow w' ⟨cb, coff + s * 57, none⟩ 57 = true ∧ rowOf w' ⟨cb, coff + s * 57, none⟩ 57 = v1 ∧ hasRow w' ⟨db, doff + s * 57, none⟩ 57 = true ∧ rowOf w' ⟨db, doff + s * 57, none⟩ 57 = v2))
                        (with_reducible (first | exact F34.out _ HBR.out.drew | exact F34.out _ HQ4.out | exact F34.out _ HQ3.out | exact F34.out _ HQ2.out | exact F34.out _ HQ1.out))
                        ((first
                        | ((with_reducible refine (HA1.out _ HBR.out.drew).mono ?_); rintro e wa ⟨tv1, rfl, hrw1, hb1⟩; have HQ1 := Lib.hid (HBR.out.drew.trans (hb1.mono HBR.out.drew.size)); have HT1 := Lib.hid hrw1; clear hrw1 hb1)
                        | ((with_reducible refine (HS1.out _ _ HQ1.out HT1.out).mono ?_); rintro e wb ⟨rfl, hb2⟩; have HQ2 := Lib.hid (HQ1.out.trans (hb2.mono HQ1.out.size)); clear hb2)
                        | ((with_reducible refine (HA2.out _ HQ2.out).mono ?_); rintro e wc ⟨tv3, rfl, hrw3, hb3⟩; have HQ3 := Lib.hid (HQ2.out.trans (hb3.mono HQ2.out.size)); have HT3 := Lib.hid hrw3; clear hrw3 hb3)
                        | ((with_reducible refine (HS2.out _ _ HQ3.out HT3.out).mono ?_); rintro e wd ⟨rfl, hb4⟩; have HQ4 := Lib.hid (HQ3.out.trans (hb4.mono HQ3.out.size)); clear hb4)))
                      go_wp2_with fail
                      exact ⟨⟨s + 1, by omega, by go_num, HQ4.out⟩, by simp [intOf]; omega⟩
                    · have hsN1 : ¬ (s : Int) < N := by omega
                      go_wp2_with fail
                      exact ⟨⟨i + 1, by omega, by go_num, HBR.out⟩, by simp [intOf]; omega⟩
                · have hiN1 : ¬ (i : Int) < N := by omega
                  go_wp2_with fail
                  exact ⟨⟨t + 1, tag9, P9, _, _, _, by omega, by go_num, rfl, H9.out.below HBQ.out, HK9.out.below HBQ.out HK9.out.lt, HT9.out⟩, by simp [intOf]; omega⟩
          · have hlt1 : ¬ (t : Int) < (N : Int) + 4 := by omega
            have hb9 := HST.out.bel
            have HB9 := Lib.hid hb9
            clear hb9
            go_wp2_with fail
            refine (lives14_any wr).mono ?_
            rintro e w9 ⟨rfl, hb9⟩
            have HE := Lib.hid (HB9.out.trans (hb9.mono HB9.out.size))
            clear hb9
            go_wp2_with fail
            go_ret
            exact ⟨rfl, HE.out⟩
end Go.Proofs.Ytbdklfcgcmdgaaa
