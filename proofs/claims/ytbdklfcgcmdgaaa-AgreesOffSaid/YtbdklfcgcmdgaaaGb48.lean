/-
  sennitlaw15.AgreesOff, walked.
-/
import Derived.Test.YtbdklfcgcmdgaaaGb45
import Derived.Test.YtbdklfcgcmdgaaaGb47
import Derived.Test.YtbdklfcgcmdgaaaGb43
import Derived.WalkSpells
namespace Go.Proofs.Ytbdklfcgcmdgaaa
open Go.RowKit
set_option linter.unusedVariables false
set_option linter.unusedSimpArgs false

set_option maxRecDepth 100000 in
set_option maxHeartbeats 8000000 in
theorem agOff_any (F : FltM) (aa : Option Addr) (an ac : Nat) (ca : Option Addr) (cl cc : Nat) (X : List (List Value)) (xa : Option Addr) (xl xc : Nat) (Y : List Int) (w : World)
    (hA : RdAs (· < w.heap.size) w aa an F.acts) (ha1 : an ≤ ac) (ha2 : ac ≤ maxLen) (ha3 : an ≤ 140737488355328) (hfz : ∀ x ∈ F.acts, x.row.t.length ≤ 140737488355328) (hf : F.at_ < 256 ∧ F.which < 256) (hfo : ∀ a ∈ F.acts, a.row.ok)
    (hX : RdCs (· < w.heap.size) w ca cl X) (hx1 : cl ≤ cc) (hx2 : cc ≤ maxLen) (hY : RdXs w xa xl Y) (hym : xl ≤ maxLen) :
    Calls Try.prog 9 #[.agg (F.vals (.slice aa an ac)).toArray, .slice ca cl cc, .slice xa xl xc] w fun e w' => e = .returned (.bool true) ∧ Below w.heap.size w w' := by
  unfold maxLen at hym
  have HFo := Lib.hid hfo
  have HA := Lib.hid hA
  have HF := Lib.hid hf
  have HX := Lib.hid hX
  have HY := Lib.hid hY
  have HFG : Hid (∀ w' : World, Below w.heap.size w w' → Calls Try.prog 28 #[.agg #[.bool F.link, .int .u8 F.at_, .int .u8 F.which, .slice aa an ac]] w' (FGreat w')) := Lib.hid fun w' hb =>
    fgreat_any (· < w.heap.size) F aa an ac w' (hA.below hb) ha1 ha2 ha3 hfz
  have HNR : Hid (∀ (N : Nat), 4 ≤ N → N ≤ 16 → ∀ w' : World, Below w.heap.size w w' → Calls Try.prog 30 #[.int .i64 N, .agg #[.bool F.link, .int .u8 F.at_, .int .u8 F.which, .slice aa an ac]] w' (NewRingP (tagV w') N F (.slice aa an ac) w')) := Lib.hid fun N h4 h16 w' hb =>
    newRing_any (tagV w') N F aa an ac w' h4 h16 hf (fun b hb => tagV_hi hb) ((hA.below hb).mono fun b hbl _ => ⟨tagV_lo hbl, hbl⟩) ha1 ha2 ha3
  have HB0 : Hid (Below w.heap.size w (w.alloc (.cells #[.bool F.link, .int .u8 F.at_, .int .u8 F.which, .slice aa an ac] 88))) := Lib.hid ((Below.refl _ _).alloc (Nat.le_refl _) _)
  have HK0 : Hid (Blk (w.alloc (.cells #[.bool F.link, .int .u8 F.at_, .int .u8 F.which, .slice aa an ac] 88)) w.heap.size 88 #[.bool F.link, .int .u8 F.at_, .int .u8 F.which, .slice aa an ac]) := Lib.hid (Blk.new _ _ _)
  clear hA hX hf hfz hfo hY
  show Calls _ _ #[.agg #[.bool F.link, .int .u8 F.at_, .int .u8 F.which, .slice aa an ac], .slice ca cl cc, .slice xa xl xc] w _
  go_enter Try.func9, Try.ntmps9
  go_upto_region 1 with fail
  generalize w.alloc (.cells #[.bool F.link, .int .u8 F.at_, .int .u8 F.which, .slice aa an ac] 88) = w0 at HB0 HK0 ⊢
  have c0 := HK0.out.cell 0
  have c1 := HK0.out.cell 1
  have c2 := HK0.out.cell 2
  have c3 := HK0.out.cell 3
  simp at c0 c1 c2 c3
  go_wp2_with fail
  (with_reducible refine (HFG.out w0 HB0.out).mono ?_)
  rintro e w2 ⟨⟨bb, rfl⟩, hb1⟩
  have HB2 := Lib.hid (HB0.out.trans (hb1.mono HB0.out.size))
  have HK2 := Lib.hid (HK0.out.below hb1 HK0.out.lt)
  clear hb1 c0 c1 c2 c3
  by_cases hgo : bb = false ∧ cl ≤ 60 ∧ xl ≤ 80 ∧ 0 < xl
  · obtain ⟨rfl, hc60, hx80, hx0⟩ := hgo
    have hc60' : ¬ (60 : Int) < cl := by omega
    have hx80' : ¬ (80 : Int) < xl := by omega
    have hx0' : ((xl : Int) == 0) = false := by simp; omega
    have hx01 : (0 : Int) < xl := by omega
    have c0 := HK2.out.cell 0
    have c1 := HK2.out.cell 1
    have c2 := HK2.out.cell 2
    have c3 := HK2.out.cell 3
    simp at c0 c1 c2 c3
    obtain ⟨p, xb, xo, hp0, hp1, hp2, rfl, hxbl, hxc⟩ := HY.out.at_ (k := 0) hx0
    obtain ⟨N, hN⟩ : ∃ N : Nat, 4 + p % 13 = (N : Int) := ⟨(4 + p % 13).toNat, by omega⟩
    have h4 : 4 ≤ N := by omega
    have h16 : N ≤ 16 := by omega
    rw [Nat.add_zero] at hxc
    have dx := (HB2.out.cell (p := ⟨xb, xo, none⟩) hxbl).trans hxc
    have hb0 : 0 ≤ p % 13 := by omega
    have hb13 : p % 13 < 13 := by omega
    clear hp0
    go_wp2_with fail
    (with_reducible refine (HNR.out N h4 h16 w2 HB2.out).mono ?_)
    rintro e w3 hnr
    have HCok : Hid (∀ t i, okL cellK (cellsC X N t i) = true) := Lib.hid (cellsC_ok HX.out.2.1 N)
    obtain ⟨on, hon⟩ : ∃ on : Nat → Nat → Bool, on = onX Y 6 := ⟨_, rfl⟩
    have HON := Lib.hid hon
    obtain ⟨own, hown⟩ : ∃ own, own = ownR N F on (cellsC X N) := ⟨_, rfl⟩
    have HOW := Lib.hid hown
    obtain ⟨rg, tag, P, rfl, hst⟩ := LSt.startV (fun _ => []) HB2.out hnr on own
    have HST := Lib.hid hst
    clear hst hnr c0 c1 c2 c3 hN hb0 hb13 HNR HFG hxc dx hown hon
    have hm : madeOk (.int .i64 (N : Int)) (.int .i64 (N : Int)) = true := by simp [madeOk]; omega
    go_wp2_with fail
    go_loopw [9, 10] (fun s9 s10 wr => ∃ (t : Nat) (tag : Nat → Nat) (P : RgP) (xs : List Value) (a : Option Addr) (cap : Nat), t ≤ 60 ∧ s10 = .int .i64 t ∧ s9 = .slice a t cap ∧ LSt (fun _ => []) 0 w rg (.slice aa an ac) (rgT N F on own t) tag P (.slice none 0 0) [] wr ∧ WasHs w.heap.size (saidH on (cellsC X N)) N tag t (.slice a t cap) xs wr) (fun _ t _ => 60 - (intOf t).toNat)
    case atStart => exact ⟨0, tag, P, [], none, 0, by omega, rfl, rfl, HST.out, WasHs.start _ _ _ _ _⟩
    case round =>
      clear HST
      obtain ⟨t, tag, P, xs, a, cap, ht, rfl, rfl, hst, hwa⟩ := hrel
      obtain ⟨W0, rfl⟩ : ∃ W0, W0 = wr := ⟨_, rfl⟩
      have HST := Lib.hid hst
      have HWA := Lib.hid hwa
      clear hst hwa
      by_cases hlt : t < 3 * N + 6
      · have hlt1 : (t : Int) < 3 * (N : Int) + 6 := by omega
        have hwW : w.heap.size ≤ W0.heap.size := HST.out.bel.size
        go_upto_region 14 with fail
        have HT5 : Hid (∀ b, W0.heap.size ≤ b → tag b = 98) := Lib.hid fun b hb => HST.out.r.tg b hb
        have HVW : Hid (∀ g, (Value.slice a t cap).ownBlock = some g → w.heap.size ≤ g ∧ g < W0.heap.size ∧ tag g = 98) := Lib.hid fun g hg => ⟨(HWA.out.own.lt g hg).1, (HWA.out.own.lt g hg).2, HWA.out.tv g hg⟩
        have HBo : Hid (Below W0.heap.size W0 (((W0.alloc (.cells (zrep rowZ N).toArray 54)).alloc (.cells (zrep heldZ N).toArray 114)).alloc (.cells (zrep [Value.bool false] N).toArray 4))) := Lib.hid ((((Below.refl _ _).alloc (Nat.le_refl _) _).alloc (by simp) _).alloc (by simp; omega) _)
        have HST5 := Lib.hid (HST.out.below HBo.out)
        have HW5 := Lib.hid (HWA.out.below HBo.out)
        have hwo := hwW
        have HKO : Hid (Blk (((W0.alloc (.cells (zrep rowZ N).toArray 54)).alloc (.cells (zrep heldZ N).toArray 114)).alloc (.cells (zrep [Value.bool false] N).toArray 4)) W0.heap.size 54 (zrep rowZ N).toArray) := Lib.hid (((Blk.new _ _ _).alloc _).alloc _)
        have HKS : Hid (Blk (((W0.alloc (.cells (zrep rowZ N).toArray 54)).alloc (.cells (zrep heldZ N).toArray 114)).alloc (.cells (zrep [Value.bool false] N).toArray 4)) (W0.heap.size + 1) 114 (zrep heldZ N).toArray) := Lib.hid (by
          have := (Blk.new (W0.alloc (.cells (zrep rowZ N).toArray 54)) 114 (zrep heldZ N).toArray).alloc (.cells (zrep [Value.bool false] N).toArray 4)
          simpa using this)
        have HKB : Hid (Blk (((W0.alloc (.cells (zrep rowZ N).toArray 54)).alloc (.cells (zrep heldZ N).toArray 114)).alloc (.cells (zrep [Value.bool false] N).toArray 4)) (W0.heap.size + 2) 4 (onL N fun j => decide (j < 0) && on t j).toArray) := Lib.hid (by
          have h1 := Blk.new ((W0.alloc (.cells (zrep rowZ N).toArray 54)).alloc (.cells (zrep heldZ N).toArray 114)) 4 (zrep [Value.bool false] N).toArray
          rw [show ((W0.alloc (.cells (zrep rowZ N).toArray 54)).alloc (.cells (zrep heldZ N).toArray 114)).heap.size = W0.heap.size + 2 from by simp, zrep_onL] at h1
          rw [show (onL N fun j => decide (j < 0) && on t j) = onL N fun _ => false from by simp]
          rw [zrep_onL]
          exact h1)
        generalize (((W0.alloc (.cells (zrep rowZ N).toArray 54)).alloc (.cells (zrep heldZ N).toArray 114)).alloc (.cells (zrep [Value.bool false] N).toArray 4)) = w5 at HBo HST5 HW5 HKO HKS HKB ⊢
        clear HBo HST HWA hwW
        obtain ⟨ob, hob⟩ : ∃ ob, ob = W0.heap.size + 1 + 1 := ⟨_, rfl⟩
        rw [← hob]
        obtain ⟨cb, hcb⟩ : ∃ cb, cb = W0.heap.size + 1 := ⟨_, rfl⟩
        rw [← hcb]
        have HKB : Hid (Blk w5 ob 4 (onL N fun j => decide (j < 0) && on t j).toArray) := Lib.hid (by rw [hob]; exact HKB.out)
        have HKS : Hid (Blk w5 cb 114 (zrep heldZ N).toArray) := Lib.hid (by rw [hcb]; exact HKS.out)
        have hcb1 : W0.heap.size < cb := by omega
        have hcb2 : cb < ob := by omega
        clear hob hcb
        generalize W0.heap.size = oa at HT5 HVW hwo HKO hcb1 ⊢
        have h5 : ob < w5.heap.size := HKB.out.lt
        obtain ⟨tn, htn⟩ : ∃ tn, tn = t * N := ⟨_, rfl⟩
        have e1 : (t : Int) * (N : Int) = (tn : Int) := by rw [htn]; push_cast; rfl
        have htnl : tn ≤ 1000 := by rw [htn]; exact Nat.le_trans (Nat.mul_le_mul (by omega : t ≤ 54) h16) (by omega)
        have HTN := Lib.hid htn
        have wr1 : IntKind.i64.wrap (tn : Int) = tn := IntWalk.i64_in _ (by omega)
        clear htn
        obtain ⟨j, hj⟩ : ∃ j, t / 6 % xl = j := ⟨_, rfl⟩
        have hjl : j < xl := by rw [← hj]; exact Nat.mod_lt _ hx0
        obtain ⟨x, xb', xo', hxv, hx1', hx2', hxe, hxbl', hxc'⟩ := HY.out.at_ hjl
        cases hxe
        obtain ⟨t5, ht5⟩ : ∃ t5, t5 = t / 6 := ⟨_, rfl⟩
        have ht5l : t5 ≤ 20 := by omega
        have e2 : (t : Int).tdiv 6 = (t5 : Int) := by rw [ht5, Int.tdiv_eq_ediv_of_nonneg (by omega)]; norm_cast
        have e3 : (t : Int) / 6 = (t5 : Int) := by rw [ht5]; norm_cast
        have e4 : (t5 : Int).tmod xl = (j : Int) := by rw [← hj, ← ht5, Int.tmod_eq_emod_of_nonneg (by omega)]; norm_cast
        have e5 : (t5 : Int) % xl = (j : Int) := by rw [← hj, ← ht5]; norm_cast
        have wr5 : IntKind.i64.wrap (t5 : Int) = t5 := IntWalk.i64_in _ (by omega)
        have e6 : ¬ (xl : Int) = 0 := by omega
        have e7 : (j : Int) < xl := by omega
        have e8 : (0 : Int) ≤ j := by omega
        have hxon : ∀ k, on t k = onB x k := fun k => by
          rw [HON.out]
          unfold onX
          rw [HY.out.1, hj, List.getD_eq_getElem?_getD, hxv]; rfl
        have HXON := Lib.hid hxon
        have HXC := Lib.hid (And.intro hxbl' hxc')
        clear hxon hxv hxc' hj ht5
        go_wp2_with fail
        go_loopw [14] (fun s14 wq => ∃ k : Nat, k ≤ N ∧ s14 = .int .i64 k ∧ Chg (· = ob) w5 wq ∧ Blk wq (ob) 4 (onL N fun j => decide (j < k) && on t j).toArray) (fun k _ => N - (intOf k).toNat)
        case atStart => exact ⟨0, by omega, rfl, Chg.refl _ _, HKB.out⟩
        case round =>
          obtain ⟨k, hk, rfl, hch, hkb⟩ := hrel
          by_cases hkN : k < N
          · have hkN1 : (k : Int) < N := by omega
            have hk0 : (0 : Int) ≤ k := by omega
            have hxb5 : xb < oa := by omega
            have dx := (hch.cell (p := ⟨xb, xo + j, none⟩) (by show xb < _; omega) (by show ¬ xb = _; omega)).trans ((HST5.out.bel.cell (p := ⟨xb, xo + j, none⟩) HXC.out.1).trans HXC.out.2)
            have don : wr.cell? ⟨ob, k, none⟩ = some (.bool (decide (k < k) && on t k)) := by rw [hkb.cell]; simp only [List.getElem?_toArray]; exact onL_at hkN
            have zon := hkb.frozen k
            have HCH2 := Lib.hid hch
            have HKB2 := Lib.hid hkb
            clear hch hkb
            go_upto_region 16 with fail
            obtain ⟨q, hq⟩ : ∃ q, q = on t k := ⟨_, rfl⟩
            have e9 : (bits BinOp.and IntKind.u16 (x / 2 ^ k) 1 == 0) = q := by rw [hq, HXON.out k]; rfl
            rw [e9]
            have hc1 := Lib.hid (HCH2.out.set_at k (.bool q))
            have hb2 := HKB2.out.set_ k (.bool q)
            have hset : (onL N fun j => decide (j < k) && on t j).set k (.bool q) = onL N fun j => decide (j < k + 1) && on t j := by
              have := onL_set (N := N) (on := fun j => decide (j < k) && on t j) (on' := fun j => decide (j < k + 1) && on t j) (i := k) (fun j _ hne => by
                have : (j < k + 1) = (j < k) := by simp; omega
                simp only [this])
              simpa [hq] using this
            rw [List.setIfInBounds_toArray, hset] at hb2
            have HKB3 := Lib.hid hb2
            generalize wr.setCell ⟨ob, k, none⟩ (.bool q) = w6 at hc1 HKB3 ⊢
            clear hq e9 hset hb2 don zon dx
            go_wp2_with fail
            exact ⟨⟨k + 1, by omega, by go_num, hc1.out, HKB3.out⟩, by simp [intOf]; omega⟩
          · have hkN1 : ¬ (k : Int) < N := by omega
            obtain ⟨w6, rfl⟩ : ∃ w6, w6 = wr := ⟨_, rfl⟩
            have hkb' : (onL N fun j => decide (j < k) && on t j) = onL N fun j => on t j := onL_congr fun j hj => by
              have : j < k := by omega
              simp [this]
            rw [hkb'] at hkb
            have HKB6 := Lib.hid hkb
            have HST6 := Lib.hid (HST5.out.own_ hch (HT5.out _ (by omega)) (by simp [Value.ownBlock]) (by omega))
            have HW6 := Lib.hid (HW5.out.turn hch (fun b hb => by subst hb; exact ⟨HT5.out _ (by omega), fun e => by have := (HVW.out _ e).2.1; omega⟩) (fun b h => h) (fun g hg => (HVW.out g hg).2.2))
            have HKO6 := Lib.hid (HKO.out.chg hch (by omega))
            have HKS6 := Lib.hid (HKS.out.chg hch (by omega))
            have h6 : ob < w6.heap.size := hkb.lt
            clear hkb hch hkb' hk HST5 HW5 HKO HKS HKB e2 e3 e4 e5 e6 e7 e8 wr5 ht5l HXON HXC hx1' hx2' h5
            have HNN : Hid ((rgT N F on own t).N = N) := Lib.hid (rgT_N N F on own t).1
            have HHC := Lib.hid (hear_tick N F on own (oc := N) HST6.out.r (by omega : t ≤ 100000) (fun i hi => by rw [HKB6.out.cell]; simp only [List.getElem?_toArray]; exact onL_at hi) HKB6.out.lt (fun h => by have := h.2; rw [HT5.out _ (by omega)] at this; omega))
            go_wp2_with fail
            (with_reducible refine HHC.out.mono ?_)
            rintro e W hh
            obtain ⟨tag8, P8, hv, rfl, hl8, hheld, htg8, hc8⟩ := HST6.out.hear hh
            rw [HNN.out] at hheld hc8
            have H8 := Lib.hid hl8
            have HH8 := Lib.hid hheld
            have hs8 := hc8.size
            have HRN : Hid (∀ b, oa ≤ b → ¬ Rgs tag N b) := Lib.hid fun b hb h => by have := h.2; rw [HT5.out _ hb] at this; omega
            have HW8 := Lib.hid (HW6.out.rgs (M := N) h16 hc8 htg8)
            have HKO8 := Lib.hid (HKO6.out.chg hc8 (HRN.out _ (by omega)))
            have HKS8 := Lib.hid (HKS6.out.chg hc8 (HRN.out _ (by omega)))
            have HKB8 := Lib.hid (HKB6.out.chg hc8 (HRN.out _ (by omega)))
            have HT8 : Hid (tag8 oa = 98 ∧ tag8 (cb) = 98 ∧ tag8 (ob) = 98) := Lib.hid ⟨by rw [htg8 _ (by omega)]; exact HT5.out _ (by omega), by rw [htg8 _ (by omega)]; exact HT5.out _ (by omega), by rw [htg8 _ (by omega)]; exact HT5.out _ (by omega)⟩
            have HV8 : Hid (∀ g, (Value.slice a t cap).ownBlock = some g → w.heap.size ≤ g ∧ g < oa ∧ tag8 g = 98) := Lib.hid fun g hg => ⟨(HVW.out g hg).1, (HVW.out g hg).2.1, by rw [htg8 _ (by have := (HVW.out g hg).2.1; omega)]; exact (HVW.out g hg).2.2⟩
            obtain ⟨hg, hcap, rfl, hgS, hgl, hgc1, hgc2, -⟩ := hheld
            have hgS1 := hgS.1
            clear hh hl8 htg8 hc8 HHC HKB6 HKO6 HKS6 HST6 HW6 HT5 HVW HRN hgS
            obtain ⟨V, hV, hoi⟩ := OwnI.startC (W := W) (a := oa) (S := fun b => W.heap.size ≤ b) (by omega) HKO8.out (own t)
            obtain rfl : oa = V.heap.size := hV.symm
            have HOI := Lib.hid hoi
            have HCI := Lib.hid (HdsI.start HKS8.out (saidH on (cellsC X N) t))
            clear hV hoi HKO8 HKS8
            have hWV : ob < W.heap.size := by omega
            go_wp2_with fail
            go_loopw [16] (fun s16 wq => ∃ i : Nat, i ≤ N ∧ s16 = .int .i64 i ∧ OwnI V (fun b => W.heap.size ≤ b) (own t) N i wq ∧ HdsI (cb) (saidH on (cellsC X N) t) N i wq ∧ Chg (fun b => b = V.heap.size ∨ b = cb) W wq) (fun i _ => N - (intOf i).toNat)
            case atStart => exact ⟨0, by omega, rfl, HOI.out, HCI.out, Chg.refl _ _⟩
            case round =>
              obtain ⟨i, hi, rfl, hoi, hci, hch⟩ := hrel
              obtain ⟨wq, rfl⟩ : ∃ wq, wq = wr := ⟨_, rfl⟩
              by_cases hiN : i < N
              · have hiN1 : (i : Int) < N := by omega
                have hi0 : (0 : Int) ≤ i := by omega
                obtain ⟨qo, hqo⟩ : ∃ qo, qo = on t i := ⟨_, rfl⟩
                have don : wq.cell? ⟨ob, i, none⟩ = some (.bool qo) := by
                  rw [hch.cell (p := ⟨ob, i, none⟩) HKB8.out.lt (by show ¬ (ob = _ ∨ ob = _); omega), HKB8.out.cell]; simp only [List.getElem?_toArray]; rw [onL_at hiN, hqo]
                have HQO := Lib.hid hqo
                clear hqo
                cases qo with
                | false =>
                  have HE := Lib.hid (And.intro (hoi.skipB (by rw [HOW.out, ownR_eq, if_neg (by rw [← HQO.out]; simp)])) (And.intro (hci.skip (by unfold saidH; rw [if_neg (by rw [← HQO.out]; simp)])) hch))
                  clear hoi hci hch
                  go_wp2_with fail
                  exact ⟨⟨i + 1, by omega, by go_num, HE.out⟩, by simp [intOf]; omega⟩
                | true =>
                  obtain ⟨g', c', he, hgS8, hgl8, -, -, hcell⟩ := HH8.out
                  cases he
                  obtain ⟨hu, hgi, ha, hnn, hcc, rfl, hrd, hmc, hcm⟩ := hcell i hiN
                  obtain ⟨l, hl⟩ : ∃ l, l = ((rgT N F on own t).hear (on t)).held i := ⟨_, rfl⟩
                  have hlen : l.length = N := by rw [hl, HOW.out]; exact heldR_len N F on (cellsC X N) HQO.out.symm hiN
                  have hoi_eq : own t i = ⟨true, cellsC X N t i, tabL l⟩ := by
                    rw [hl, HOW.out, ownR_eq, if_pos HQO.out.symm]
                  rw [← hl] at hrd
                  obtain rfl : N = hnn := by rw [← hrd.1, hlen]
                  have hgi2 := (hch.cell (p := ⟨hg, i, none⟩) hgl8 (by show ¬ (hg = _ ∨ hg = _); omega)).trans hgi
                  have HTB := Lib.hid (table_any _ ha N hcc l wq (hrd.keep hch.size fun b hb hl => hch.block b hl (by have := hb.1; omega)) hmc hcm (by omega))
                  have hcbq := hci.lt
                  have hsq := hch.size
                  have HLO := Lib.hid (tabL_ok hrd.2.1)
                  have HRT := Lib.hid (rowT_ok hrd.2.1)
                  have HTL : Hid ((tabL l).length = N) := Lib.hid (by simp [tabL, hlen])
                  have HQ := Lib.hid (And.intro hoi (And.intro hci (And.intro hoi_eq hch)))
                  clear hcell hlen hoi_eq hrd hoi hci hl hch hgS8
                  go_wp2_with fail
                  (with_reducible refine HTB.out.mono ?_)
                  rintro e w6 ⟨⟨v, rfl, hvv⟩, hb6⟩
                  obtain ⟨ta, rfl, hta⟩ := hvv.rd HLO.out
                  rw [HTL.out] at hta ⊢
                  obtain ⟨h', hh1, hh2⟩ : ∃ h' : Nat → Rw, h' i = rowT l ∧ ∀ s, s ≠ i → h' s = own t s := ⟨fun s => if s = i then rowT l else own t s, by simp, fun s hs => by simp [hs]⟩
                  have hoi6 := (HQ.out.1.keepB hb6).congr (h' := h') (fun s hs => (hh2 s (by omega)).symm)
                  obtain ⟨cp7, ho7⟩ := hoi6.step hiN (by rw [hh1]; exact HRT.out) (tv := .slice ta N N) (by rw [hh1]; exact ⟨ta, N, N, rfl, hta.mono fun b _ hb => by omega, Nat.le_refl _, by simp only [maxLen]; omega⟩)
                  rw [hh1, rowT_vals] at ho7
                  have hci6 := HQ.out.2.1.keep (hb6.block (cb) hcbq)
                  have hci7 := hci6.keep (w' := putRow w6 ⟨V.heap.size, i * 57, none⟩ (.bool true :: (cellZ ++ [.slice ta N N]))) (putRow_other _ _ _ _ (by show cb ≠ V.heap.size; omega))
                  have hch7 := (HQ.out.2.2.2.trans (Chg.of_below hb6 _)).put (p := ⟨V.heap.size, i * 57, none⟩) (.inl (.inl rfl)) (.bool true :: (cellZ ++ [.slice ta N N]))
                  have HO7 := Lib.hid (And.intro ho7 (And.intro hci7 hch7))
                  have HH7 := Lib.hid (And.intro hh1 hh2)
                  clear hvv hta hoi6 ho7 hci6 hci7 hh1 hh2 hb6 HTB hgi2 hch7 don
                  go_upto_region 24 with fail
                  generalize putRow w6 ⟨V.heap.size, i * 57, none⟩ (.bool true :: (cellZ ++ [.slice ta N N])) = w7 at HO7 ⊢
                  clear cp7
                  by_cases hcl : cl = 0
                  · have hcl0 : ¬ (0 : Int) < cl := by omega
                    have hoe : own t i = rowT l := by rw [HQ.out.2.2.1, cellsC_nil (by rw [HX.out.1]; exact hcl)]; rfl
                    clear hcl
                    have ho8 := HO7.out.1.congr (h' := own t) (fun s hs => by
                      by_cases hsi : s = i
                      · rw [hsi, HH7.out.1, hoe]
                      · exact HH7.out.2 s hsi)
                    have HO8 := Lib.hid (And.intro ho8 HO7.out.2)
                    clear hoe ho8
                    obtain ⟨k1, k2, k3⟩ := HO8.out.1.cell_at hiN (Nat.lt_succ_self i)
                    rw [HQ.out.2.2.1] at k3
                    obtain ⟨cv, hcv⟩ : ∃ cv, cv = cellsC X N t i := ⟨_, rfl⟩
                    have hck := HCok.out t i
                    dsimp only at k3
                    rw [← hcv] at k3 hck
                    have HCA := Lib.hid (cellL_any cv hck w7)
                    have hcl55 : cv.length = 55 := (okL_len hck).trans len_cellK
                    have hcall := okL_cell1 hck
                    have hnk := nrm_ok hck
                    have hnl55 : (nrm cv).length = 55 := (okL_len hnk).trans len_cellK
                    have hnall := okL_cell1 hnk
                    have hsd : saidH on (cellsC X N) t i = ⟨true, nrm cv⟩ := by unfold saidH; rw [if_pos HQO.out.symm, hcv]
                    have HSD := Lib.hid hsd
                    clear hck hnk hcv hsd
                    go_wp2_with fail
                    (with_reducible refine HCA.out.mono ?_)
                    rintro e w8 ⟨rfl, hb8⟩
                    have hci8 := HO8.out.2.1.keep (hb8.block (cb) HO8.out.2.1.lt)
                    obtain ⟨cp9, hci9⟩ := hci8.step hiN (saidH_ok HCok.out t i)
                    rw [HSD.out] at hci9
                    have HE := Lib.hid (And.intro ((HO8.out.1.keepB hb8).otherB ((Chg.refl (· = cb) w8).put (p := ⟨cb, i * 56, none⟩) (.inl rfl) (.bool true :: nrm cv)) (by omega) (by omega) (by omega)) (And.intro hci9 ((HO8.out.2.2.trans (Chg.of_below hb8 _)).put (p := ⟨cb, i * 56, none⟩) (.inl (.inr rfl)) (.bool true :: nrm cv))))
                    clear hci8 hci9 hb8 k2 k3
                    go_wp2_with fail
                    exact ⟨⟨i + 1, by omega, by go_num, HE.out⟩, by simp [intOf]; omega⟩
                  · obtain ⟨j, hj⟩ : ∃ j, (tn + i) % cl = j := ⟨_, rfl⟩
                    have hjl : j < cl := by rw [← hj]; exact Nat.mod_lt _ (by omega)
                    obtain ⟨cbk, coff, c, rfl, hcS, hcw, hcv0, hcok, hcl5, hcall0, hr1, hr2⟩ := HX.out.at_ j hjl
                    have hbw7 := H8.out.bel.trans (HO7.out.2.2.below (B := w.heap.size) (by omega) (fun b hb => by omega))
                    have hd := row_below hbw7 (p := ⟨cbk, coff + j * 55, none⟩) hcw 55
                    have d1 := hd.1.trans hr1
                    have d2 := hd.2.trans hr2
                    have hce : cellsC X N t i = c := cellsC_at (j := j) (by rw [← HTN.out, HX.out.1]; exact hj) hcv0
                    obtain ⟨cp8, ho8⟩ := HO7.out.1.setCell (h' := own t) hiN (Nat.lt_succ_self i) hcok (by rw [HQ.out.2.2.1, HH7.out.1, hce]; rfl) (fun s hs => (HH7.out.2 s hs).symm)
                    have hci7 := HO7.out.2.1.keep (w' := putRow w7 ⟨V.heap.size, i * 57 + 1, none⟩ c) (putRow_other _ _ _ _ (by show cb ≠ V.heap.size; omega))
                    have hch8 := HO7.out.2.2.put (p := ⟨V.heap.size, i * 57 + 1, none⟩) (.inl (.inl rfl)) c
                    have HO8 := Lib.hid (And.intro ho8 (And.intro hci7 hch8))
                    have wr2 : IntKind.i64.wrap ((tn : Int) + i) = (tn : Int) + i := IntWalk.i64_in _ (by omega)
                    have f1 : ((tn : Int) + i).tmod cl = (j : Int) := by rw [← hj, Int.tmod_eq_emod_of_nonneg (by omega)]; norm_cast
                    have f2 : ((tn : Int) + i) % cl = (j : Int) := by rw [← hj]; norm_cast
                    have f3 : ¬ (cl : Int) = 0 := by omega
                    have f4 : (0 : Int) < cl := by omega
                    have f5 : (j : Int) < cl := by omega
                    have f6 : (0 : Int) ≤ j := by omega
                    clear hbw7 hd hr1 hr2 hce hcv0 hcok hj ho8 hci7 hch8
                    go_upto_region 26 with fail
                    generalize putRow w7 ⟨V.heap.size, i * 57 + 1, none⟩ c = w7b at HO8 ⊢
                    clear d1 d2 cp8 f1 f2 f3 f4 f5 f6 wr2
                    obtain ⟨w7, rfl⟩ : ∃ w7, w7 = w7b := ⟨_, rfl⟩
                    obtain ⟨k1, k2, k3⟩ := HO8.out.1.cell_at hiN (Nat.lt_succ_self i)
                    rw [HQ.out.2.2.1] at k3
                    obtain ⟨cv, hcv⟩ : ∃ cv, cv = cellsC X N t i := ⟨_, rfl⟩
                    have hck := HCok.out t i
                    dsimp only at k3
                    rw [← hcv] at k3 hck
                    have HCA := Lib.hid (cellL_any cv hck w7)
                    have hcl55 : cv.length = 55 := (okL_len hck).trans len_cellK
                    have hcall := okL_cell1 hck
                    have hnk := nrm_ok hck
                    have hnl55 : (nrm cv).length = 55 := (okL_len hnk).trans len_cellK
                    have hnall := okL_cell1 hnk
                    have hsd : saidH on (cellsC X N) t i = ⟨true, nrm cv⟩ := by unfold saidH; rw [if_pos HQO.out.symm, hcv]
                    have HSD := Lib.hid hsd
                    clear hck hnk hcv hsd
                    go_wp2_with fail
                    (with_reducible refine HCA.out.mono ?_)
                    rintro e w8 ⟨rfl, hb8⟩
                    have hci8 := HO8.out.2.1.keep (hb8.block (cb) HO8.out.2.1.lt)
                    obtain ⟨cp9, hci9⟩ := hci8.step hiN (saidH_ok HCok.out t i)
                    rw [HSD.out] at hci9
                    have HE := Lib.hid (And.intro ((HO8.out.1.keepB hb8).otherB ((Chg.refl (· = cb) w8).put (p := ⟨cb, i * 56, none⟩) (.inl rfl) (.bool true :: nrm cv)) (by omega) (by omega) (by omega)) (And.intro hci9 ((HO8.out.2.2.trans (Chg.of_below hb8 _)).put (p := ⟨cb, i * 56, none⟩) (.inl (.inr rfl)) (.bool true :: nrm cv))))
                    clear hci8 hci9 hb8 k2 k3
                    go_wp2_with fail
                    exact ⟨⟨i + 1, by omega, by go_num, HE.out⟩, by simp [intOf]; omega⟩
              · have hiN1 : ¬ (i : Int) < N := by omega
                obtain rfl : N = i := by omega
                obtain ⟨wx, rfl⟩ : ∃ wx, wx = wq := ⟨_, rfl⟩
                have HRO := Lib.hid (hoi.rd (fun s h1 h2 => by omega))
                have HCX := Lib.hid hci
                have hsx := hch.size
                have hcx := hci.lt
                obtain ⟨tag7, htag7⟩ : ∃ tag7, tag7 = tagS tag8 (cb) := ⟨_, rfl⟩
                have HT98 : Hid (∀ b, b ≠ cb → tag7 b = tag8 b) := Lib.hid fun b hb => by rw [htag7]; exact tagS_ne hb
                have HT0 : Hid (tag7 (cb) = 0) := Lib.hid (by rw [htag7]; exact tagS_same _ _)
                have H8x : Hid (LSt (fun _ => []) 0 w rg (.slice aa an ac) ((rgT N F on own t).hear (on t)) tag7 P8 (.slice none 0 0) [] wx) := Lib.hid ((H8.out.turnV hch (fun b hb => by
                  rcases hb with rfl | rfl
                  · exact ⟨HT8.out.1, by omega⟩
                  · exact ⟨HT8.out.2.1, by omega⟩)).sealV (tag' := tag7) (fun b => by
                    by_cases hb : b = cb
                    · subst hb; exact .inr ⟨HT8.out.2.1, HT0.out, hcx⟩
                    · exact .inl (HT98.out b hb)))
                have HVX : Hid (∀ g, (Value.slice a t cap).ownBlock = some g → w.heap.size ≤ g ∧ g < V.heap.size ∧ tag7 g = 98) := Lib.hid fun g hg => ⟨(HV8.out g hg).1, (HV8.out g hg).2.1, by rw [HT98.out g (by have := (HV8.out g hg).2.1; omega)]; exact (HV8.out g hg).2.2⟩
                have HWX := Lib.hid (HW8.out.turn (tag' := tag7) hch (fun b hb => by
                  rcases hb with rfl | rfl
                  · exact ⟨HT8.out.1, fun e => by have := (HVX.out _ e).2.1; omega⟩
                  · exact ⟨HT8.out.2.1, fun e => by have := (HVX.out _ e).2.1; omega⟩) (fun b h0 => by
                    by_cases hb : b = cb
                    · subst hb; exact HT0.out
                    · rw [HT98.out b hb]; exact h0) (fun g hg => (HVX.out g hg).2.2))
                have HTX : Hid (∀ b, W.heap.size ≤ b → tag8 b = 98) := Lib.hid fun b hb => H8.out.r.tg b hb
                have HKBx := Lib.hid (HKB8.out.chg hch (by omega))
                have HHx := Lib.hid (HH8.out.keep hch.size fun b hb hl => hch.block b hl (by have := hb.1; omega))
                clear hoi hci hch hi HOI HCI htag7 H8 HW8 HH8 HKB8 HV8
                go_wp2_with (at_builtin; refine wpList_lies app_hlist (by rfl) (.tmp 132) (.tmp 134) (by rfl) w.heap.size _ _ _ (by rfl) (HWX.out.own.alloc _) ⟨wx.heap.size, 0, none⟩ 1 1 [.slice (some ⟨cb, 0, none⟩) N N] (by rfl) (by simp) (hasRow_new wx _ _ 0 1 (by simp)) (rowOf_new wx _ _ 0 1 (by simp)) (by rfl) (by omega) (by omega) (by simp; omega) ?_; intro gg cp w7 hown1 hgrow hlie; have H7 := Lib.hid (H8x.out.grewV (fun g hg => ⟨(HVX.out g hg).1, (HVX.out g hg).2.2⟩) hgrow); have HW7 := Lib.hid (HWX.out.push (by omega) hcx HT0.out HCX.out hgrow (fun b hb => by rw [HT98.out b (by omega)]; exact HTX.out b (by omega)) hown1 hlie); have H7b := Lib.hid hgrow; clear hown1 hgrow hlie)
                have hs7 : wx.heap.size < w7.heap.size := by have := H7b.out.size; simp at this; omega
                have HS7 : Hid (∀ b, tag8 b = 98 → ¬ Rgs tag7 N b) := Lib.hid fun b h98 hr => by
                  by_cases hb : b = cb
                  · subst hb; have := hr.1; rw [HT0.out] at this; omega
                  · have := hr.2; rw [HT98.out b hb, h98] at this; omega
                have HSo : Hid (∀ b, (b = V.heap.size ∨ W.heap.size ≤ b) → ¬ Rgs tag7 N b) := Lib.hid fun b hb => by
                  rcases hb with rfl | hb
                  · exact HS7.out _ HT8.out.1
                  · exact HS7.out _ (HTX.out b hb)
                have HR7 : Hid (RdRs (fun b => b = V.heap.size ∨ W.heap.size ≤ b) w7 (some ⟨V.heap.size, 0, none⟩) N (tab N (own t))) := Lib.hid (HRO.out.keep (by omega) fun b hb hl => (H7b.out.block b (by simp; omega) (fun e => by
                  have h1 := (HVX.out b e.symm).2.1
                  rcases hb with rfl | hb
                  · omega
                  · omega)).trans (Below.heap_alloc _ _ _ hl))
                have HK7 : Hid (Blk w7 (ob) 4 (onL N fun j => on t j).toArray) := Lib.hid ((H7b.out.block (ob) (by simp; omega) (fun e => by have := (HVX.out _ e.symm).2.1; omega)).trans (HKBx.out.alloc _))
                have HH7 := Lib.hid (HHx.out.keep (by omega : wx.heap.size ≤ w7.heap.size) fun b hb hl => (H7b.out.block b (by simp; omega) (fun e => by have h1 := (HVX.out b e.symm).2.1; have h2 := hb.1; omega)).trans (Below.heap_alloc _ _ _ hl))
                have HSC := Lib.hid (say_tick N F on own (oc := N) H7.out.r (by omega : t ≤ 100000) HR7.out (fun b hbl hb => HSo.out b hb) (Nat.le_refl _))
                go_wp2_with fail
                (with_reducible refine HSC.out.mono ?_)
                rintro e w9 hs
                obtain ⟨rfl, tag9, P9, hl9, htg9, hc9⟩ := H7.out.say hs
                have HNN8 : ((rgT N F on own t).hear (on t)).N = N := HNN.out
                rw [HNN8] at hc9
                have H9 : Hid (LSt (fun _ => []) 0 w rg (.slice aa an ac) (rgT N F on own (t + 1)) tag9 P9 (.slice none 0 0) [] w9) := Lib.hid hl9
                have HW9 := Lib.hid (HW7.out.rgs (M := N) h16 hc9 htg9)
                have hs9 := hc9.size
                have HH9 := Lib.hid (HH7.out.keep hs9 fun b hb hl => hc9.block b hl (HS7.out b hb.2))
                have HK9 := Lib.hid (HK7.out.chg hc9 (HS7.out _ HT8.out.2.2))
                clear hs hl9 htg9 hc9 HSC HNN8
                clear H7 H7b HR7 HK7 HSo HS7 HW7 HH7 HHx HKBx HWX HCX HRO H8x HVX HT98 HT0 HTX HT8
                have HNF := Lib.hid (rgT_N N F on own (t + 1))
                go_wp2_with fail
                go_loopw [17] (fun s17 wq => ∃ i : Nat, i ≤ N ∧ s17 = .int .i64 i ∧ Below w9.heap.size w9 wq) (fun i _ => N - (intOf i).toNat)
                case atStart => exact ⟨0, by omega, rfl, Below.refl _ _⟩
                case round =>
                  obtain ⟨i, hi, rfl, hbq⟩ := hrel
                  obtain ⟨wq, rfl⟩ : ∃ wq, wq = wr := ⟨_, rfl⟩
                  have HBQ := Lib.hid hbq
                  clear hbq
                  by_cases hiN : i < N
                  · have hiN1 : (i : Int) < N := by omega
                    have hi0 : (0 : Int) ≤ i := by omega
                    have HBI := Lib.hid (bad_node H9.out.r HBQ.out HNF.out.1 HNF.out.2 hiN)
                    obtain ⟨qi, hqi⟩ : ∃ qi, qi = (!F.link && decide (F.at_ % N = i)) := ⟨_, rfl⟩
                    rw [← hqi] at HBI
                    have HQI := Lib.hid hqi
                    clear hqi
                    obtain ⟨qo, hqo⟩ : ∃ qo, qo = on t i := ⟨_, rfl⟩
                    have don : wq.cell? ⟨ob, i, none⟩ = some (.bool qo) := by
                      rw [(HBQ.out.cell (p := ⟨ob, i, none⟩) HK9.out.lt), HK9.out.cell]
                      simp only [List.getElem?_toArray]
                      rw [onL_at hiN, hqo]
                    have HQO := Lib.hid hqo
                    clear hqo
                    cases qo with
                    | false =>
                      go_wp2_with fail
                      exact ⟨⟨i + 1, by omega, by go_num, HBQ.out⟩, by simp [intOf]; omega⟩
                    | true =>
                      go_wp2_with fail
                      (with_reducible refine HBI.out.mono ?_)
                      rintro e wb ⟨rfl, hbb⟩
                      have HBB := Lib.hid (HBQ.out.trans (hbb.mono HBQ.out.size))
                      clear hbb HBI don
                      cases qi with
                      | true =>
                        go_wp2_with fail
                        exact ⟨⟨i + 1, by omega, by go_num, HBB.out⟩, by simp [intOf]; omega⟩
                      | false =>
                        have HNB : Hid (¬ Bd N F i) := Lib.hid fun h => by have := HQI.out; rw [h.1, h.2] at this; simp at this
                        obtain ⟨g', c', he, -, hgl9, -, -, hcell⟩ := HH9.out
                        cases he
                        obtain ⟨hu, hgi, ha, hnn, hcc, rfl, hrd, hmc, hcm⟩ := hcell i hiN
                        have hlen : (((rgT N F on own t).hear (on t)).held i).length = N := by rw [HOW.out]; exact heldR_len N F on (cellsC X N) HQO.out.symm hiN
                        obtain rfl : N = hnn := by rw [← hrd.1, hlen]
                        have HAG := Lib.hid (agree_any _ N ha N hcc _ wb (hrd.keep HBB.out.size fun b _ hl => HBB.out.block b hl) hmc hcm)
                        obtain ⟨A, hA⟩ : ∃ A, A = agreeL N (((rgT N F on own t).hear (on t)).held i) := ⟨_, rfl⟩
                        have HAL : Hid (A.length = N) := Lib.hid (by rw [hA]; exact agreeL_len N h4 h16 _)
                        have HAO : Hid (∀ x ∈ A, x.ok) := Lib.hid (by rw [hA]; exact agreeL_ok)
                        rw [← hA] at HAG
                        have HAE : Hid (A = agreeL N (heldR N F on (cellsC X N) t i)) := Lib.hid (by rw [hA, HOW.out]; rfl)
                        have hgi2 := (HBB.out.cell (p := ⟨hg, i, none⟩) hgl9).trans hgi
                        clear hcell hlen hrd hgi hA
                        go_wp2_with fail
                        (with_reducible refine HAG.out.mono ?_)
                        rintro e wc ⟨⟨v, rfl, hvv⟩, hbc⟩
                        obtain ⟨gv, rfl, hbv⟩ : ∃ g, v = .slice (some ⟨g, 0, none⟩) N N ∧ Blk wc g 114 (flatH A).toArray := by
                          rcases hvv with ⟨g, h1, h2⟩ | ⟨h1, -⟩
                          · rw [HAL.out] at h1; exact ⟨g, h1, h2.1⟩
                          · have := HAL.out; rw [h1] at this; simp at this; omega
                        have HBC := Lib.hid (HBB.out.trans (hbc.mono HBB.out.size))
                        have HBV := Lib.hid hbv
                        have hwc9 := HBC.out.size
                        clear hvv hbc hbv HAG hgi2
                        go_wp2_with fail
                        go_loopw [19] (fun s19 wq => ∃ s : Nat, s ≤ N ∧ s19 = .int .i64 s ∧ Below wc.heap.size wc wq) (fun s _ => N - (intOf s).toNat)
                        case atStart => exact ⟨0, by omega, rfl, Below.refl _ _⟩
                        case round =>
                          obtain ⟨s, hs, rfl, hbr⟩ := hrel
                          obtain ⟨wq, rfl⟩ : ∃ wq, wq = wr := ⟨_, rfl⟩
                          have HBR := Lib.hid hbr
                          clear hbr
                          have hwqc := HBR.out.size
                          by_cases hsN : s < N
                          · have hsN1 : (s : Int) < N := by omega
                            have hs0 : (0 : Int) ≤ s := by omega
                            obtain ⟨qs, hqs⟩ : ∃ qs, qs = (!F.link && decide (F.at_ % N = s)) := ⟨_, rfl⟩
                            have HBS : Hid (∀ w' : World, Below wq.heap.size wq w' → Calls Try.prog 34 #[.pointer (some ⟨rg, 0, none⟩), .int .i64 s] w' (BadPost qs w')) := Lib.hid fun w' hb => by
                              rw [hqs]
                              exact bad_node H9.out.r (HBC.out.trans ((HBR.out.trans (hb.mono hwqc)).mono hwc9)) HNF.out.1 HNF.out.2 hsN
                            obtain ⟨x, hx⟩ : ∃ x, A[s]? = some x := ⟨_, List.getElem?_eq_getElem (by rw [HAL.out]; exact hsN)⟩
                            have hxk := HAO.out x (List.mem_of_getElem? hx)
                            have hFX : ∀ (w' : World), Below wq.heap.size wq w' → hasRow w' ⟨gv, s * 56, none⟩ 56 = true ∧ rowOf w' ⟨gv, s * 56, none⟩ 56 = x.vals ∧ w'.cell? ⟨gv, s * 56, none⟩ = some (.bool x.is) := fun w' hb => by
                              have hbb := HBR.out.trans (hb.mono hwqc)
                              have hbk := HBV.out.below hbb HBV.out.lt
                              obtain ⟨q1, q2⟩ := blk_hdV hbk HAO.out hx
                              refine ⟨q1, q2, ?_⟩
                              have := flatH_at HAO.out hx (j := 0) (by omega)
                              rw [hbk.cell]
                              simp only [List.getElem?_toArray]
                              rw [Nat.add_zero] at this
                              rw [this]; rfl
                            have hkx := Hd.vals_ok hxk
                            by_cases hgo2 : qs = false ∧ x.is = true
                            · obtain ⟨rfl, hxi⟩ := hgo2
                              have hbs : ¬ Bd N F s := fun h => by rw [h.1, h.2] at hqs; simp at hqs
                              obtain ⟨y, hy1, -, hy2⟩ := agree_right N F on (cellsC X N) h4 h16 HFo.out HCok.out (t := t) hiN hsN HNB.out hbs HQO.out.symm
                              rw [← HAE.out, hx] at hy1
                              cases hy1
                              obtain ⟨h2N, hond, hxe⟩ := hy2 hxi
                              obtain ⟨d, hd⟩ : ∃ d, t = d + 2 * N := ⟨t - 2 * N, by omega⟩
                              rw [show t - 2 * N = d from by omega] at hond hxe
                              obtain ⟨cv, hcv⟩ : ∃ cv, cv = nrm (cellsC X N d s) := ⟨_, rfl⟩
                              have hck : okL cellK cv = true := by rw [hcv]; exact nrm_ok (HCok.out d s)
                              have hxv : x.vals = Value.bool true :: cv := by rw [hxe, hcv]; rfl
                              rw [hxv] at hFX hkx
                              rw [hxi] at hFX
                              obtain ⟨g2, c2, u2, he2, hgc, hgm, hg2l, hg2, gc, rfl, hgc1, hgcl, -, hgC⟩ := HW9.out.at_ (j := d) (by omega)
                              cases he2
                              obtain ⟨-, hc1, hc2⟩ := hgC.at_ hsN
                              have hse : (saidH on (cellsC X N) d s).vals = Value.bool true :: cv := by unfold saidH; rw [if_pos hond, hcv]; rfl
                              rw [hse] at hc2
                              have F41 : Hid (∀ w' : World, Below wq.heap.size wq w' → (hasRow w' ⟨gv, s * 56, none⟩ 56 = true ∧ rowOf w' ⟨gv, s * 56, none⟩ 56 = Value.bool true :: cv ∧ w'.cell? ⟨gv, s * 56, none⟩ = some (.bool true) ∧ w'.cell? ⟨gg, d, none⟩ = some (.slice (some ⟨gc, 0, none⟩) N N) ∧ hasRow w' ⟨gc, s * 56, none⟩ 56 = true ∧ rowOf w' ⟨gc, s * 56, none⟩ 56 = Value.bool true :: cv)) := Lib.hid fun w' hb => by
                                have hb9 := HBC.out.trans ((HBR.out.trans (hb.mono hwqc)).mono hwc9)
                                obtain ⟨p1, p2, p3⟩ := hFX w' hb
                                have v2 := row_below hb9 (p := ⟨gc, s * 56, none⟩) hgcl 56
                                exact ⟨p1, p2, p3, (hb9.cell (p := ⟨gg, d, none⟩) hg2l).trans hg2, v2.1.trans hc1, v2.2.trans hc2⟩
                              have e2 : (t : Int) - 2 * (N : Int) = (d : Int) := by omega
                              have w2N : IntKind.i64.wrap (2 * (N : Int)) = 2 * (N : Int) := IntWalk.i64_in _ (by omega)
                              have ht21 : ¬ (t : Int) < 2 * (N : Int) := by omega
                              have ht22 : decide ((t : Int) < 2 * (N : Int)) = false := by simp; omega
                              have wr3 : IntKind.i64.wrap (d : Int) = d := IntWalk.i64_in _ (by omega)
                              have d1 : (d : Int) < (t : Int) + 1 := by omega
                              have d0 : (0 : Int) ≤ d := by omega
                              have hcl55 : cv.length = 55 := (okL_len hck).trans len_cellK
                              have hcc1 := okL_cell1 hck
                              clear hFX hxv hxk hx hqs hxe hc1 hc2 hgC hg2 hgc hgm hd hcv hxi hond h2N hse
                              go_upto_region 37 with fail
                              go_region_held3 (fun w' => hasRow w' ⟨gv, s * 56, none⟩ 56 = true ∧ rowOf w' ⟨gv, s * 56, none⟩ 56 = Value.bool true :: cv ∧ w'.cell? ⟨gv, s * 56, none⟩ = some (.bool true) ∧ w'.cell? ⟨gg, d, none⟩ = some (.slice (some ⟨gc, 0, none⟩) N N) ∧ hasRow w' ⟨gc, s * 56, none⟩ 56 = true ∧ rowOf w' ⟨gc, s * 56, none⟩ 56 = Value.bool true :: cv)
                                (with_reducible (first | exact F41.out _ (Below.refl _ _).drew | exact F41.out _ H41.out))
                                ((first | ((with_reducible refine (HBS.out _ (Below.refl _ _).drew).mono ?_); rintro e w41 ⟨rfl, hb41⟩; have H41 := Lib.hid ((Below.refl wq.heap.size wq).drew.trans hb41); clear hb41)))
                              go_wp2_with fail
                              exact ⟨⟨s + 1, by omega, by go_num, HBR.out.trans (H41.out.mono HBR.out.size)⟩, by simp [intOf]; omega⟩
                            · obtain ⟨xv, hxv⟩ : ∃ xv, xv = x.vals := ⟨_, rfl⟩
                              rw [← hxv] at hFX hkx
                              obtain ⟨xi, hxi⟩ : ∃ xi, xi = x.is := ⟨_, rfl⟩
                              rw [← hxi] at hFX hgo2
                              have F41 := Lib.hid hFX
                              clear hFX hxv hxk hx hqs hxi
                              cases qs with
                              | true =>
                                clear hgo2
                                go_upto_region 37 with fail
                                refine wp_region_held_drew (S := (fun w' => hasRow w' ⟨gv, s * 56, none⟩ 56 = true ∧ rowOf w' ⟨gv, s * 56, none⟩ 56 = xv ∧ w'.cell? ⟨gv, s * 56, none⟩ = some (.bool xi))) (by kernel_rfl) ?_ (fun hHeld => ?_)
                                · exact F41.out _ (Below.refl _ _).drew
                                refine wpAnyH_take (i := 0) (oi := ?_) (v := ?_) ?_ (by kernel_rfl) (by kernel_rfl) (by kernel_rfl) ?_ (Or.inl ⟨?_, ?_⟩) (by assumption) ?_
                                rotate_left 2
                                · simp only [List.getElem?_toArray, List.getElem?_cons_zero, List.getElem?_cons_succ]; rfl
                                · exact fun _ _ _ h => h
                                · rfl
                                · intro w' hSw; (try dsimp only at hSw); (first | (go_simp; done) | (go_simp; with_reducible rfl))
                                try simp only [Act.put, List.setIfInBounds_toArray, List.set_cons_zero, List.set_cons_succ]
                                refine wpAnyH_take (i := 1) (oi := ?_) (v := ?_) ?_ (by kernel_rfl) (by kernel_rfl) (by kernel_rfl) ?_ (Or.inl ⟨?_, ?_⟩) (by assumption) ?_
                                rotate_left 2
                                · simp only [List.getElem?_toArray, List.getElem?_cons_zero, List.getElem?_cons_succ]; rfl
                                · exact fun _ _ _ h => h
                                · rfl
                                · intro w' hSw; (try dsimp only at hSw); (first | (go_simp; done) | (go_simp; with_reducible rfl))
                                try simp only [Act.put, List.setIfInBounds_toArray, List.set_cons_zero, List.set_cons_succ]
                                refine wpAnyH_ready (rs := [2]) (by kernel_rfl) (by simp) ?_
                                refine AllReadyH.cons (o := ?_) ?_ (fun K hK => ?_) AllReadyH.nil
                                rotate_left 1
                                · simp only [List.getElem?_toArray, List.getElem?_cons_zero, List.getElem?_cons_succ]; rfl
                                go_simp
                                go_at_call 34
                                (with_reducible refine (HBS.out _ (Below.refl _ _).drew).mono ?_)
                                rintro e w41 ⟨rfl, hb41⟩
                                have H41 := Lib.hid ((Below.refl wq.heap.size wq).drew.trans hb41)
                                clear hb41
                                refine hK.out _ _ ?_ (fun hHeld => ?_)
                                · exact F41.out _ H41.out
                                clear hK K
                                try simp only [Act.put, List.setIfInBounds_toArray, List.set_cons_zero, List.set_cons_succ]
                                refine wpAnyH_take (i := 3) (oi := ?_) (v := ?_) ?_ (by kernel_rfl) (by kernel_rfl) (by kernel_rfl) ?_ (Or.inl ⟨?_, ?_⟩) (by assumption) ?_
                                rotate_left 2
                                · simp only [List.getElem?_toArray, List.getElem?_cons_zero, List.getElem?_cons_succ]; rfl
                                · exact fun _ _ _ h => h
                                · rfl
                                · intro w' hSw; (try dsimp only at hSw); (first | (go_simp; done) | (go_simp; with_reducible rfl))
                                try simp only [Act.put, List.setIfInBounds_toArray, List.set_cons_zero, List.set_cons_succ]
                                refine wpAnyH_take (i := 4) (oi := ?_) (v := ?_) ?_ (by kernel_rfl) (by kernel_rfl) (by kernel_rfl) ?_ (Or.inl ⟨?_, ?_⟩) (by assumption) ?_
                                rotate_left 2
                                · simp only [List.getElem?_toArray, List.getElem?_cons_zero, List.getElem?_cons_succ]; rfl
                                · exact fun _ _ _ h => h
                                · rfl
                                · intro w' hSw; (try dsimp only at hSw); (first | (go_simp; done) | (go_simp; with_reducible rfl))
                                try simp only [Act.put, List.setIfInBounds_toArray, List.set_cons_zero, List.set_cons_succ]
                                refine wpAnyH_take (i := 5) (oi := ?_) (v := undef) ?_ (by kernel_rfl) (by kernel_rfl) (by kernel_rfl) ?_ (Or.inr ⟨?_, rfl⟩) (by assumption) ?_
                                rotate_left 1
                                · simp only [List.getElem?_toArray, List.getElem?_cons_zero, List.getElem?_cons_succ]; rfl
                                · exact fun _ _ _ h => h
                                · rfl
                                try simp only [Act.put, List.setIfInBounds_toArray, List.set_cons_zero, List.set_cons_succ]
                                refine wpAnyH_take (i := 6) (oi := ?_) (v := undef) ?_ (by kernel_rfl) (by kernel_rfl) (by kernel_rfl) ?_ (Or.inr ⟨?_, rfl⟩) (by assumption) ?_
                                rotate_left 1
                                · simp only [List.getElem?_toArray, List.getElem?_cons_zero, List.getElem?_cons_succ]; rfl
                                · exact fun _ _ _ h => h
                                · rfl
                                try simp only [Act.put, List.setIfInBounds_toArray, List.set_cons_zero, List.set_cons_succ]
                                refine wpAnyH_take (i := 7) (oi := ?_) (v := undef) ?_ (by kernel_rfl) (by kernel_rfl) (by kernel_rfl) ?_ (Or.inr ⟨?_, rfl⟩) (by assumption) ?_
                                rotate_left 1
                                · simp only [List.getElem?_toArray, List.getElem?_cons_zero, List.getElem?_cons_succ]; rfl
                                · exact fun _ _ _ h => h
                                · rfl
                                try simp only [Act.put, List.setIfInBounds_toArray, List.set_cons_zero, List.set_cons_succ]
                                refine wpAnyH_take (i := 8) (oi := ?_) (v := undef) ?_ (by kernel_rfl) (by kernel_rfl) (by kernel_rfl) ?_ (Or.inr ⟨?_, rfl⟩) (by assumption) ?_
                                rotate_left 1
                                · simp only [List.getElem?_toArray, List.getElem?_cons_zero, List.getElem?_cons_succ]; rfl
                                · exact fun _ _ _ h => h
                                · rfl
                                try simp only [Act.put, List.setIfInBounds_toArray, List.set_cons_zero, List.set_cons_succ]
                                refine wpAnyH_take (i := 9) (oi := ?_) (v := undef) ?_ (by kernel_rfl) (by kernel_rfl) (by kernel_rfl) ?_ (Or.inr ⟨?_, rfl⟩) (by assumption) ?_
                                rotate_left 1
                                · simp only [List.getElem?_toArray, List.getElem?_cons_zero, List.getElem?_cons_succ]; rfl
                                · exact fun _ _ _ h => h
                                · rfl
                                try simp only [Act.put, List.setIfInBounds_toArray, List.set_cons_zero, List.set_cons_succ]
                                refine wpAnyH_take (i := 10) (oi := ?_) (v := ?_) ?_ (by kernel_rfl) (by kernel_rfl) (by kernel_rfl) ?_ (Or.inl ⟨?_, ?_⟩) (by assumption) ?_
                                rotate_left 2
                                · simp only [List.getElem?_toArray, List.getElem?_cons_zero, List.getElem?_cons_succ]; rfl
                                · exact fun _ _ _ h => h
                                · rfl
                                · intro w' hSw; (try dsimp only at hSw); (first | (go_simp; done) | (go_simp; with_reducible rfl))
                                try simp only [Act.put, List.setIfInBounds_toArray, List.set_cons_zero, List.set_cons_succ]
                                refine wpAnyH_take (i := 11) (oi := ?_) (v := ?_) ?_ (by kernel_rfl) (by kernel_rfl) (by kernel_rfl) ?_ (Or.inl ⟨?_, ?_⟩) (by assumption) ?_
                                rotate_left 2
                                · simp only [List.getElem?_toArray, List.getElem?_cons_zero, List.getElem?_cons_succ]; rfl
                                · exact fun _ _ _ h => h
                                · rfl
                                · intro w' hSw; (try dsimp only at hSw); (first | (go_simp; done) | (go_simp; with_reducible rfl))
                                try simp only [Act.put, List.setIfInBounds_toArray, List.set_cons_zero, List.set_cons_succ]
                                refine wpAnyH_take (i := 12) (oi := ?_) (v := undef) ?_ (by kernel_rfl) (by kernel_rfl) (by kernel_rfl) ?_ (Or.inr ⟨?_, rfl⟩) (by assumption) ?_
                                rotate_left 1
                                · simp only [List.getElem?_toArray, List.getElem?_cons_zero, List.getElem?_cons_succ]; rfl
                                · exact fun _ _ _ h => h
                                · rfl
                                try simp only [Act.put, List.setIfInBounds_toArray, List.set_cons_zero, List.set_cons_succ]
                                refine wpAnyH_take (i := 13) (oi := ?_) (v := undef) ?_ (by kernel_rfl) (by kernel_rfl) (by kernel_rfl) ?_ (Or.inr ⟨?_, rfl⟩) (by assumption) ?_
                                rotate_left 1
                                · simp only [List.getElem?_toArray, List.getElem?_cons_zero, List.getElem?_cons_succ]; rfl
                                · exact fun _ _ _ h => h
                                · rfl
                                try simp only [Act.put, List.setIfInBounds_toArray, List.set_cons_zero, List.set_cons_succ]
                                refine wpAnyH_take (i := 14) (oi := ?_) (v := undef) ?_ (by kernel_rfl) (by kernel_rfl) (by kernel_rfl) ?_ (Or.inr ⟨?_, rfl⟩) (by assumption) ?_
                                rotate_left 1
                                · simp only [List.getElem?_toArray, List.getElem?_cons_zero, List.getElem?_cons_succ]; rfl
                                · exact fun _ _ _ h => h
                                · rfl
                                try simp only [Act.put, List.setIfInBounds_toArray, List.set_cons_zero, List.set_cons_succ]
                                refine wpAnyH_take (i := 15) (oi := ?_) (v := undef) ?_ (by kernel_rfl) (by kernel_rfl) (by kernel_rfl) ?_ (Or.inr ⟨?_, rfl⟩) (by assumption) ?_
                                rotate_left 1
                                · simp only [List.getElem?_toArray, List.getElem?_cons_zero, List.getElem?_cons_succ]; rfl
                                · exact fun _ _ _ h => h
                                · rfl
                                try simp only [Act.put, List.setIfInBounds_toArray, List.set_cons_zero, List.set_cons_succ]
                                refine wpAnyH_take (i := 16) (oi := ?_) (v := undef) ?_ (by kernel_rfl) (by kernel_rfl) (by kernel_rfl) ?_ (Or.inr ⟨?_, rfl⟩) (by assumption) ?_
                                rotate_left 1
                                · simp only [List.getElem?_toArray, List.getElem?_cons_zero, List.getElem?_cons_succ]; rfl
                                · exact fun _ _ _ h => h
                                · rfl
                                try simp only [Act.put, List.setIfInBounds_toArray, List.set_cons_zero, List.set_cons_succ]
                                refine wpAnyH_take (i := 17) (oi := ?_) (v := undef) ?_ (by kernel_rfl) (by kernel_rfl) (by kernel_rfl) ?_ (Or.inr ⟨?_, rfl⟩) (by assumption) ?_
                                rotate_left 1
                                · simp only [List.getElem?_toArray, List.getElem?_cons_zero, List.getElem?_cons_succ]; rfl
                                · exact fun _ _ _ h => h
                                · rfl
                                try simp only [Act.put, List.setIfInBounds_toArray, List.set_cons_zero, List.set_cons_succ]
                                refine wpAnyH_take (i := 18) (oi := ?_) (v := undef) ?_ (by kernel_rfl) (by kernel_rfl) (by kernel_rfl) ?_ (Or.inr ⟨?_, rfl⟩) (by assumption) ?_
                                rotate_left 1
                                · simp only [List.getElem?_toArray, List.getElem?_cons_zero, List.getElem?_cons_succ]; rfl
                                · exact fun _ _ _ h => h
                                · rfl
                                try simp only [Act.put, List.setIfInBounds_toArray, List.set_cons_zero, List.set_cons_succ]
                                refine wpAnyH_take (i := 19) (oi := ?_) (v := undef) ?_ (by kernel_rfl) (by kernel_rfl) (by kernel_rfl) ?_ (Or.inr ⟨?_, rfl⟩) (by assumption) ?_
                                rotate_left 1
                                · simp only [List.getElem?_toArray, List.getElem?_cons_zero, List.getElem?_cons_succ]; rfl
                                · exact fun _ _ _ h => h
                                · rfl
                                try simp only [Act.put, List.setIfInBounds_toArray, List.set_cons_zero, List.set_cons_succ]
                                refine wpAnyH_take (i := 20) (oi := ?_) (v := undef) ?_ (by kernel_rfl) (by kernel_rfl) (by kernel_rfl) ?_ (Or.inr ⟨?_, rfl⟩) (by assumption) ?_
                                rotate_left 1
                                · simp only [List.getElem?_toArray, List.getElem?_cons_zero, List.getElem?_cons_succ]; rfl
                                · exact fun _ _ _ h => h
                                · rfl
                                try simp only [Act.put, List.setIfInBounds_toArray, List.set_cons_zero, List.set_cons_succ]
                                refine wpAnyH_take (i := 21) (oi := ?_) (v := undef) ?_ (by kernel_rfl) (by kernel_rfl) (by kernel_rfl) ?_ (Or.inr ⟨?_, rfl⟩) (by assumption) ?_
                                rotate_left 1
                                · simp only [List.getElem?_toArray, List.getElem?_cons_zero, List.getElem?_cons_succ]; rfl
                                · exact fun _ _ _ h => h
                                · rfl
                                try simp only [Act.put, List.setIfInBounds_toArray, List.set_cons_zero, List.set_cons_succ]
                                refine wpAnyH_take (i := 22) (oi := ?_) (v := undef) ?_ (by kernel_rfl) (by kernel_rfl) (by kernel_rfl) ?_ (Or.inr ⟨?_, rfl⟩) (by assumption) ?_
                                rotate_left 1
                                · simp only [List.getElem?_toArray, List.getElem?_cons_zero, List.getElem?_cons_succ]; rfl
                                · exact fun _ _ _ h => h
                                · rfl
                                try simp only [Act.put, List.setIfInBounds_toArray, List.set_cons_zero, List.set_cons_succ]
                                refine wpAnyH_take (i := 23) (oi := ?_) (v := undef) ?_ (by kernel_rfl) (by kernel_rfl) (by kernel_rfl) ?_ (Or.inr ⟨?_, rfl⟩) (by assumption) ?_
                                rotate_left 1
                                · simp only [List.getElem?_toArray, List.getElem?_cons_zero, List.getElem?_cons_succ]; rfl
                                · exact fun _ _ _ h => h
                                · rfl
                                try simp only [Act.put, List.setIfInBounds_toArray, List.set_cons_zero, List.set_cons_succ]
                                refine wpAnyH_take (i := 24) (oi := ?_) (v := undef) ?_ (by kernel_rfl) (by kernel_rfl) (by kernel_rfl) ?_ (Or.inr ⟨?_, rfl⟩) (by assumption) ?_
                                rotate_left 1
                                · simp only [List.getElem?_toArray, List.getElem?_cons_zero, List.getElem?_cons_succ]; rfl
                                · exact fun _ _ _ h => h
                                · rfl
                                try simp only [Act.put, List.setIfInBounds_toArray, List.set_cons_zero, List.set_cons_succ]
                                refine wpAnyH_take (i := 25) (oi := ?_) (v := undef) ?_ (by kernel_rfl) (by kernel_rfl) (by kernel_rfl) ?_ (Or.inr ⟨?_, rfl⟩) (by assumption) ?_
                                rotate_left 1
                                · simp only [List.getElem?_toArray, List.getElem?_cons_zero, List.getElem?_cons_succ]; rfl
                                · exact fun _ _ _ h => h
                                · rfl
                                try simp only [Act.put, List.setIfInBounds_toArray, List.set_cons_zero, List.set_cons_succ]
                                refine wpAnyH_take (i := 26) (oi := ?_) (v := undef) ?_ (by kernel_rfl) (by kernel_rfl) (by kernel_rfl) ?_ (Or.inr ⟨?_, rfl⟩) (by assumption) ?_
                                rotate_left 1
                                · simp only [List.getElem?_toArray, List.getElem?_cons_zero, List.getElem?_cons_succ]; rfl
                                · exact fun _ _ _ h => h
                                · rfl
                                try simp only [Act.put, List.setIfInBounds_toArray, List.set_cons_zero, List.set_cons_succ]
                                refine wpAnyH_take (i := 27) (oi := ?_) (v := undef) ?_ (by kernel_rfl) (by kernel_rfl) (by kernel_rfl) ?_ (Or.inr ⟨?_, rfl⟩) (by assumption) ?_
                                rotate_left 1
                                · simp only [List.getElem?_toArray, List.getElem?_cons_zero, List.getElem?_cons_succ]; rfl
                                · exact fun _ _ _ h => h
                                · rfl
                                try simp only [Act.put, List.setIfInBounds_toArray, List.set_cons_zero, List.set_cons_succ]
                                refine wpAnyH_take (i := 28) (oi := ?_) (v := undef) ?_ (by kernel_rfl) (by kernel_rfl) (by kernel_rfl) ?_ (Or.inr ⟨?_, rfl⟩) (by assumption) ?_
                                rotate_left 1
                                · simp only [List.getElem?_toArray, List.getElem?_cons_zero, List.getElem?_cons_succ]; rfl
                                · exact fun _ _ _ h => h
                                · rfl
                                try simp only [Act.put, List.setIfInBounds_toArray, List.set_cons_zero, List.set_cons_succ]
                                refine wpAnyH_take (i := 29) (oi := ?_) (v := undef) ?_ (by kernel_rfl) (by kernel_rfl) (by kernel_rfl) ?_ (Or.inr ⟨?_, rfl⟩) (by assumption) ?_
                                rotate_left 1
                                · simp only [List.getElem?_toArray, List.getElem?_cons_zero, List.getElem?_cons_succ]; rfl
                                · exact fun _ _ _ h => h
                                · rfl
                                try simp only [Act.put, List.setIfInBounds_toArray, List.set_cons_zero, List.set_cons_succ]
                                refine wpAnyH_take (i := 30) (oi := ?_) (v := undef) ?_ (by kernel_rfl) (by kernel_rfl) (by kernel_rfl) ?_ (Or.inr ⟨?_, rfl⟩) (by assumption) ?_
                                rotate_left 1
                                · simp only [List.getElem?_toArray, List.getElem?_cons_zero, List.getElem?_cons_succ]; rfl
                                · exact fun _ _ _ h => h
                                · rfl
                                try simp only [Act.put, List.setIfInBounds_toArray, List.set_cons_zero, List.set_cons_succ]
                                refine wpAnyH_take (i := 31) (oi := ?_) (v := undef) ?_ (by kernel_rfl) (by kernel_rfl) (by kernel_rfl) ?_ (Or.inr ⟨?_, rfl⟩) (by assumption) ?_
                                rotate_left 1
                                · simp only [List.getElem?_toArray, List.getElem?_cons_zero, List.getElem?_cons_succ]; rfl
                                · exact fun _ _ _ h => h
                                · rfl
                                try simp only [Act.put, List.setIfInBounds_toArray, List.set_cons_zero, List.set_cons_succ]
                                refine wpAnyH_take (i := 32) (oi := ?_) (v := undef) ?_ (by kernel_rfl) (by kernel_rfl) (by kernel_rfl) ?_ (Or.inr ⟨?_, rfl⟩) (by assumption) ?_
                                rotate_left 1
                                · simp only [List.getElem?_toArray, List.getElem?_cons_zero, List.getElem?_cons_succ]; rfl
                                · exact fun _ _ _ h => h
                                · rfl
                                try simp only [Act.put, List.setIfInBounds_toArray, List.set_cons_zero, List.set_cons_succ]
                                refine wpAnyH_take (i := 33) (oi := ?_) (v := ?_) ?_ (by kernel_rfl) (by kernel_rfl) (by kernel_rfl) ?_ (Or.inl ⟨?_, ?_⟩) (by assumption) ?_
                                rotate_left 2
                                · simp only [List.getElem?_toArray, List.getElem?_cons_zero, List.getElem?_cons_succ]; rfl
                                · exact fun _ _ _ h => h
                                · rfl
                                · intro w' hSw; (try dsimp only at hSw); (first | (go_simp; done) | (go_simp; with_reducible rfl))
                                try simp only [Act.put, List.setIfInBounds_toArray, List.set_cons_zero, List.set_cons_succ]
                                refine wpAnyH_done (by kernel_rfl) ?_ _
                                go_wp2_with fail
                                exact ⟨⟨s + 1, by omega, by go_num, HBR.out.trans (H41.out.mono HBR.out.size)⟩, by simp [intOf]; omega⟩
                              | false =>
                                cases xi with
                                | true => exact absurd ⟨rfl, rfl⟩ hgo2
                                | false =>
                                  clear hgo2
                                  go_upto_region 37 with fail
                                  refine wp_region_held_drew (S := (fun w' => hasRow w' ⟨gv, s * 56, none⟩ 56 = true ∧ rowOf w' ⟨gv, s * 56, none⟩ 56 = xv ∧ w'.cell? ⟨gv, s * 56, none⟩ = some (.bool false))) (by kernel_rfl) ?_ (fun hHeld => ?_)
                                  · exact F41.out _ (Below.refl _ _).drew
                                  refine wpAnyH_take (i := 0) (oi := ?_) (v := ?_) ?_ (by kernel_rfl) (by kernel_rfl) (by kernel_rfl) ?_ (Or.inl ⟨?_, ?_⟩) (by assumption) ?_
                                  rotate_left 2
                                  · simp only [List.getElem?_toArray, List.getElem?_cons_zero, List.getElem?_cons_succ]; rfl
                                  · exact fun _ _ _ h => h
                                  · rfl
                                  · intro w' hSw; (try dsimp only at hSw); (first | (go_simp; done) | (go_simp; with_reducible rfl))
                                  try simp only [Act.put, List.setIfInBounds_toArray, List.set_cons_zero, List.set_cons_succ]
                                  refine wpAnyH_take (i := 1) (oi := ?_) (v := ?_) ?_ (by kernel_rfl) (by kernel_rfl) (by kernel_rfl) ?_ (Or.inl ⟨?_, ?_⟩) (by assumption) ?_
                                  rotate_left 2
                                  · simp only [List.getElem?_toArray, List.getElem?_cons_zero, List.getElem?_cons_succ]; rfl
                                  · exact fun _ _ _ h => h
                                  · rfl
                                  · intro w' hSw; (try dsimp only at hSw); (first | (go_simp; done) | (go_simp; with_reducible rfl))
                                  try simp only [Act.put, List.setIfInBounds_toArray, List.set_cons_zero, List.set_cons_succ]
                                  refine wpAnyH_ready (rs := [2]) (by kernel_rfl) (by simp) ?_
                                  refine AllReadyH.cons (o := ?_) ?_ (fun K hK => ?_) AllReadyH.nil
                                  rotate_left 1
                                  · simp only [List.getElem?_toArray, List.getElem?_cons_zero, List.getElem?_cons_succ]; rfl
                                  go_simp
                                  go_at_call 34
                                  (with_reducible refine (HBS.out _ (Below.refl _ _).drew).mono ?_)
                                  rintro e w41 ⟨rfl, hb41⟩
                                  have H41 := Lib.hid ((Below.refl wq.heap.size wq).drew.trans hb41)
                                  clear hb41
                                  refine hK.out _ _ ?_ (fun hHeld => ?_)
                                  · exact F41.out _ H41.out
                                  clear hK K
                                  try simp only [Act.put, List.setIfInBounds_toArray, List.set_cons_zero, List.set_cons_succ]
                                  refine wpAnyH_take (i := 3) (oi := ?_) (v := ?_) ?_ (by kernel_rfl) (by kernel_rfl) (by kernel_rfl) ?_ (Or.inl ⟨?_, ?_⟩) (by assumption) ?_
                                  rotate_left 2
                                  · simp only [List.getElem?_toArray, List.getElem?_cons_zero, List.getElem?_cons_succ]; rfl
                                  · exact fun _ _ _ h => h
                                  · rfl
                                  · intro w' hSw; (try dsimp only at hSw); (first | (go_simp; done) | (go_simp; with_reducible rfl))
                                  try simp only [Act.put, List.setIfInBounds_toArray, List.set_cons_zero, List.set_cons_succ]
                                  refine wpAnyH_take (i := 4) (oi := ?_) (v := ?_) ?_ (by kernel_rfl) (by kernel_rfl) (by kernel_rfl) ?_ (Or.inl ⟨?_, ?_⟩) (by assumption) ?_
                                  rotate_left 2
                                  · simp only [List.getElem?_toArray, List.getElem?_cons_zero, List.getElem?_cons_succ]; rfl
                                  · exact fun _ _ _ h => h
                                  · rfl
                                  · intro w' hSw; (try dsimp only at hSw); (first | (go_simp; done) | (go_simp; with_reducible rfl))
                                  try simp only [Act.put, List.setIfInBounds_toArray, List.set_cons_zero, List.set_cons_succ]
                                  refine wpAnyH_take (i := 5) (oi := ?_) (v := ?_) ?_ (by kernel_rfl) (by kernel_rfl) (by kernel_rfl) ?_ (Or.inl ⟨?_, ?_⟩) (by assumption) ?_
                                  rotate_left 2
                                  · simp only [List.getElem?_toArray, List.getElem?_cons_zero, List.getElem?_cons_succ]; rfl
                                  · exact fun _ _ _ h => h
                                  · rfl
                                  · intro w' hSw; (try dsimp only at hSw); (first | (go_simp; done) | (go_simp; with_reducible rfl))
                                  try simp only [Act.put, List.setIfInBounds_toArray, List.set_cons_zero, List.set_cons_succ]
                                  refine wpAnyH_take (i := 6) (oi := ?_) (v := ?_) ?_ (by kernel_rfl) (by kernel_rfl) (by kernel_rfl) ?_ (Or.inl ⟨?_, ?_⟩) (by assumption) ?_
                                  rotate_left 2
                                  · simp only [List.getElem?_toArray, List.getElem?_cons_zero, List.getElem?_cons_succ]; rfl
                                  · exact fun _ _ _ h => h
                                  · rfl
                                  · intro w' hSw; (try dsimp only at hSw); (first | (go_simp; done) | (go_simp; with_reducible rfl))
                                  try simp only [Act.put, List.setIfInBounds_toArray, List.set_cons_zero, List.set_cons_succ]
                                  refine wpAnyH_take (i := 7) (oi := ?_) (v := ?_) ?_ (by kernel_rfl) (by kernel_rfl) (by kernel_rfl) ?_ (Or.inl ⟨?_, ?_⟩) (by assumption) ?_
                                  rotate_left 2
                                  · simp only [List.getElem?_toArray, List.getElem?_cons_zero, List.getElem?_cons_succ]; rfl
                                  · exact fun _ _ _ h => h
                                  · rfl
                                  · intro w' hSw; (try dsimp only at hSw); (first | (go_simp; done) | (go_simp; with_reducible rfl))
                                  try simp only [Act.put, List.setIfInBounds_toArray, List.set_cons_zero, List.set_cons_succ]
                                  refine wpAnyH_take (i := 8) (oi := ?_) (v := ?_) ?_ (by kernel_rfl) (by kernel_rfl) (by kernel_rfl) ?_ (Or.inl ⟨?_, ?_⟩) (by assumption) ?_
                                  rotate_left 2
                                  · simp only [List.getElem?_toArray, List.getElem?_cons_zero, List.getElem?_cons_succ]; rfl
                                  · exact fun _ _ _ h => h
                                  · rfl
                                  · intro w' hSw; (try dsimp only at hSw); (first | (go_simp; done) | (go_simp; with_reducible rfl))
                                  try simp only [Act.put, List.setIfInBounds_toArray, List.set_cons_zero, List.set_cons_succ]
                                  refine wpAnyH_take (i := 9) (oi := ?_) (v := ?_) ?_ (by kernel_rfl) (by kernel_rfl) (by kernel_rfl) ?_ (Or.inl ⟨?_, ?_⟩) (by assumption) ?_
                                  rotate_left 2
                                  · simp only [List.getElem?_toArray, List.getElem?_cons_zero, List.getElem?_cons_succ]; rfl
                                  · exact fun _ _ _ h => h
                                  · rfl
                                  · intro w' hSw; (try dsimp only at hSw); (first | (go_simp; done) | (go_simp; with_reducible rfl))
                                  try simp only [Act.put, List.setIfInBounds_toArray, List.set_cons_zero, List.set_cons_succ]
                                  refine wpAnyH_take (i := 10) (oi := ?_) (v := ?_) ?_ (by kernel_rfl) (by kernel_rfl) (by kernel_rfl) ?_ (Or.inl ⟨?_, ?_⟩) (by assumption) ?_
                                  rotate_left 2
                                  · simp only [List.getElem?_toArray, List.getElem?_cons_zero, List.getElem?_cons_succ]; rfl
                                  · exact fun _ _ _ h => h
                                  · rfl
                                  · intro w' hSw; (try dsimp only at hSw); (first | (go_simp; done) | (go_simp; with_reducible rfl))
                                  try simp only [Act.put, List.setIfInBounds_toArray, List.set_cons_zero, List.set_cons_succ]
                                  refine wpAnyH_take (i := 11) (oi := ?_) (v := ?_) ?_ (by kernel_rfl) (by kernel_rfl) (by kernel_rfl) ?_ (Or.inl ⟨?_, ?_⟩) (by assumption) ?_
                                  rotate_left 2
                                  · simp only [List.getElem?_toArray, List.getElem?_cons_zero, List.getElem?_cons_succ]; rfl
                                  · exact fun _ _ _ h => h
                                  · rfl
                                  · intro w' hSw; (try dsimp only at hSw); (first | (go_simp; done) | (go_simp; with_reducible rfl))
                                  try simp only [Act.put, List.setIfInBounds_toArray, List.set_cons_zero, List.set_cons_succ]
                                  refine wpAnyH_take (i := 12) (oi := ?_) (v := undef) ?_ (by kernel_rfl) (by kernel_rfl) (by kernel_rfl) ?_ (Or.inr ⟨?_, rfl⟩) (by assumption) ?_
                                  rotate_left 1
                                  · simp only [List.getElem?_toArray, List.getElem?_cons_zero, List.getElem?_cons_succ]; rfl
                                  · exact fun _ _ _ h => h
                                  · rfl
                                  try simp only [Act.put, List.setIfInBounds_toArray, List.set_cons_zero, List.set_cons_succ]
                                  refine wpAnyH_take (i := 13) (oi := ?_) (v := undef) ?_ (by kernel_rfl) (by kernel_rfl) (by kernel_rfl) ?_ (Or.inr ⟨?_, rfl⟩) (by assumption) ?_
                                  rotate_left 1
                                  · simp only [List.getElem?_toArray, List.getElem?_cons_zero, List.getElem?_cons_succ]; rfl
                                  · exact fun _ _ _ h => h
                                  · rfl
                                  try simp only [Act.put, List.setIfInBounds_toArray, List.set_cons_zero, List.set_cons_succ]
                                  refine wpAnyH_take (i := 14) (oi := ?_) (v := undef) ?_ (by kernel_rfl) (by kernel_rfl) (by kernel_rfl) ?_ (Or.inr ⟨?_, rfl⟩) (by assumption) ?_
                                  rotate_left 1
                                  · simp only [List.getElem?_toArray, List.getElem?_cons_zero, List.getElem?_cons_succ]; rfl
                                  · exact fun _ _ _ h => h
                                  · rfl
                                  try simp only [Act.put, List.setIfInBounds_toArray, List.set_cons_zero, List.set_cons_succ]
                                  refine wpAnyH_take (i := 15) (oi := ?_) (v := undef) ?_ (by kernel_rfl) (by kernel_rfl) (by kernel_rfl) ?_ (Or.inr ⟨?_, rfl⟩) (by assumption) ?_
                                  rotate_left 1
                                  · simp only [List.getElem?_toArray, List.getElem?_cons_zero, List.getElem?_cons_succ]; rfl
                                  · exact fun _ _ _ h => h
                                  · rfl
                                  try simp only [Act.put, List.setIfInBounds_toArray, List.set_cons_zero, List.set_cons_succ]
                                  refine wpAnyH_take (i := 16) (oi := ?_) (v := undef) ?_ (by kernel_rfl) (by kernel_rfl) (by kernel_rfl) ?_ (Or.inr ⟨?_, rfl⟩) (by assumption) ?_
                                  rotate_left 1
                                  · simp only [List.getElem?_toArray, List.getElem?_cons_zero, List.getElem?_cons_succ]; rfl
                                  · exact fun _ _ _ h => h
                                  · rfl
                                  try simp only [Act.put, List.setIfInBounds_toArray, List.set_cons_zero, List.set_cons_succ]
                                  refine wpAnyH_take (i := 17) (oi := ?_) (v := undef) ?_ (by kernel_rfl) (by kernel_rfl) (by kernel_rfl) ?_ (Or.inr ⟨?_, rfl⟩) (by assumption) ?_
                                  rotate_left 1
                                  · simp only [List.getElem?_toArray, List.getElem?_cons_zero, List.getElem?_cons_succ]; rfl
                                  · exact fun _ _ _ h => h
                                  · rfl
                                  try simp only [Act.put, List.setIfInBounds_toArray, List.set_cons_zero, List.set_cons_succ]
                                  refine wpAnyH_take (i := 18) (oi := ?_) (v := undef) ?_ (by kernel_rfl) (by kernel_rfl) (by kernel_rfl) ?_ (Or.inr ⟨?_, rfl⟩) (by assumption) ?_
                                  rotate_left 1
                                  · simp only [List.getElem?_toArray, List.getElem?_cons_zero, List.getElem?_cons_succ]; rfl
                                  · exact fun _ _ _ h => h
                                  · rfl
                                  try simp only [Act.put, List.setIfInBounds_toArray, List.set_cons_zero, List.set_cons_succ]
                                  refine wpAnyH_take (i := 19) (oi := ?_) (v := undef) ?_ (by kernel_rfl) (by kernel_rfl) (by kernel_rfl) ?_ (Or.inr ⟨?_, rfl⟩) (by assumption) ?_
                                  rotate_left 1
                                  · simp only [List.getElem?_toArray, List.getElem?_cons_zero, List.getElem?_cons_succ]; rfl
                                  · exact fun _ _ _ h => h
                                  · rfl
                                  try simp only [Act.put, List.setIfInBounds_toArray, List.set_cons_zero, List.set_cons_succ]
                                  refine wpAnyH_take (i := 20) (oi := ?_) (v := undef) ?_ (by kernel_rfl) (by kernel_rfl) (by kernel_rfl) ?_ (Or.inr ⟨?_, rfl⟩) (by assumption) ?_
                                  rotate_left 1
                                  · simp only [List.getElem?_toArray, List.getElem?_cons_zero, List.getElem?_cons_succ]; rfl
                                  · exact fun _ _ _ h => h
                                  · rfl
                                  try simp only [Act.put, List.setIfInBounds_toArray, List.set_cons_zero, List.set_cons_succ]
                                  refine wpAnyH_take (i := 21) (oi := ?_) (v := undef) ?_ (by kernel_rfl) (by kernel_rfl) (by kernel_rfl) ?_ (Or.inr ⟨?_, rfl⟩) (by assumption) ?_
                                  rotate_left 1
                                  · simp only [List.getElem?_toArray, List.getElem?_cons_zero, List.getElem?_cons_succ]; rfl
                                  · exact fun _ _ _ h => h
                                  · rfl
                                  try simp only [Act.put, List.setIfInBounds_toArray, List.set_cons_zero, List.set_cons_succ]
                                  refine wpAnyH_take (i := 22) (oi := ?_) (v := undef) ?_ (by kernel_rfl) (by kernel_rfl) (by kernel_rfl) ?_ (Or.inr ⟨?_, rfl⟩) (by assumption) ?_
                                  rotate_left 1
                                  · simp only [List.getElem?_toArray, List.getElem?_cons_zero, List.getElem?_cons_succ]; rfl
                                  · exact fun _ _ _ h => h
                                  · rfl
                                  try simp only [Act.put, List.setIfInBounds_toArray, List.set_cons_zero, List.set_cons_succ]
                                  refine wpAnyH_take (i := 23) (oi := ?_) (v := undef) ?_ (by kernel_rfl) (by kernel_rfl) (by kernel_rfl) ?_ (Or.inr ⟨?_, rfl⟩) (by assumption) ?_
                                  rotate_left 1
                                  · simp only [List.getElem?_toArray, List.getElem?_cons_zero, List.getElem?_cons_succ]; rfl
                                  · exact fun _ _ _ h => h
                                  · rfl
                                  try simp only [Act.put, List.setIfInBounds_toArray, List.set_cons_zero, List.set_cons_succ]
                                  refine wpAnyH_take (i := 24) (oi := ?_) (v := undef) ?_ (by kernel_rfl) (by kernel_rfl) (by kernel_rfl) ?_ (Or.inr ⟨?_, rfl⟩) (by assumption) ?_
                                  rotate_left 1
                                  · simp only [List.getElem?_toArray, List.getElem?_cons_zero, List.getElem?_cons_succ]; rfl
                                  · exact fun _ _ _ h => h
                                  · rfl
                                  try simp only [Act.put, List.setIfInBounds_toArray, List.set_cons_zero, List.set_cons_succ]
                                  refine wpAnyH_take (i := 25) (oi := ?_) (v := undef) ?_ (by kernel_rfl) (by kernel_rfl) (by kernel_rfl) ?_ (Or.inr ⟨?_, rfl⟩) (by assumption) ?_
                                  rotate_left 1
                                  · simp only [List.getElem?_toArray, List.getElem?_cons_zero, List.getElem?_cons_succ]; rfl
                                  · exact fun _ _ _ h => h
                                  · rfl
                                  try simp only [Act.put, List.setIfInBounds_toArray, List.set_cons_zero, List.set_cons_succ]
                                  refine wpAnyH_take (i := 26) (oi := ?_) (v := undef) ?_ (by kernel_rfl) (by kernel_rfl) (by kernel_rfl) ?_ (Or.inr ⟨?_, rfl⟩) (by assumption) ?_
                                  rotate_left 1
                                  · simp only [List.getElem?_toArray, List.getElem?_cons_zero, List.getElem?_cons_succ]; rfl
                                  · exact fun _ _ _ h => h
                                  · rfl
                                  try simp only [Act.put, List.setIfInBounds_toArray, List.set_cons_zero, List.set_cons_succ]
                                  refine wpAnyH_take (i := 27) (oi := ?_) (v := undef) ?_ (by kernel_rfl) (by kernel_rfl) (by kernel_rfl) ?_ (Or.inr ⟨?_, rfl⟩) (by assumption) ?_
                                  rotate_left 1
                                  · simp only [List.getElem?_toArray, List.getElem?_cons_zero, List.getElem?_cons_succ]; rfl
                                  · exact fun _ _ _ h => h
                                  · rfl
                                  try simp only [Act.put, List.setIfInBounds_toArray, List.set_cons_zero, List.set_cons_succ]
                                  refine wpAnyH_take (i := 28) (oi := ?_) (v := undef) ?_ (by kernel_rfl) (by kernel_rfl) (by kernel_rfl) ?_ (Or.inr ⟨?_, rfl⟩) (by assumption) ?_
                                  rotate_left 1
                                  · simp only [List.getElem?_toArray, List.getElem?_cons_zero, List.getElem?_cons_succ]; rfl
                                  · exact fun _ _ _ h => h
                                  · rfl
                                  try simp only [Act.put, List.setIfInBounds_toArray, List.set_cons_zero, List.set_cons_succ]
                                  refine wpAnyH_take (i := 29) (oi := ?_) (v := undef) ?_ (by kernel_rfl) (by kernel_rfl) (by kernel_rfl) ?_ (Or.inr ⟨?_, rfl⟩) (by assumption) ?_
                                  rotate_left 1
                                  · simp only [List.getElem?_toArray, List.getElem?_cons_zero, List.getElem?_cons_succ]; rfl
                                  · exact fun _ _ _ h => h
                                  · rfl
                                  try simp only [Act.put, List.setIfInBounds_toArray, List.set_cons_zero, List.set_cons_succ]
                                  refine wpAnyH_take (i := 30) (oi := ?_) (v := undef) ?_ (by kernel_rfl) (by kernel_rfl) (by kernel_rfl) ?_ (Or.inr ⟨?_, rfl⟩) (by assumption) ?_
                                  rotate_left 1
                                  · simp only [List.getElem?_toArray, List.getElem?_cons_zero, List.getElem?_cons_succ]; rfl
                                  · exact fun _ _ _ h => h
                                  · rfl
                                  try simp only [Act.put, List.setIfInBounds_toArray, List.set_cons_zero, List.set_cons_succ]
                                  refine wpAnyH_take (i := 31) (oi := ?_) (v := undef) ?_ (by kernel_rfl) (by kernel_rfl) (by kernel_rfl) ?_ (Or.inr ⟨?_, rfl⟩) (by assumption) ?_
                                  rotate_left 1
                                  · simp only [List.getElem?_toArray, List.getElem?_cons_zero, List.getElem?_cons_succ]; rfl
                                  · exact fun _ _ _ h => h
                                  · rfl
                                  try simp only [Act.put, List.setIfInBounds_toArray, List.set_cons_zero, List.set_cons_succ]
                                  refine wpAnyH_take (i := 32) (oi := ?_) (v := undef) ?_ (by kernel_rfl) (by kernel_rfl) (by kernel_rfl) ?_ (Or.inr ⟨?_, rfl⟩) (by assumption) ?_
                                  rotate_left 1
                                  · simp only [List.getElem?_toArray, List.getElem?_cons_zero, List.getElem?_cons_succ]; rfl
                                  · exact fun _ _ _ h => h
                                  · rfl
                                  try simp only [Act.put, List.setIfInBounds_toArray, List.set_cons_zero, List.set_cons_succ]
                                  refine wpAnyH_take (i := 33) (oi := ?_) (v := ?_) ?_ (by kernel_rfl) (by kernel_rfl) (by kernel_rfl) ?_ (Or.inl ⟨?_, ?_⟩) (by assumption) ?_
                                  rotate_left 2
                                  · simp only [List.getElem?_toArray, List.getElem?_cons_zero, List.getElem?_cons_succ]; rfl
                                  · exact fun _ _ _ h => h
                                  · rfl
                                  · intro w' hSw; (try dsimp only at hSw); (first | (go_simp; done) | (go_simp; with_reducible rfl))
                                  try simp only [Act.put, List.setIfInBounds_toArray, List.set_cons_zero, List.set_cons_succ]
                                  refine wpAnyH_done (by kernel_rfl) ?_ _
                                  go_wp2_with fail
                                  exact ⟨⟨s + 1, by omega, by go_num, HBR.out.trans (H41.out.mono HBR.out.size)⟩, by simp [intOf]; omega⟩
                          · have hsN1 : ¬ (s : Int) < N := by omega
                            go_wp2_with fail
                            exact ⟨⟨i + 1, by omega, by go_num, HBC.out.trans (HBR.out.mono hwc9)⟩, by simp [intOf]; omega⟩
                  · have hiN1 : ¬ (i : Int) < N := by omega
                    go_wp2_with fail
                    exact ⟨⟨t + 1, tag9, P9, _, _, _, by omega, by go_num, rfl, H9.out.below HBQ.out, HW9.out.below HBQ.out⟩, by simp [intOf]; omega⟩
      · have hlt1 : ¬ (t : Int) < 3 * (N : Int) + 6 := by omega
        have hb9 := HST.out.bel
        have HB9 := Lib.hid hb9
        clear hb9
        go_wp2_with fail
        refine (lives15_any W0).mono ?_
        rintro e w9 ⟨rfl, hb9⟩
        have HE := Lib.hid (HB9.out.trans (hb9.mono HB9.out.size))
        clear hb9
        go_wp2_with fail
        go_ret
        exact ⟨rfl, HE.out⟩
  · cases bb with
    | true =>
      clear hgo
      go_wp2_with fail
      refine (lives15_any w2).mono ?_
      rintro e w3 ⟨rfl, hb3⟩
      have HE := Lib.hid (HB2.out.trans (hb3.mono HB2.out.size))
      clear hb3
      go_wp2_with fail
      go_ret
      exact ⟨rfl, HE.out⟩
    | false =>
      by_cases h60 : cl ≤ 60
      · have h60' : ¬ (60 : Int) < cl := by omega
        by_cases h80 : xl ≤ 80
        · obtain rfl : xl = 0 := by
            have : ¬ 0 < xl := fun h => hgo ⟨rfl, h60, h80, h⟩
            omega
          clear hgo h80
          go_wp2_with fail
          refine (lives15_any w2).mono ?_
          rintro e w3 ⟨rfl, hb3⟩
          have HE := Lib.hid (HB2.out.trans (hb3.mono HB2.out.size))
          clear hb3
          go_wp2_with fail
          go_ret
          exact ⟨rfl, HE.out⟩
        · have h81 : (80 : Int) < xl := by omega
          clear hgo h80
          go_wp2_with fail
          refine (lives15_any w2).mono ?_
          rintro e w3 ⟨rfl, hb3⟩
          have HE := Lib.hid (HB2.out.trans (hb3.mono HB2.out.size))
          clear hb3
          go_wp2_with fail
          go_ret
          exact ⟨rfl, HE.out⟩
      · have h61 : (60 : Int) < cl := by omega
        clear hgo h60
        go_wp2_with fail
        refine (lives15_any w2).mono ?_
        rintro e w3 ⟨rfl, hb3⟩
        have HE := Lib.hid (HB2.out.trans (hb3.mono HB2.out.size))
        clear hb3
        go_wp2_with fail
        go_ret
        exact ⟨rfl, HE.out⟩
end Go.Proofs.Ytbdklfcgcmdgaaa
