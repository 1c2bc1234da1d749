/-
  sennitlaw15.AgreesRing, walked.
-/
import Derived.Test.YtbdklfcgcmdgaaaGb43
import Derived.WalkSpells
namespace Go.Proofs.Ytbdklfcgcmdgaaa
open Go.RowKit
set_option linter.unusedVariables false
set_option linter.unusedSimpArgs false

set_option maxRecDepth 100000 in
set_option maxHeartbeats 8000000 in
theorem ring_any (p : Int) (hp : 0 ≤ p ∧ p ≤ 255) (N : Nat) (hN : 4 + p % 13 = (N : Int)) (F : FltM) (aa : Option Addr) (an ac : Nat) (ca : Option Addr) (cl cc : Nat) (X : List (List Value)) (w : World)
    (hA : RdAs (· < w.heap.size) w aa an F.acts) (ha1 : an ≤ ac) (ha2 : ac ≤ maxLen) (ha3 : an ≤ 140737488355328) (hfz : ∀ x ∈ F.acts, x.row.t.length ≤ 140737488355328) (hf : F.at_ < 256 ∧ F.which < 256) (hfo : ∀ a ∈ F.acts, a.row.ok)
    (hX : RdCs (· < w.heap.size) w ca cl X) (hx1 : cl ≤ cc) (hx2 : cc ≤ maxLen) :
    Calls Try.prog 8 #[.int .u8 p, .agg (F.vals (.slice aa an ac)).toArray, .slice ca cl cc] w fun e w' => e = .returned (.bool true) ∧ Below w.heap.size w w' := by
  have h4 : 4 ≤ N := by omega
  have h16 : N ≤ 16 := by omega
  obtain ⟨hp0, hp1⟩ := hp
  have HCok : Hid (∀ t i, okL cellK (cellsC X N t i) = true) := Lib.hid (cellsC_ok hX.2.1 N)
  have HFo := Lib.hid hfo
  have HA := Lib.hid hA
  have HF := Lib.hid hf
  have HX := Lib.hid hX
  have HFG : Hid (∀ w' : World, Below w.heap.size w w' → Calls Try.prog 28 #[.agg #[.bool F.link, .int .u8 F.at_, .int .u8 F.which, .slice aa an ac]] w' (FGreat w')) := Lib.hid fun w' hb =>
    fgreat_any (· < w.heap.size) F aa an ac w' (hA.below hb) ha1 ha2 ha3 hfz
  have HNR : Hid (∀ w' : World, Below w.heap.size w w' → Calls Try.prog 30 #[.int .i64 N, .agg #[.bool F.link, .int .u8 F.at_, .int .u8 F.which, .slice aa an ac]] w' (NewRingP (tagV w') N F (.slice aa an ac) w')) := Lib.hid fun w' hb =>
    newRing_any (tagV w') N F aa an ac w' h4 h16 hf (fun b hb => tagV_hi hb) ((hA.below hb).mono fun b hbl _ => ⟨tagV_lo hbl, hbl⟩) ha1 ha2 ha3
  have HB0 : Hid (Below w.heap.size w (w.alloc (.cells #[.bool F.link, .int .u8 F.at_, .int .u8 F.which, .slice aa an ac] 88))) := Lib.hid ((Below.refl _ _).alloc (Nat.le_refl _) _)
  have HK0 : Hid (Blk (w.alloc (.cells #[.bool F.link, .int .u8 F.at_, .int .u8 F.which, .slice aa an ac] 88)) w.heap.size 88 #[.bool F.link, .int .u8 F.at_, .int .u8 F.which, .slice aa an ac]) := Lib.hid (Blk.new _ _ _)
  clear hA hX hf hfz hfo
  show Calls _ _ #[.int .u8 p, .agg #[.bool F.link, .int .u8 F.at_, .int .u8 F.which, .slice aa an ac], .slice ca cl cc] w _
  go_enter Try.func8, Try.ntmps8
  go_upto_region 1 with fail
  generalize w.alloc (.cells #[.bool F.link, .int .u8 F.at_, .int .u8 F.which, .slice aa an ac] 88) = w0 at HB0 HK0 ⊢
  have c0 := HK0.out.cell 0
  have c1 := HK0.out.cell 1
  have c2 := HK0.out.cell 2
  have c3 := HK0.out.cell 3
  simp at c0 c1 c2 c3
  go_wp2_with fail
  (with_reducible refine (HFG.out w0 HB0.out).mono ?_)
  rintro e w1 ⟨⟨bb, rfl⟩, hb1⟩
  have HB1 := Lib.hid (HB0.out.trans (hb1.mono HB0.out.size))
  have HK1 := Lib.hid (HK0.out.below hb1 HK0.out.lt)
  clear hb1 c0 c1 c2 c3
  cases bb with
  | true =>
    go_wp2_with fail
    refine (lives15_any w1).mono ?_
    rintro e w2 ⟨rfl, hb2⟩
    have HE := Lib.hid (HB1.out.trans (hb2.mono HB1.out.size))
    clear hb2
    go_wp2_with fail
    go_ret
    exact ⟨rfl, HE.out⟩
  | false =>
    by_cases h60 : (60 : Int) < cl
    · go_wp2_with fail
      refine (lives15_any w1).mono ?_
      rintro e w3 ⟨rfl, hb3⟩
      have HE := Lib.hid (HB1.out.trans (hb3.mono HB1.out.size))
      clear hb3
      go_wp2_with fail
      go_ret
      exact ⟨rfl, HE.out⟩
    · have c0 := HK1.out.cell 0
      have c1 := HK1.out.cell 1
      have c2 := HK1.out.cell 2
      have c3 := HK1.out.cell 3
      simp at c0 c1 c2 c3
      have hb0 : 0 ≤ p % 13 := by omega
      have hb13 : p % 13 < 13 := by omega
      go_wp2_with fail
      (with_reducible refine (HNR.out w1 HB1.out).mono ?_)
      rintro e w3 hnr
      obtain ⟨on, hon⟩ : ∃ on : Nat → Nat → Bool, on = fun _ _ => true := ⟨_, rfl⟩
      have HON : Hid (∀ t i, on t i = true) := Lib.hid (by rw [hon]; exact fun _ _ => rfl)
      obtain ⟨own, hown⟩ : ∃ own, own = ownR N F on (cellsC X N) := ⟨_, rfl⟩
      have HOW := Lib.hid hown
      obtain ⟨rg, tag, P, rfl, hst⟩ := LSt.startV (fun _ => []) HB1.out hnr on own
      have HST := Lib.hid hst
      clear hst hnr c0 c1 c2 c3 hN hb0 hb13 HNR HFG hown
      have hm : madeOk (.int .i64 (N : Int)) (.int .i64 (N : Int)) = true := by simp [madeOk]; omega
      go_upto_region 8 with fail
      have hk1 : Blk (w3.alloc (.cells (zrep [Value.bool false] N).toArray 4)) w3.heap.size 4 (onL N fun j => decide (j < 0)).toArray := by
        have := Blk.new w3 4 (zrep [Value.bool false] N).toArray
        rw [zrep_onL] at this
        rw [show (onL N fun j => decide (j < 0)) = onL N fun _ => false from by simp]
        rw [zrep_onL]
        exact this
      have HK3 := Lib.hid hk1
      have HST2 := Lib.hid (HST.out.below ((Below.refl _ _).alloc (Nat.le_refl _) (.cells (zrep [Value.bool false] N).toArray 4)))
      have HOT := Lib.hid (HST.out.r.tg w3.heap.size (Nat.le_refl _))
      generalize w3.alloc (.cells (zrep [Value.bool false] N).toArray 4) = w4 at HK3 HST2 ⊢
      have hob0 : w.heap.size ≤ w3.heap.size := HST.out.bel.size
      clear HST hk1
      generalize w3.heap.size = ob at HK3 HOT hob0 ⊢
      go_wp2_with fail
      go_loopw [10] (fun i wr => ∃ k : Nat, k ≤ N ∧ i = .int .i64 k ∧ LSt (fun _ => []) 0 w rg (.slice aa an ac) (rgT N F on own 0) tag P (.slice none 0 0) [] wr ∧ Blk wr ob 4 (onL N fun j => decide (j < k)).toArray) (fun i _ => N - (intOf i).toNat)
      case atStart => exact ⟨0, by omega, rfl, HST2.out, HK3.out⟩
      case round =>
        obtain ⟨k, hk, rfl, hst, hkb⟩ := hrel
        by_cases hlt : k < N
        · have hlt1 : (k : Int) < N := by omega
          have hlt0 : (0 : Int) ≤ k := by omega
          obtain ⟨cb, hcb⟩ : ∃ cb, wr.cell? ⟨ob, k, none⟩ = some cb := ⟨_, by rw [hkb.cell]; simp only [List.getElem?_toArray]; exact onL_at hlt⟩
          have zb := hkb.frozen k
          have HN1 := Lib.hid (hst.own_ (g := ob) ((Chg.refl _ _).set_at k (.bool true)) HOT.out (by simp [Value.ownBlock]) hob0)
          have hb2 := hkb.set_ k (.bool true)
          rw [List.setIfInBounds_toArray, onL_stepV hlt] at hb2
          have HN2 := Lib.hid hb2
          clear hst hkb hb2
          go_wp2_with fail
          exact ⟨⟨k + 1, by omega, by go_num, HN1.out, HN2.out⟩, by simp [intOf]; omega⟩
        · have hlt1 : ¬ (k : Int) < N := by omega
          obtain rfl : N = k := by omega
          have HST3 := Lib.hid hst
          have hon2 : (onL N fun j => decide (j < N)) = onL N fun _ => true := onL_congr (fun j hj => by simp [hj])
          rw [hon2] at hkb
          have HK4 := Lib.hid hkb
          clear hst hkb hon2 HST2 HK3
          clear hk
          go_wp2_with fail
          go_loopw [11, 12] (fun s11 s12 wr => ∃ (t : Nat) (tag : Nat → Nat) (P : RgP) (xs : List Value) (a : Option Addr) (cap : Nat), t ≤ 60 ∧ s12 = .int .i64 t ∧ s11 = .slice a t cap ∧ LSt (fun _ => []) 0 w rg (.slice aa an ac) (rgT N F on own t) tag P (.slice none 0 0) [] wr ∧ WasCs w.heap.size (fun t s => nrm (cellsC X N t s)) N tag t (.slice a t cap) xs wr ∧ Blk wr ob 4 (onL N fun _ => true).toArray ∧ tag ob = 98) (fun _ t _ => 60 - (intOf t).toNat)
          case atStart => exact ⟨0, tag, P, [], none, 0, by omega, rfl, rfl, HST3.out, WasCs.start _ _ _ _ _, HK4.out, HOT.out⟩
          case round =>
            clear HST3 HK4 HOT
            obtain ⟨t, tag, P, xs, a, cap, ht, rfl, rfl, hst, hwa, hkb, hot⟩ := hrel
            obtain ⟨W0, rfl⟩ : ∃ W0, W0 = wr := ⟨_, rfl⟩
            have HVW : Hid (∀ g, (Value.slice a t cap).ownBlock = some g → g < W0.heap.size) := Lib.hid fun g hg => (hwa.own.lt g hg).2
            have HST := Lib.hid hst
            have HWA := Lib.hid hwa
            have HKB := Lib.hid hkb
            have HOT := Lib.hid hot
            clear hst hwa hkb hot
            by_cases hlt : t < 3 * N + 4
            · have hlt1 : (t : Int) < 3 * (N : Int) + 4 := by omega
              have HNN : Hid ((rgT N F on own t).N = N) := Lib.hid (rgT_N N F on own t).1
              have HHC := Lib.hid (hear_tick N F on own (oc := N) HST.out.r (by omega : t ≤ 100000) (fun i hi => by rw [HKB.out.cell, HON.out]; simp only [List.getElem?_toArray]; exact onL_at hi) HKB.out.lt (fun h => by have := h.2; rw [HOT.out] at this; omega))
              go_wp2_with fail
              (with_reducible refine HHC.out.mono ?_)
              rintro e W hh
              obtain ⟨tag8, P8, hv, rfl, hl8, hheld, htg8, hc8⟩ := HST.out.hear hh
              rw [HNN.out] at hheld hc8
              have H8 := Lib.hid hl8
              have HH8 := Lib.hid hheld
              have hs8 := hc8.size
              have HW8 := Lib.hid (HWA.out.rgs (M := N) h16 hc8 htg8)
              have HK8 := Lib.hid (HKB.out.chg hc8 (fun h => by have := h.2; rw [HOT.out] at this; omega))
              have HO8 : Hid (tag8 ob = 98 ∧ ob < W.heap.size) := Lib.hid ⟨by rw [htg8 ob HKB.out.lt]; exact HOT.out, HK8.out.lt⟩
              obtain ⟨hg, hcap, rfl, hgS, hgl, hgc1, hgc2, -⟩ := hheld
              clear hh hl8 htg8 hc8 HHC HKB HOT HST HWA hgS
              have hWw : w.heap.size ≤ W.heap.size := H8.out.bel.size
              go_upto_region 18 with fail
              have HOI := Lib.hid (OwnI.start' W (fun b => W.heap.size + 2 ≤ b) (by omega) (own t) N)
              have hzA : (W.alloc (.cells (zrep rowZ N).toArray 54)).heap.size = W.heap.size + 1 := by simp
              generalize W.alloc (.cells (zrep rowZ N).toArray 54) = wA at HOI hzA ⊢
              go_upto_region 19 with fail
              have HCI := Lib.hid (CellsI.start wA (fun s => nrm (cellsC X N t s)) N)
              have HOJ := Lib.hid (HOI.out.keepB ((Below.refl _ _).alloc (Nat.le_refl _) (.cells (zrep cellZ N).toArray 51)))
              generalize wA.alloc (.cells (zrep cellZ N).toArray 51) = w5 at HOJ HCI ⊢
              rw [hzA] at HCI
              clear HOI hzA
              obtain ⟨cb, hcb⟩ : ∃ cb, cb = W.heap.size + 1 := ⟨_, rfl⟩
              rw [← hcb] at HCI ⊢
              have HCB := Lib.hid hcb
              clear hcb
              obtain ⟨tn, htn⟩ : ∃ tn, tn = t * N := ⟨_, rfl⟩
              have e1 : (t : Int) * (N : Int) = (tn : Int) := by rw [htn]; push_cast; rfl
              have htnl : tn ≤ 1000 := by rw [htn]; exact Nat.le_trans (Nat.mul_le_mul (by omega : t ≤ 52) h16) (by omega)
              have HTN := Lib.hid htn
              have wr1 : IntKind.i64.wrap (tn : Int) = tn := IntWalk.i64_in _ (by omega)
              clear htn
              have hclm : cl ≤ 60 := by omega
              go_wp2_with fail
              go_loopw [16] (fun s16 wq => ∃ i : Nat, i ≤ N ∧ s16 = .int .i64 i ∧ OwnI W (fun b => W.heap.size + 2 ≤ b) (own t) N i wq ∧ CellsI cb (fun s => nrm (cellsC X N t s)) N i wq) (fun i _ => N - (intOf i).toNat)
              case atStart => exact ⟨0, by omega, rfl, HOJ.out, HCI.out⟩
              case round =>
                obtain ⟨i, hi, rfl, hoi, hci⟩ := hrel
                obtain ⟨wq, rfl⟩ : ∃ wq, wq = wr := ⟨_, rfl⟩
                by_cases hiN : i < N
                · have hiN1 : (i : Int) < N := by omega
                  have hi0 : (0 : Int) ≤ i := by omega
                  obtain ⟨g', c', he, hgS8, hgl8, -, -, hcell⟩ := HH8.out
                  cases he
                  obtain ⟨hu, hgi, ha, hnn, hcc, rfl, hrd, hmc, hcm⟩ := hcell i hiN
                  obtain ⟨l, hl⟩ : ∃ l, l = ((rgT N F on own t).hear (on t)).held i := ⟨_, rfl⟩
                  have hlen : l.length = N := by rw [hl, HOW.out]; exact heldR_len N F on (cellsC X N) (HON.out t i) hiN
                  have hoi_eq : own t i = ⟨true, cellsC X N t i, tabL l⟩ := by
                    rw [hl, HOW.out, ownR_eq, if_pos (HON.out t i)]
                  rw [← hl] at hrd
                  obtain rfl : N = hnn := by rw [← hrd.1, hlen]
                  have hbq := hoi.bel
                  have hgi2 := (hbq.cell (p := ⟨hg, i, none⟩) hgl8).trans hgi
                  have HTB := Lib.hid (table_any _ ha N hcc l wq (hrd.keep hbq.size fun b _ hl => hbq.block b hl) hmc hcm (by omega))
                  have hcbq := hci.lt
                  have HLO := Lib.hid (tabL_ok hrd.2.1)
                  have HRT := Lib.hid (rowT_ok hrd.2.1)
                  have HTL : Hid ((tabL l).length = N) := Lib.hid (by simp [tabL, hlen])
                  have HQ := Lib.hid (And.intro hoi (And.intro hci hoi_eq))
                  clear hcell hlen hoi_eq hrd hbq hoi hci hl
                  go_wp2_with fail
                  (with_reducible refine HTB.out.mono ?_)
                  rintro e w6 ⟨⟨v, rfl, hvv⟩, hb6⟩
                  obtain ⟨ta, rfl, hta⟩ := hvv.rd HLO.out
                  rw [HTL.out] at hta ⊢
                  obtain ⟨h', hh1, hh2⟩ : ∃ h' : Nat → Rw, h' i = rowT l ∧ ∀ s, s ≠ i → h' s = own t s := ⟨fun s => if s = i then rowT l else own t s, by simp, fun s hs => by simp [hs]⟩
                  have hoi6 := (HQ.out.1.keepB hb6).congr (h' := h') (fun s hs => (hh2 s (by omega)).symm)
                  obtain ⟨cp7, ho7⟩ := hoi6.step hiN (by rw [hh1]; exact HRT.out) (tv := .slice ta N N) (by rw [hh1]; exact ⟨ta, N, N, rfl, hta.mono fun b _ hb => by have := HCB.out; omega, Nat.le_refl _, by simp only [maxLen]; omega⟩)
                  rw [hh1, rowT_vals] at ho7
                  have hci6 := HQ.out.2.1.keep (hb6.block cb hcbq)
                  have hci7 := hci6.keep (w' := putRow w6 ⟨W.heap.size, i * 57, none⟩ (.bool true :: (cellZ ++ [.slice ta N N]))) (putRow_other _ _ _ _ (by show cb ≠ W.heap.size; have := HCB.out; omega))
                  have HO7 := Lib.hid (And.intro ho7 hci7)
                  have HH7 := Lib.hid (And.intro hh1 hh2)
                  clear hvv hta hoi6 ho7 hci6 hci7 hh1 hh2 hb6 HTB hgi2
                  go_upto_region 23 with fail
                  generalize putRow w6 ⟨W.heap.size, i * 57, none⟩ (.bool true :: (cellZ ++ [.slice ta N N])) = w7 at HO7 ⊢
                  clear cp7
                  by_cases hcl : cl = 0
                  · have hcl0 : ¬ (0 : Int) < cl := by omega
                    have hoe : own t i = rowT l := by rw [HQ.out.2.2, cellsC_nil (by rw [HX.out.1]; exact hcl)]; rfl
                    clear hcl
                    have ho8 := HO7.out.1.congr (h' := own t) (fun s hs => by
                      by_cases hsi : s = i
                      · rw [hsi, HH7.out.1, hoe]
                      · exact HH7.out.2 s hsi)
                    obtain ⟨k1, k2, k3⟩ := ho8.cell_at hiN (Nat.lt_succ_self i)
                    rw [HQ.out.2.2] at k3
                    obtain ⟨cv, hcv⟩ : ∃ cv, cv = cellsC X N t i := ⟨_, rfl⟩
                    have hck := HCok.out t i
                    dsimp only at k3
                    rw [← hcv] at k3 hck
                    have HCA := Lib.hid (cellL_any cv hck w7)
                    have hcl55 : cv.length = 55 := (okL_len hck).trans len_cellK
                    have hcall := okL_cell1 hck
                    have hnk := nrm_ok hck
                    have hnl55 : (nrm cv).length = 55 := (okL_len hnk).trans len_cellK
                    have hnall := okL_cell1 hnk
                    have HCV := Lib.hid (And.intro hcv ho8)
                    clear hck hnk ho8 hoe hcv
                    go_wp2_with fail
                    (with_reducible refine HCA.out.mono ?_)
                    rintro e w8 ⟨rfl, hb8⟩
                    have hci8 := HO7.out.2.keep (hb8.block cb HO7.out.2.lt)
                    obtain ⟨cp9, hci9⟩ := hci8.step hiN (by rw [← HCV.out.1]; exact hnl55)
                    rw [← HCV.out.1] at hci9
                    have HE := Lib.hid (And.intro ((HCV.out.2.keepB hb8).otherB ((Chg.refl (· = cb) w8).put (p := ⟨cb, i * 55, none⟩) (.inl rfl) (nrm cv)) (by have := HCB.out; omega) (by have := HCB.out; omega) (by have := HCB.out; omega)) hci9)
                    clear hci8 hci9 hb8 k2 k3
                    go_wp2_with fail
                    exact ⟨⟨i + 1, by omega, by go_num, HE.out⟩, by simp [intOf]; omega⟩
                  · obtain ⟨j, hj⟩ : ∃ j, (tn + i) % cl = j := ⟨_, rfl⟩
                    have hjl : j < cl := by rw [← hj]; exact Nat.mod_lt _ (by omega)
                    obtain ⟨cbk, coff, c, rfl, hcS, hcw, hcv0, hcok, hcl5, hcall0, hr1, hr2⟩ := HX.out.at_ j hjl
                    have hbw7 := H8.out.bel.trans (HO7.out.1.bel.mono hWw)
                    have hd := row_below hbw7 (p := ⟨cbk, coff + j * 55, none⟩) hcw 55
                    have d1 := hd.1.trans hr1
                    have d2 := hd.2.trans hr2
                    have hce : cellsC X N t i = c := cellsC_at (j := j) (by rw [← HTN.out, HX.out.1]; exact hj) hcv0
                    obtain ⟨cp8, ho8⟩ := HO7.out.1.setCell (h' := own t) hiN (Nat.lt_succ_self i) hcok (by rw [HQ.out.2.2, HH7.out.1, hce]; rfl) (fun s hs => (HH7.out.2 s hs).symm)
                    have hci7 := HO7.out.2.keep (w' := putRow w7 ⟨W.heap.size, i * 57 + 1, none⟩ c) (putRow_other _ _ _ _ (by show cb ≠ W.heap.size; have := HCB.out; omega))
                    have HO8 := Lib.hid (And.intro ho8 hci7)
                    have wr2 : IntKind.i64.wrap ((tn : Int) + i) = (tn : Int) + i := IntWalk.i64_in _ (by omega)
                    have f1 : ((tn : Int) + i).tmod cl = (j : Int) := by rw [← hj, Int.tmod_eq_emod_of_nonneg (by omega)]; norm_cast
                    have f2 : ((tn : Int) + i) % cl = (j : Int) := by rw [← hj]; norm_cast
                    have f3 : ¬ (cl : Int) = 0 := by omega
                    have f4 : (0 : Int) < cl := by omega
                    have f5 : (j : Int) < cl := by omega
                    have f6 : (0 : Int) ≤ j := by omega
                    clear hbw7 hd hr1 hr2 hce hcv0 hcok hj ho8 hci7
                    go_upto_region 25 with fail
                    generalize putRow w7 ⟨W.heap.size, i * 57 + 1, none⟩ c = w7b at HO8 ⊢
                    have HO7 := Lib.hid HO8.out
                    have ho8 := HO8.out.1
                    clear d1 d2 cp8 f1 f2 f3 f4 f5 f6 wr2
                    obtain ⟨k1, k2, k3⟩ := ho8.cell_at hiN (Nat.lt_succ_self i)
                    rw [HQ.out.2.2] at k3
                    obtain ⟨cv, hcv⟩ : ∃ cv, cv = cellsC X N t i := ⟨_, rfl⟩
                    have hck := HCok.out t i
                    dsimp only at k3
                    rw [← hcv] at k3 hck
                    have HCA := Lib.hid (cellL_any cv hck w7b)
                    have hcl55 : cv.length = 55 := (okL_len hck).trans len_cellK
                    have hcall := okL_cell1 hck
                    have hnk := nrm_ok hck
                    have hnl55 : (nrm cv).length = 55 := (okL_len hnk).trans len_cellK
                    have hnall := okL_cell1 hnk
                    have HCV := Lib.hid (And.intro hcv ho8)
                    clear hck hnk ho8 hcv
                    go_wp2_with fail
                    (with_reducible refine HCA.out.mono ?_)
                    rintro e w8 ⟨rfl, hb8⟩
                    have hci8 := HO7.out.2.keep (hb8.block cb HO7.out.2.lt)
                    obtain ⟨cp9, hci9⟩ := hci8.step hiN (by rw [← HCV.out.1]; exact hnl55)
                    rw [← HCV.out.1] at hci9
                    have HE := Lib.hid (And.intro ((HCV.out.2.keepB hb8).otherB ((Chg.refl (· = cb) w8).put (p := ⟨cb, i * 55, none⟩) (.inl rfl) (nrm cv)) (by have := HCB.out; omega) (by have := HCB.out; omega) (by have := HCB.out; omega)) hci9)
                    clear hci8 hci9 hb8 k2 k3
                    go_wp2_with fail
                    exact ⟨⟨i + 1, by omega, by go_num, HE.out⟩, by simp [intOf]; omega⟩
                · have hiN1 : ¬ (i : Int) < N := by omega
                  obtain rfl : N = i := by omega
                  obtain ⟨wx, rfl⟩ : ∃ wx, wx = wq := ⟨_, rfl⟩
                  have hrO := hoi.rd (fun s h1 h2 => by omega)
                  have hbx := hoi.bel
                  have HRO := Lib.hid hrO
                  have HCX := Lib.hid hci
                  have HBX := Lib.hid hbx
                  have HWX := Lib.hid (HW8.out.below hbx (tag' := tagR tag8 W.heap.size wx.heap.size 0) fun b hb => tagR_lo hb)
                  have HVO : Hid (∀ g, (Value.slice a t cap).ownBlock = some g → w.heap.size ≤ g ∧ g < W.heap.size ∧ tag8 g = 98) := Lib.hid fun g hg => ⟨(HW8.out.own.lt g hg).1, (HW8.out.own.lt g hg).2, HW8.out.tv g hg⟩
                  have hsx := hbx.size
                  have hcx := hci.lt
                  have hwx : w.heap.size ≤ wx.heap.size := by omega
                  clear hoi hci hrO hbx HOJ HCI hi
                  go_wp2_with (at_builtin; refine wpList_lies app_clist (by rfl) (.tmp 103) (.tmp 105) (by rfl) w.heap.size _ _ _ (by rfl) (HWX.out.own.alloc _) ⟨wx.heap.size, 0, none⟩ 1 1 [.slice (some ⟨cb, 0, none⟩) N N] (by rfl) (by simp) (hasRow_new wx _ _ 0 1 (by simp)) (rowOf_new wx _ _ 0 1 (by simp)) (by rfl) (by omega) (by omega) (by simp; omega) ?_; intro gg cp w7 hown1 hgrow hlie; have H7 := Lib.hid (H8.out.sealed HBX.out HVO.out hgrow); have HW7 := Lib.hid (HWX.out.push (by have := HCB.out; omega) hcx (tagR_in (by have := HCB.out; omega) hcx) HCX.out hgrow (fun b hb => by rw [tagR_hi hb]; exact H8.out.r.tg b (by omega)) hown1 hlie); have H7b := Lib.hid hgrow; clear hown1 hgrow hlie)
                  obtain ⟨tag7, htag7⟩ : ∃ tag7, tag7 = tagR tag8 W.heap.size wx.heap.size 0 := ⟨_, rfl⟩
                  rw [← htag7] at H7 HW7
                  have hs7 : wx.heap.size < w7.heap.size := by have := H7b.out.size; simp at this; omega
                  have HT7 : Hid (∀ b, b < W.heap.size → tag7 b = tag8 b) := Lib.hid fun b hb => by rw [htag7]; exact tagR_lo hb
                  have HSo : Hid (∀ b, (b = W.heap.size ∨ W.heap.size + 2 ≤ b) → ¬ Rgs tag7 N b) := Lib.hid fun b hb hr => by
                    have h2 := hr.1
                    have h3 := hr.2
                    rw [htag7] at h2 h3
                    by_cases hbx : b < wx.heap.size
                    · rw [tagR_in (by omega) hbx] at h2; omega
                    · rw [tagR_hi (by omega), H8.out.r.tg b (by omega)] at h3; omega
                  have HS7 : Hid (∀ b, tag8 b = 98 → ¬ Rgs tag7 N b) := Lib.hid fun b h98 hr => by
                    by_cases hbW : b < W.heap.size
                    · have h3 := hr.2
                      rw [HT7.out b hbW] at h3; omega
                    · have h2 := hr.1
                      have h3 := hr.2
                      rw [htag7] at h2 h3
                      by_cases hbx : b < wx.heap.size
                      · rw [tagR_in (by omega) hbx] at h2; omega
                      · rw [tagR_hi (by omega), h98] at h3; omega
                  clear htag7
                  have HR7 : Hid (RdRs (fun b => b = W.heap.size ∨ W.heap.size + 2 ≤ b) w7 (some ⟨W.heap.size, 0, none⟩) N (tab N (own t))) := Lib.hid (HRO.out.keep (by omega) fun b hb hl => (H7b.out.block b (by simp; omega) (fun e => by
                    have h1 := (HVO.out b e.symm).2.1
                    rcases hb with rfl | hb
                    · omega
                    · omega)).trans (Below.heap_alloc _ _ _ hl))
                  have HK7 : Hid (Blk w7 ob 4 (onL N fun _ => true).toArray) := Lib.hid ((H7b.out.block ob (by have := HO8.out.2; simp; omega) (fun e => own_not HW8.out.own HK8.out (by decide) e.symm)).trans ((HK8.out.below HBX.out HO8.out.2).alloc _))
                  have HH7 := Lib.hid ((HH8.out.keep hsx fun b hb hl => HBX.out.block b hl).keep (by omega) fun b hb hl => (H7b.out.block b (by simp; omega) (fun e => by have h1 := HVW.out b e.symm; have h2 := hb.1; omega)).trans (Below.heap_alloc _ _ _ hl))
                  have HSC := Lib.hid (say_tick N F on own (oc := N) H7.out.r (by omega : t ≤ 100000) HR7.out (fun b hbl hb => HSo.out b hb) (Nat.le_refl _))
                  have hs7w : W.heap.size < w7.heap.size := by omega
                  go_wp2_with fail
                  (with_reducible refine HSC.out.mono ?_)
                  rintro e w9 hs
                  obtain ⟨rfl, tag9, P9, hl9, htg9, hc9⟩ := H7.out.say hs
                  have HNN8 : ((rgT N F on own t).hear (on t)).N = N := HNN.out
                  rw [HNN8] at hc9
                  have H9 : Hid (LSt (fun _ => []) 0 w rg (.slice aa an ac) (rgT N F on own (t + 1)) tag9 P9 (.slice none 0 0) [] w9) := Lib.hid hl9
                  have HW9 := Lib.hid (HW7.out.rgs (M := N) h16 hc9 htg9)
                  have hs9 := hc9.size
                  have HH9 := Lib.hid (HH7.out.keep hs9 fun b hb hl => hc9.block b hl (HS7.out b hb.2))
                  have HK9 := Lib.hid (HK7.out.chg hc9 (HS7.out ob HO8.out.1))
                  have HT9 : Hid (tag9 ob = 98) := Lib.hid (by rw [htg9 ob (by have := HO8.out.2; omega), HT7.out ob HO8.out.2]; exact HO8.out.1)
                  clear hs hl9 htg9 hc9 HSC HNN8
                  clear H7 H7b HR7 HK7 HT7 HSo HS7 HW7 HH7 HH8 HO8 HK8 HWX HBX HCX HRO H8 HW8 HVO HVW
                  have HNF := Lib.hid (rgT_N N F on own (t + 1))
                  obtain ⟨A, hA⟩ : ∃ A : List Hd, (∀ i, i < N → ¬ Bd N F i → 2 * N ≤ t → agreeL N (((rgT N F on own t).hear (on t)).held i) = A) ∧ A.length = N ∧ (∀ x ∈ A, x.ok) := by
                    by_cases hex : ∃ i, i < N ∧ ¬ Bd N F i
                    · obtain ⟨i0, hi0, hb0⟩ := hex
                      refine ⟨agreeL N (heldR N F on (cellsC X N) t i0), fun i hi hbi ht2 => ?_, agreeL_len N h4 h16 _, agreeL_ok⟩
                      rw [HOW.out]
                      exact agree_same N F on (cellsC X N) h4 h16 HFo.out HCok.out (fun t i _ => HON.out t i) ht2 hi hi0 hbi hb0
                    · exact ⟨agreeL N [], fun i hi hbi => absurd ⟨i, hi, hbi⟩ hex, agreeL_len N h4 h16 _, agreeL_ok⟩
                  have HAA := Lib.hid hA
                  clear hA
                  go_wp2_with fail
                  go_loopw [17, 18] (fun s17 s18 wq => ∃ i : Nat, i ≤ N ∧ s18 = .int .i64 i ∧ Below w9.heap.size w9 wq ∧ FstA w9.heap.size A N s17 wq) (fun _ i _ => N - (intOf i).toNat)
                  case atStart => exact ⟨0, by omega, rfl, Below.refl _ _, .inl rfl⟩
                  case round =>
                    obtain ⟨i, hi, rfl, hbq, hfst⟩ := hrel
                    have HBQ := Lib.hid hbq
                    have HFS := Lib.hid hfst
                    clear hbq hfst
                    by_cases hiN : i < N
                    · have hiN1 : (i : Int) < N := by omega
                      have hi0 : (0 : Int) ≤ i := by omega
                      have HBI := Lib.hid (bad_node H9.out.r HBQ.out HNF.out.1 HNF.out.2 hiN)
                      obtain ⟨qi, hqi⟩ : ∃ qi, qi = (!F.link && decide (F.at_ % N = i)) := ⟨_, rfl⟩
                      rw [← hqi] at HBI
                      have HQI := Lib.hid hqi
                      clear hqi
                      go_wp2_with fail
                      (with_reducible refine HBI.out.mono ?_)
                      rintro e wb ⟨rfl, hbb⟩
                      have HBB := Lib.hid (HBQ.out.trans (hbb.mono HBQ.out.size))
                      have HFB := Lib.hid (HFS.out.below hbb)
                      clear hbb HBI
                      cases qi with
                      | true =>
                        go_wp2_with fail
                        exact ⟨⟨i + 1, by omega, by go_num, HBB.out, HFB.out⟩, by simp [intOf]; omega⟩
                      | false =>
                        by_cases ht2 : t < 2 * N
                        · have ht21 : (t : Int) < 2 * (N : Int) := by omega
                          go_wp2_with fail
                          exact ⟨⟨i + 1, by omega, by go_num, HBB.out, HFB.out⟩, by simp [intOf]; omega⟩
                        · have ht21 : ¬ (t : Int) < 2 * (N : Int) := by omega
                          have HNB : Hid (¬ Bd N F i) := Lib.hid fun h => by have := HQI.out; rw [h.1, h.2] at this; simp at this
                          obtain ⟨g', c', he, -, hgl9, -, -, hcell⟩ := HH9.out
                          cases he
                          obtain ⟨hu, hgi, ha, hnn, hcc, rfl, hrd, hmc, hcm⟩ := hcell i hiN
                          have hlen : (((rgT N F on own t).hear (on t)).held i).length = N := by rw [HOW.out]; exact heldR_len N F on (cellsC X N) (HON.out t i) hiN
                          obtain rfl : N = hnn := by rw [← hrd.1, hlen]
                          have HAG := Lib.hid (agree_any _ N ha N hcc _ wb (hrd.keep HBB.out.size fun b _ hl => HBB.out.block b hl) hmc hcm)
                          rw [HAA.out.1 i hiN HNB.out (by omega)] at HAG
                          have hgi2 := (HBB.out.cell (p := ⟨hg, i, none⟩) hgl9).trans hgi
                          clear hcell hlen hrd hgi
                          go_wp2_with fail
                          (with_reducible refine HAG.out.mono ?_)
                          rintro e wc ⟨⟨v, rfl, hvv⟩, hbc⟩
                          obtain ⟨gv, rfl, hbv⟩ : ∃ g, v = .slice (some ⟨g, 0, none⟩) N N ∧ Blk wc g 114 (flatH A).toArray ∧ wb.heap.size ≤ g := by
                            rcases hvv with ⟨g, h1, h2⟩ | ⟨h1, -⟩
                            · rw [HAA.out.2.1] at h1; exact ⟨g, h1, h2⟩
                            · have := HAA.out.2.1; rw [h1] at this; simp at this; omega
                          have HBC := Lib.hid (HBB.out.trans (hbc.mono HBB.out.size))
                          have HFC := Lib.hid (HFB.out.below hbc)
                          have HBV := Lib.hid hbv
                          have hwb9 := HBB.out.size
                          clear hvv hbc hbv HAG hgi2
                          go_upto_region 36 with fail
                          go_cut [135] from 134 to 135 (fun sb wx => ∃ qb : Bool, sb = .bool qb ∧ wc = wx ∧ ((qb = true ∧ u17 = .slice none 0 0) ∨ (qb = false ∧ ∃ g, u17 = .slice (some ⟨g, 0, none⟩) N N ∧ w9.heap.size ≤ g ∧ Blk wc g 114 (flatH A).toArray)))
                          case first =>
                            rcases HFC.out with rfl | ⟨g, rfl, hgb⟩
                            · go_wp2_with fail
                              go_meet
                              exact ⟨true, rfl, rfl, .inl ⟨rfl, by trivial⟩⟩
                            · have HG := Lib.hid hgb
                              clear hgb
                              go_wp2_with fail
                              go_meet
                              exact ⟨false, rfl, rfl, .inr ⟨rfl, g, rfl, HG.out⟩⟩
                          case rest =>
                          obtain ⟨qb, rfl, rfl, hfq⟩ := hcut
                          have HFQ := Lib.hid hfq
                          clear hfq
                          go_upto_if 135 with fail
                          go_cut [17] from 136 to 136 (fun s17 wx => wc = wx ∧ ∃ g, s17 = .slice (some ⟨g, 0, none⟩) N N ∧ w9.heap.size ≤ g ∧ Blk wc g 114 (flatH A).toArray)
                          case first =>
                            rcases HFQ.out with ⟨rfl, h2⟩ | ⟨rfl, g, h2, hgb⟩
                            · clear h2
                              go_wp2_with fail
                              go_meet
                              exact ⟨rfl, gv, rfl, by have := HBV.out.2; omega, HBV.out.1⟩
                            · subst h2
                              have HG := Lib.hid hgb
                              clear hgb
                              go_wp2_with fail
                              go_meet
                              exact ⟨rfl, g, rfl, HG.out⟩
                          case rest =>
                            obtain ⟨rfl, gf, rfl, hgf⟩ := hcut
                            have HGF := Lib.hid hgf
                            clear hgf
                            have hwc9 := HBC.out.size
                            go_wp2_with fail
                            go_loopw [20] (fun s20 wq => ∃ s : Nat, s ≤ N ∧ s20 = .int .i64 s ∧ Below wc.heap.size wc wq) (fun s _ => N - (intOf s).toNat)
                            case atStart => exact ⟨0, by omega, rfl, Below.refl _ _⟩
                            case round =>
                              obtain ⟨s, hs, rfl, hbr⟩ := hrel
                              obtain ⟨wq, rfl⟩ : ∃ wq, wq = wr := ⟨_, rfl⟩
                              have HBR := Lib.hid hbr
                              clear hbr
                              have hwqc := HBR.out.size
                              by_cases hsN : s < N
                              · have hsN1 : (s : Int) < N := by omega
                                have hs0 : (0 : Int) ≤ s := by omega
                                obtain ⟨qs, hqs⟩ : ∃ qs, qs = (!F.link && decide (F.at_ % N = s)) := ⟨_, rfl⟩
                                have HBS : Hid (∀ w' : World, Below wq.heap.size wq w' → Calls Try.prog 34 #[.pointer (some ⟨rg, 0, none⟩), .int .i64 s] w' (BadPost qs w')) := Lib.hid fun w' hb => by
                                  rw [hqs]
                                  exact bad_node H9.out.r (HBC.out.trans ((HBR.out.trans (hb.mono hwqc)).mono hwc9)) HNF.out.1 HNF.out.2 hsN
                                obtain ⟨x, hx⟩ : ∃ x, A[s]? = some x := ⟨_, List.getElem?_eq_getElem (by rw [HAA.out.2.1]; exact hsN)⟩
                                have hxk := HAA.out.2.2 x (List.mem_of_getElem? hx)
                                have hFX : ∀ (w' : World), Below wq.heap.size wq w' → hasRow w' ⟨gv, s * 56, none⟩ 56 = true ∧ rowOf w' ⟨gv, s * 56, none⟩ 56 = x.vals ∧ hasRow w' ⟨gf, s * 56, none⟩ 56 = true ∧ rowOf w' ⟨gf, s * 56, none⟩ 56 = x.vals := fun w' hb => by
                                  have hbb := HBR.out.trans (hb.mono hwqc)
                                  obtain ⟨q1, q2⟩ := blk_hdV (HBV.out.1.below hbb HBV.out.1.lt) HAA.out.2.2 hx
                                  obtain ⟨q3, q4⟩ := blk_hdV (HGF.out.2.below hbb HGF.out.2.lt) HAA.out.2.2 hx
                                  exact ⟨q1, q2, q3, q4⟩
                                cases qs with
                                | true =>
                                  obtain ⟨xv, hxv⟩ : ∃ xv, xv = x.vals := ⟨_, rfl⟩
                                  have hkx := Hd.vals_ok hxk
                                  rw [← hxv] at hFX hkx
                                  have F41 := Lib.hid hFX
                                  clear hFX hxv hxk hx hqs
                                  go_upto_region 41 with fail
                                  refine wp_region_held_drew (S := (fun w' => hasRow w' ⟨gv, s * 56, none⟩ 56 = true ∧ rowOf w' ⟨gv, s * 56, none⟩ 56 = xv ∧ hasRow w' ⟨gf, s * 56, none⟩ 56 = true ∧ rowOf w' ⟨gf, s * 56, none⟩ 56 = xv)) (by kernel_rfl) ?_ (fun hHeld => ?_)
                                  · exact F41.out _ (Below.refl _ _).drew
                                  refine wpAnyH_take (i := 0) (oi := ?_) (v := ?_) ?_ (by kernel_rfl) (by kernel_rfl) (by kernel_rfl) ?_ (Or.inl ⟨?_, ?_⟩) (by assumption) ?_
                                  rotate_left 2
                                  · simp only [List.getElem?_toArray, List.getElem?_cons_zero, List.getElem?_cons_succ]; rfl
                                  · exact fun _ _ _ h => h
                                  · rfl
                                  · intro w' hSw; (try dsimp only at hSw); (first | (go_simp; done) | (go_simp; with_reducible rfl))
                                  try simp only [Act.put, List.setIfInBounds_toArray, List.set_cons_zero, List.set_cons_succ]
                                  refine wpAnyH_take (i := 1) (oi := ?_) (v := ?_) ?_ (by kernel_rfl) (by kernel_rfl) (by kernel_rfl) ?_ (Or.inl ⟨?_, ?_⟩) (by assumption) ?_
                                  rotate_left 2
                                  · simp only [List.getElem?_toArray, List.getElem?_cons_zero, List.getElem?_cons_succ]; rfl
                                  · exact fun _ _ _ h => h
                                  · rfl
                                  · intro w' hSw; (try dsimp only at hSw); (first | (go_simp; done) | (go_simp; with_reducible rfl))
                                  try simp only [Act.put, List.setIfInBounds_toArray, List.set_cons_zero, List.set_cons_succ]
                                  refine wpAnyH_take (i := 2) (oi := ?_) (v := ?_) ?_ (by kernel_rfl) (by kernel_rfl) (by kernel_rfl) ?_ (Or.inl ⟨?_, ?_⟩) (by assumption) ?_
                                  rotate_left 2
                                  · simp only [List.getElem?_toArray, List.getElem?_cons_zero, List.getElem?_cons_succ]; rfl
                                  · exact fun _ _ _ h => h
                                  · rfl
                                  · intro w' hSw; (try dsimp only at hSw); (first | (go_simp; done) | (go_simp; with_reducible rfl))
                                  try simp only [Act.put, List.setIfInBounds_toArray, List.set_cons_zero, List.set_cons_succ]
                                  refine wpAnyH_take (i := 3) (oi := ?_) (v := ?_) ?_ (by kernel_rfl) (by kernel_rfl) (by kernel_rfl) ?_ (Or.inl ⟨?_, ?_⟩) (by assumption) ?_
                                  rotate_left 2
                                  · simp only [List.getElem?_toArray, List.getElem?_cons_zero, List.getElem?_cons_succ]; rfl
                                  · exact fun _ _ _ h => h
                                  · rfl
                                  · intro w' hSw; (try dsimp only at hSw); (first | (go_simp; done) | (go_simp; with_reducible rfl))
                                  try simp only [Act.put, List.setIfInBounds_toArray, List.set_cons_zero, List.set_cons_succ]
                                  refine wpAnyH_take (i := 4) (oi := ?_) (v := ?_) ?_ (by kernel_rfl) (by kernel_rfl) (by kernel_rfl) ?_ (Or.inl ⟨?_, ?_⟩) (by assumption) ?_
                                  rotate_left 2
                                  · simp only [List.getElem?_toArray, List.getElem?_cons_zero, List.getElem?_cons_succ]; rfl
                                  · exact fun _ _ _ h => h
                                  · rfl
                                  · intro w' hSw; (try dsimp only at hSw); (first | (go_simp; done) | (go_simp; with_reducible rfl))
                                  try simp only [Act.put, List.setIfInBounds_toArray, List.set_cons_zero, List.set_cons_succ]
                                  refine wpAnyH_take (i := 5) (oi := ?_) (v := ?_) ?_ (by kernel_rfl) (by kernel_rfl) (by kernel_rfl) ?_ (Or.inl ⟨?_, ?_⟩) (by assumption) ?_
                                  rotate_left 2
                                  · simp only [List.getElem?_toArray, List.getElem?_cons_zero, List.getElem?_cons_succ]; rfl
                                  · exact fun _ _ _ h => h
                                  · rfl
                                  · intro w' hSw; (try dsimp only at hSw); (first | (go_simp; done) | (go_simp; with_reducible rfl))
                                  try simp only [Act.put, List.setIfInBounds_toArray, List.set_cons_zero, List.set_cons_succ]
                                  refine wpAnyH_take (i := 6) (oi := ?_) (v := ?_) ?_ (by kernel_rfl) (by kernel_rfl) (by kernel_rfl) ?_ (Or.inl ⟨?_, ?_⟩) (by assumption) ?_
                                  rotate_left 2
                                  · simp only [List.getElem?_toArray, List.getElem?_cons_zero, List.getElem?_cons_succ]; rfl
                                  · exact fun _ _ _ h => h
                                  · rfl
                                  · intro w' hSw; (try dsimp only at hSw); (first | (go_simp; done) | (go_simp; with_reducible rfl))
                                  try simp only [Act.put, List.setIfInBounds_toArray, List.set_cons_zero, List.set_cons_succ]
                                  refine wpAnyH_take (i := 7) (oi := ?_) (v := ?_) ?_ (by kernel_rfl) (by kernel_rfl) (by kernel_rfl) ?_ (Or.inl ⟨?_, ?_⟩) (by assumption) ?_
                                  rotate_left 2
                                  · simp only [List.getElem?_toArray, List.getElem?_cons_zero, List.getElem?_cons_succ]; rfl
                                  · exact fun _ _ _ h => h
                                  · rfl
                                  · intro w' hSw; (try dsimp only at hSw); (first | (go_simp; done) | (go_simp; with_reducible rfl))
                                  try simp only [Act.put, List.setIfInBounds_toArray, List.set_cons_zero, List.set_cons_succ]
                                  refine wpAnyH_take (i := 8) (oi := ?_) (v := ?_) ?_ (by kernel_rfl) (by kernel_rfl) (by kernel_rfl) ?_ (Or.inl ⟨?_, ?_⟩) (by assumption) ?_
                                  rotate_left 2
                                  · simp only [List.getElem?_toArray, List.getElem?_cons_zero, List.getElem?_cons_succ]; rfl
                                  · exact fun _ _ _ h => h
                                  · rfl
                                  · intro w' hSw; (try dsimp only at hSw); (first | (go_simp; done) | (go_simp; with_reducible rfl))
                                  try simp only [Act.put, List.setIfInBounds_toArray, List.set_cons_zero, List.set_cons_succ]
                                  refine wpAnyH_take (i := 9) (oi := ?_) (v := ?_) ?_ (by kernel_rfl) (by kernel_rfl) (by kernel_rfl) ?_ (Or.inl ⟨?_, ?_⟩) (by assumption) ?_
                                  rotate_left 2
                                  · simp only [List.getElem?_toArray, List.getElem?_cons_zero, List.getElem?_cons_succ]; rfl
                                  · exact fun _ _ _ h => h
                                  · rfl
                                  · intro w' hSw; (try dsimp only at hSw); (first | (go_simp; done) | (go_simp; with_reducible rfl))
                                  try simp only [Act.put, List.setIfInBounds_toArray, List.set_cons_zero, List.set_cons_succ]
                                  refine wpAnyH_take (i := 10) (oi := ?_) (v := ?_) ?_ (by kernel_rfl) (by kernel_rfl) (by kernel_rfl) ?_ (Or.inl ⟨?_, ?_⟩) (by assumption) ?_
                                  rotate_left 2
                                  · simp only [List.getElem?_toArray, List.getElem?_cons_zero, List.getElem?_cons_succ]; rfl
                                  · exact fun _ _ _ h => h
                                  · rfl
                                  · intro w' hSw; (try dsimp only at hSw); (first | (go_simp; done) | (go_simp; with_reducible rfl))
                                  try simp only [Act.put, List.setIfInBounds_toArray, List.set_cons_zero, List.set_cons_succ]
                                  refine wpAnyH_take (i := 11) (oi := ?_) (v := ?_) ?_ (by kernel_rfl) (by kernel_rfl) (by kernel_rfl) ?_ (Or.inl ⟨?_, ?_⟩) (by assumption) ?_
                                  rotate_left 2
                                  · simp only [List.getElem?_toArray, List.getElem?_cons_zero, List.getElem?_cons_succ]; rfl
                                  · exact fun _ _ _ h => h
                                  · rfl
                                  · intro w' hSw; (try dsimp only at hSw); (first | (go_simp; done) | (go_simp; with_reducible rfl))
                                  try simp only [Act.put, List.setIfInBounds_toArray, List.set_cons_zero, List.set_cons_succ]
                                  refine wpAnyH_ready (rs := [12]) (by kernel_rfl) (by simp) ?_
                                  refine AllReadyH.cons (o := ?_) ?_ (fun K hK => ?_) AllReadyH.nil
                                  rotate_left 1
                                  · simp only [List.getElem?_toArray, List.getElem?_cons_zero, List.getElem?_cons_succ]; rfl
                                  go_simp
                                  go_at_call 34
                                  (with_reducible refine (HBS.out _ (Below.refl _ _).drew).mono ?_)
                                  rintro e w41 ⟨rfl, hb41⟩
                                  have H41 := Lib.hid ((Below.refl wq.heap.size wq).drew.trans hb41)
                                  clear hb41
                                  refine hK.out _ _ ?_ (fun hHeld => ?_)
                                  · exact F41.out _ H41.out
                                  clear hK K
                                  try simp only [Act.put, List.setIfInBounds_toArray, List.set_cons_zero, List.set_cons_succ]
                                  refine wpAnyH_take (i := 13) (oi := ?_) (v := ?_) ?_ (by kernel_rfl) (by kernel_rfl) (by kernel_rfl) ?_ (Or.inl ⟨?_, ?_⟩) (by assumption) ?_
                                  rotate_left 2
                                  · simp only [List.getElem?_toArray, List.getElem?_cons_zero, List.getElem?_cons_succ]; rfl
                                  · exact fun _ _ _ h => h
                                  · rfl
                                  · intro w' hSw; (try dsimp only at hSw); (first | (go_simp; done) | (go_simp; with_reducible rfl))
                                  try simp only [Act.put, List.setIfInBounds_toArray, List.set_cons_zero, List.set_cons_succ]
                                  refine wpAnyH_take (i := 14) (oi := ?_) (v := ?_) ?_ (by kernel_rfl) (by kernel_rfl) (by kernel_rfl) ?_ (Or.inl ⟨?_, ?_⟩) (by assumption) ?_
                                  rotate_left 2
                                  · simp only [List.getElem?_toArray, List.getElem?_cons_zero, List.getElem?_cons_succ]; rfl
                                  · exact fun _ _ _ h => h
                                  · rfl
                                  · intro w' hSw; (try dsimp only at hSw); (first | (go_simp; done) | (go_simp; with_reducible rfl))
                                  try simp only [Act.put, List.setIfInBounds_toArray, List.set_cons_zero, List.set_cons_succ]
                                  refine wpAnyH_take (i := 15) (oi := ?_) (v := undef) ?_ (by kernel_rfl) (by kernel_rfl) (by kernel_rfl) ?_ (Or.inr ⟨?_, rfl⟩) (by assumption) ?_
                                  rotate_left 1
                                  · simp only [List.getElem?_toArray, List.getElem?_cons_zero, List.getElem?_cons_succ]; rfl
                                  · exact fun _ _ _ h => h
                                  · rfl
                                  try simp only [Act.put, List.setIfInBounds_toArray, List.set_cons_zero, List.set_cons_succ]
                                  refine wpAnyH_take (i := 16) (oi := ?_) (v := undef) ?_ (by kernel_rfl) (by kernel_rfl) (by kernel_rfl) ?_ (Or.inr ⟨?_, rfl⟩) (by assumption) ?_
                                  rotate_left 1
                                  · simp only [List.getElem?_toArray, List.getElem?_cons_zero, List.getElem?_cons_succ]; rfl
                                  · exact fun _ _ _ h => h
                                  · rfl
                                  try simp only [Act.put, List.setIfInBounds_toArray, List.set_cons_zero, List.set_cons_succ]
                                  refine wpAnyH_take (i := 17) (oi := ?_) (v := undef) ?_ (by kernel_rfl) (by kernel_rfl) (by kernel_rfl) ?_ (Or.inr ⟨?_, rfl⟩) (by assumption) ?_
                                  rotate_left 1
                                  · simp only [List.getElem?_toArray, List.getElem?_cons_zero, List.getElem?_cons_succ]; rfl
                                  · exact fun _ _ _ h => h
                                  · rfl
                                  try simp only [Act.put, List.setIfInBounds_toArray, List.set_cons_zero, List.set_cons_succ]
                                  refine wpAnyH_take (i := 18) (oi := ?_) (v := undef) ?_ (by kernel_rfl) (by kernel_rfl) (by kernel_rfl) ?_ (Or.inr ⟨?_, rfl⟩) (by assumption) ?_
                                  rotate_left 1
                                  · simp only [List.getElem?_toArray, List.getElem?_cons_zero, List.getElem?_cons_succ]; rfl
                                  · exact fun _ _ _ h => h
                                  · rfl
                                  try simp only [Act.put, List.setIfInBounds_toArray, List.set_cons_zero, List.set_cons_succ]
                                  refine wpAnyH_take (i := 19) (oi := ?_) (v := undef) ?_ (by kernel_rfl) (by kernel_rfl) (by kernel_rfl) ?_ (Or.inr ⟨?_, rfl⟩) (by assumption) ?_
                                  rotate_left 1
                                  · simp only [List.getElem?_toArray, List.getElem?_cons_zero, List.getElem?_cons_succ]; rfl
                                  · exact fun _ _ _ h => h
                                  · rfl
                                  try simp only [Act.put, List.setIfInBounds_toArray, List.set_cons_zero, List.set_cons_succ]
                                  refine wpAnyH_take (i := 20) (oi := ?_) (v := undef) ?_ (by kernel_rfl) (by kernel_rfl) (by kernel_rfl) ?_ (Or.inr ⟨?_, rfl⟩) (by assumption) ?_
                                  rotate_left 1
                                  · simp only [List.getElem?_toArray, List.getElem?_cons_zero, List.getElem?_cons_succ]; rfl
                                  · exact fun _ _ _ h => h
                                  · rfl
                                  try simp only [Act.put, List.setIfInBounds_toArray, List.set_cons_zero, List.set_cons_succ]
                                  refine wpAnyH_take (i := 21) (oi := ?_) (v := undef) ?_ (by kernel_rfl) (by kernel_rfl) (by kernel_rfl) ?_ (Or.inr ⟨?_, rfl⟩) (by assumption) ?_
                                  rotate_left 1
                                  · simp only [List.getElem?_toArray, List.getElem?_cons_zero, List.getElem?_cons_succ]; rfl
                                  · exact fun _ _ _ h => h
                                  · rfl
                                  try simp only [Act.put, List.setIfInBounds_toArray, List.set_cons_zero, List.set_cons_succ]
                                  refine wpAnyH_take (i := 22) (oi := ?_) (v := undef) ?_ (by kernel_rfl) (by kernel_rfl) (by kernel_rfl) ?_ (Or.inr ⟨?_, rfl⟩) (by assumption) ?_
                                  rotate_left 1
                                  · simp only [List.getElem?_toArray, List.getElem?_cons_zero, List.getElem?_cons_succ]; rfl
                                  · exact fun _ _ _ h => h
                                  · rfl
                                  try simp only [Act.put, List.setIfInBounds_toArray, List.set_cons_zero, List.set_cons_succ]
                                  refine wpAnyH_take (i := 23) (oi := ?_) (v := undef) ?_ (by kernel_rfl) (by kernel_rfl) (by kernel_rfl) ?_ (Or.inr ⟨?_, rfl⟩) (by assumption) ?_
                                  rotate_left 1
                                  · simp only [List.getElem?_toArray, List.getElem?_cons_zero, List.getElem?_cons_succ]; rfl
                                  · exact fun _ _ _ h => h
                                  · rfl
                                  try simp only [Act.put, List.setIfInBounds_toArray, List.set_cons_zero, List.set_cons_succ]
                                  refine wpAnyH_take (i := 24) (oi := ?_) (v := undef) ?_ (by kernel_rfl) (by kernel_rfl) (by kernel_rfl) ?_ (Or.inr ⟨?_, rfl⟩) (by assumption) ?_
                                  rotate_left 1
                                  · simp only [List.getElem?_toArray, List.getElem?_cons_zero, List.getElem?_cons_succ]; rfl
                                  · exact fun _ _ _ h => h
                                  · rfl
                                  try simp only [Act.put, List.setIfInBounds_toArray, List.set_cons_zero, List.set_cons_succ]
                                  refine wpAnyH_take (i := 25) (oi := ?_) (v := undef) ?_ (by kernel_rfl) (by kernel_rfl) (by kernel_rfl) ?_ (Or.inr ⟨?_, rfl⟩) (by assumption) ?_
                                  rotate_left 1
                                  · simp only [List.getElem?_toArray, List.getElem?_cons_zero, List.getElem?_cons_succ]; rfl
                                  · exact fun _ _ _ h => h
                                  · rfl
                                  try simp only [Act.put, List.setIfInBounds_toArray, List.set_cons_zero, List.set_cons_succ]
                                  refine wpAnyH_take (i := 26) (oi := ?_) (v := undef) ?_ (by kernel_rfl) (by kernel_rfl) (by kernel_rfl) ?_ (Or.inr ⟨?_, rfl⟩) (by assumption) ?_
                                  rotate_left 1
                                  · simp only [List.getElem?_toArray, List.getElem?_cons_zero, List.getElem?_cons_succ]; rfl
                                  · exact fun _ _ _ h => h
                                  · rfl
                                  try simp only [Act.put, List.setIfInBounds_toArray, List.set_cons_zero, List.set_cons_succ]
                                  refine wpAnyH_take (i := 27) (oi := ?_) (v := undef) ?_ (by kernel_rfl) (by kernel_rfl) (by kernel_rfl) ?_ (Or.inr ⟨?_, rfl⟩) (by assumption) ?_
                                  rotate_left 1
                                  · simp only [List.getElem?_toArray, List.getElem?_cons_zero, List.getElem?_cons_succ]; rfl
                                  · exact fun _ _ _ h => h
                                  · rfl
                                  try simp only [Act.put, List.setIfInBounds_toArray, List.set_cons_zero, List.set_cons_succ]
                                  refine wpAnyH_take (i := 28) (oi := ?_) (v := undef) ?_ (by kernel_rfl) (by kernel_rfl) (by kernel_rfl) ?_ (Or.inr ⟨?_, rfl⟩) (by assumption) ?_
                                  rotate_left 1
                                  · simp only [List.getElem?_toArray, List.getElem?_cons_zero, List.getElem?_cons_succ]; rfl
                                  · exact fun _ _ _ h => h
                                  · rfl
                                  try simp only [Act.put, List.setIfInBounds_toArray, List.set_cons_zero, List.set_cons_succ]
                                  refine wpAnyH_take (i := 29) (oi := ?_) (v := undef) ?_ (by kernel_rfl) (by kernel_rfl) (by kernel_rfl) ?_ (Or.inr ⟨?_, rfl⟩) (by assumption) ?_
                                  rotate_left 1
                                  · simp only [List.getElem?_toArray, List.getElem?_cons_zero, List.getElem?_cons_succ]; rfl
                                  · exact fun _ _ _ h => h
                                  · rfl
                                  try simp only [Act.put, List.setIfInBounds_toArray, List.set_cons_zero, List.set_cons_succ]
                                  refine wpAnyH_take (i := 30) (oi := ?_) (v := undef) ?_ (by kernel_rfl) (by kernel_rfl) (by kernel_rfl) ?_ (Or.inr ⟨?_, rfl⟩) (by assumption) ?_
                                  rotate_left 1
                                  · simp only [List.getElem?_toArray, List.getElem?_cons_zero, List.getElem?_cons_succ]; rfl
                                  · exact fun _ _ _ h => h
                                  · rfl
                                  try simp only [Act.put, List.setIfInBounds_toArray, List.set_cons_zero, List.set_cons_succ]
                                  refine wpAnyH_take (i := 31) (oi := ?_) (v := ?_) ?_ (by kernel_rfl) (by kernel_rfl) (by kernel_rfl) ?_ (Or.inl ⟨?_, ?_⟩) (by assumption) ?_
                                  rotate_left 2
                                  · simp only [List.getElem?_toArray, List.getElem?_cons_zero, List.getElem?_cons_succ]; rfl
                                  · exact fun _ _ _ h => h
                                  · rfl
                                  · intro w' hSw; (try dsimp only at hSw); (first | (go_simp; done) | (go_simp; with_reducible rfl))
                                  try simp only [Act.put, List.setIfInBounds_toArray, List.set_cons_zero, List.set_cons_succ]
                                  refine wpAnyH_take (i := 32) (oi := ?_) (v := ?_) ?_ (by kernel_rfl) (by kernel_rfl) (by kernel_rfl) ?_ (Or.inl ⟨?_, ?_⟩) (by assumption) ?_
                                  rotate_left 2
                                  · simp only [List.getElem?_toArray, List.getElem?_cons_zero, List.getElem?_cons_succ]; rfl
                                  · exact fun _ _ _ h => h
                                  · rfl
                                  · intro w' hSw; (try dsimp only at hSw); (first | (go_simp; done) | (go_simp; with_reducible rfl))
                                  try simp only [Act.put, List.setIfInBounds_toArray, List.set_cons_zero, List.set_cons_succ]
                                  refine wpAnyH_done (by kernel_rfl) ?_ _
                                  go_wp2_with fail
                                  exact ⟨⟨s + 1, by omega, by go_num, HBR.out.trans (H41.out.mono HBR.out.size)⟩, by simp [intOf]; omega⟩
                                | false =>
                                  obtain ⟨d, hd⟩ : ∃ d, t = d + 2 * N := ⟨t - 2 * N, by omega⟩
                                  have hbs : ¬ Bd N F s := fun h => by rw [h.1, h.2] at hqs; simp at hqs
                                  have hxe : x = ⟨true, nrm (cellsC X N d s)⟩ := by
                                    obtain ⟨y, hy1, hy2, -⟩ := agree_right N F on (cellsC X N) h4 h16 HFo.out HCok.out (t := t) hiN hsN HNB.out hbs (HON.out t i)
                                    have hAe := HAA.out.1 i hiN HNB.out (by omega)
                                    have hy3 := hy2 (fun t i _ => HON.out t i) (by omega)
                                    rw [show t - 2 * N = d from by omega] at hy3
                                    have hy4 : A[s]? = some y := by rw [← hAe, HOW.out]; exact hy1
                                    rw [hx] at hy4
                                    cases hy4
                                    exact hy3
                                  obtain ⟨cv, hcv⟩ : ∃ cv, cv = nrm (cellsC X N d s) := ⟨_, rfl⟩
                                  have hck : okL cellK cv = true := by rw [hcv]; exact nrm_ok (HCok.out d s)
                                  have hxv : x.vals = Value.bool true :: cv := by rw [hxe, hcv]; rfl
                                  have hkx := Hd.vals_ok hxk
                                  rw [hxv] at hFX hkx
                                  obtain ⟨g2, c2, u2, he2, hgc, hgm, hg2l, hg2, gc, rfl, hgc1, hgcl, -, hgC⟩ := HW9.out.at_ (j := d) (by omega)
                                  cases he2
                                  obtain ⟨hc1, hc2⟩ := hgC.at_ hsN
                                  dsimp only at hc2
                                  rw [← hcv] at hc2
                                  have F41 : Hid (∀ w' : World, Below wq.heap.size wq w' → (hasRow w' ⟨gv, s * 56, none⟩ 56 = true ∧ rowOf w' ⟨gv, s * 56, none⟩ 56 = Value.bool true :: cv ∧ hasRow w' ⟨gf, s * 56, none⟩ 56 = true ∧ rowOf w' ⟨gf, s * 56, none⟩ 56 = Value.bool true :: cv ∧ w'.cell? ⟨gg, d, none⟩ = some (.slice (some ⟨gc, 0, none⟩) N N) ∧ hasRow w' ⟨gc, s * 55, none⟩ 55 = true ∧ rowOf w' ⟨gc, s * 55, none⟩ 55 = cv)) := Lib.hid fun w' hb => by
                                    have hb9 := HBC.out.trans ((HBR.out.trans (hb.mono hwqc)).mono hwc9)
                                    obtain ⟨p1, p2, p3, p4⟩ := hFX w' hb
                                    have v2 := row_below hb9 (p := ⟨gc, s * 55, none⟩) hgcl 55
                                    exact ⟨p1, p2, p3, p4, (hb9.cell (p := ⟨gg, d, none⟩) hg2l).trans hg2, v2.1.trans hc1, v2.2.trans hc2⟩
                                  have e2 : (t : Int) - 2 * (N : Int) = (d : Int) := by omega
                                  have w2N : IntKind.i64.wrap (2 * (N : Int)) = 2 * (N : Int) := IntWalk.i64_in _ (by omega)
                                  have wr3 : IntKind.i64.wrap (d : Int) = d := IntWalk.i64_in _ (by omega)
                                  have d1 : (d : Int) < (t : Int) + 1 := by omega
                                  have d0 : (0 : Int) ≤ d := by omega
                                  have hcl55 : cv.length = 55 := (okL_len hck).trans len_cellK
                                  have hcc1 := okL_cell1 hck
                                  clear hFX hxv hxk hx hqs hxe hc1 hc2 hgC hg2 hgc hgm hd hcv
                                  go_upto_region 41 with fail
                                  go_region_held3 (fun w' => hasRow w' ⟨gv, s * 56, none⟩ 56 = true ∧ rowOf w' ⟨gv, s * 56, none⟩ 56 = Value.bool true :: cv ∧ hasRow w' ⟨gf, s * 56, none⟩ 56 = true ∧ rowOf w' ⟨gf, s * 56, none⟩ 56 = Value.bool true :: cv ∧ w'.cell? ⟨gg, d, none⟩ = some (.slice (some ⟨gc, 0, none⟩) N N) ∧ hasRow w' ⟨gc, s * 55, none⟩ 55 = true ∧ rowOf w' ⟨gc, s * 55, none⟩ 55 = cv)
                                    (with_reducible (first | exact F41.out _ (Below.refl _ _).drew | exact F41.out _ H41.out))
                                    ((first | ((with_reducible refine (HBS.out _ (Below.refl _ _).drew).mono ?_); rintro e w41 ⟨rfl, hb41⟩; have H41 := Lib.hid ((Below.refl wq.heap.size wq).drew.trans hb41); clear hb41)))
                                  go_wp2_with fail
                                  exact ⟨⟨s + 1, by omega, by go_num, HBR.out.trans (H41.out.mono HBR.out.size)⟩, by simp [intOf]; omega⟩
                              · have hsN1 : ¬ (s : Int) < N := by omega
                                go_wp2_with fail
                                exact ⟨⟨i + 1, by omega, by go_num, HBC.out.trans (HBR.out.mono hwc9), .inr ⟨gf, rfl, HGF.out.1, HGF.out.2.below HBR.out HGF.out.2.lt⟩⟩, by simp [intOf]; omega⟩
                    · have hiN1 : ¬ (i : Int) < N := by omega
                      go_wp2_with fail
                      exact ⟨⟨t + 1, tag9, P9, _, _, _, by omega, by go_num, rfl, H9.out.below HBQ.out, HW9.out.below HBQ.out (fun _ _ => rfl), HK9.out.below HBQ.out HK9.out.lt, HT9.out⟩, by simp [intOf]; omega⟩
            · have hlt1 : ¬ (t : Int) < 3 * (N : Int) + 4 := by omega
              have hb9 := HST.out.bel
              have HB9 := Lib.hid hb9
              clear hb9
              go_wp2_with fail
              refine (lives15_any W0).mono ?_
              rintro e w9 ⟨rfl, hb9⟩
              have HE := Lib.hid (HB9.out.trans (hb9.mono HB9.out.size))
              clear hb9
              go_wp2_with fail
              go_ret
              exact ⟨rfl, HE.out⟩
end Go.Proofs.Ytbdklfcgcmdgaaa
