/-
  Nets (chapter 31): NetsVoid, walked.
-/
import Derived.Test.YtdilbjikeilhbaaGreatDoorGe49
namespace Go.Proofs.YtdilbjikeilhbaaGreatDoor
open Go.RowKit
set_option linter.unusedVariables false
set_option linter.unusedSimpArgs false
set_option maxRecDepth 100000

@[go_sem ↓] theorem al_net31 (ρ : Operand → Value) (d : Option Tmp) (ty : TypeId) (s : String) (af : Array Edge) (g : Option (Nat × Bool)) (w : World) : (execOp ρ { dst := d, op := .alloc 56, type := ty, pos := s, after := af, guard := g }).run Tryz.prog w = .ok (.value (.pointer (some ⟨w.heap.size, 0, none⟩))) (w.alloc (.cells netZ31.toArray 56)) := exec_alloc (by unfold zeroIs; kernel_rfl) ρ d ty s af g w
structure VbN (w : World) (x0 x1 : Int) (b1 b2 b3 : Nat) (wx : World) : Prop where
  hb : Below w.heap.size w wx
  a : Blk wx b1 48 #[.int .i64 x0, .int .i64 x1]
  net : Blk wx b2 56 netZ31.toArray
  ls : Blk wx b3 34 #[.pointer none, .pointer (some ⟨b2, 0, none⟩)]
theorem VbN.below {w : World} {x0 x1 : Int} {b1 b2 b3 : Nat} {wx w' : World} (h : VbN w x0 x1 b1 b2 b3 wx) (hb : Below wx.heap.size wx w') : VbN w x0 x1 b1 b2 b3 w' :=
  ⟨h.hb.trans (hb.mono h.hb.size), h.a.below hb h.a.lt, h.net.below hb h.net.lt, h.ls.below hb h.ls.lt⟩
theorem vbN_start (w : World) (x0 x1 : Int) : VbN w x0 x1 w.heap.size (w.heap.size + 1) (w.heap.size + 1 + 1)
    (((w.alloc (.cells #[Value.int .i64 x0, .int .i64 x1] 48)).alloc (.cells netZ31.toArray 56)).alloc (.cells #[Value.pointer none, .pointer (some ⟨w.heap.size + 1, 0, none⟩)] 34)) := by
  obtain ⟨w1, e1⟩ : ∃ w1, w1 = w.alloc (.cells #[Value.int .i64 x0, .int .i64 x1] 48) := ⟨_, rfl⟩
  have k1 : Blk w1 w.heap.size 48 #[.int .i64 x0, .int .i64 x1] := by rw [e1]; exact Blk.new _ _ _
  have s1 : w1.heap.size = w.heap.size + 1 := by rw [e1]; simp
  have f1 : Below w.heap.size w w1 := by rw [e1]; exact balN (Below.refl _ _) _
  rw [← e1]
  obtain ⟨w2, e2⟩ : ∃ w2, w2 = w1.alloc (.cells netZ31.toArray 56) := ⟨_, rfl⟩
  have k2 : Blk w2 w1.heap.size 56 netZ31.toArray := by rw [e2]; exact Blk.new _ _ _
  have s2 : w2.heap.size = w.heap.size + 1 + 1 := by rw [e2]; simp [s1]
  have f2 : Below w1.heap.size w1 w2 := by rw [e2]; exact balN (Below.refl _ _) _
  rw [← e2]
  have k3 := Blk.new w2 34 #[.pointer none, .pointer (some ⟨w.heap.size + 1, 0, none⟩)]
  have f3 := balN (Below.refl w2.heap.size w2) (.cells #[Value.pointer none, .pointer (some ⟨w.heap.size + 1, 0, none⟩)] 34)
  rw [s2] at k3
  rw [s1] at k2
  have g2 := f2.trans (f3.mono f2.size)
  exact ⟨f1.trans (g2.mono f1.size), k1.below g2 k1.lt, k2.below f3 k2.lt, k3⟩
theorem VbN.dn {w : World} {x0 x1 : Int} {b1 b2 b3 : Nat} {wx : World} (h : VbN w x0 x1 b1 b2 b3 wx) (k : Nat) (hk : k < 2) : ∃ lv, wx.cell? ⟨b3, k, none⟩ = some lv ∧ Dead31 wx lv := by
  rcases (show k = 0 ∨ k = 1 by omega) with rfl | rfl
  · exact ⟨_, h.ls.cell 0, .inl rfl⟩
  · exact ⟨_, h.ls.cell 1, .inr ⟨b2, rfl, h.net⟩⟩
set_option maxRecDepth 100000 in
set_option maxHeartbeats 4000000 in
theorem netsVoid_any (x0 x1 : Int) (hx0 : (Lit.int .i64 x0).wf = true) (on : Bool) (w : World) (hsg : SgW w) : Calls Tryz.prog 4 #[.agg #[.int .i64 x0, .int .i64 x1], .bool on] w fun e w' => e = .returned (.bool true) ∧ Below w.heap.size w w' := by
  have HL : Hid (∀ w', Below w.heap.size w w' → Calls Tryz.prog 6 #[] w' fun e w'' => e = .returned (.bool true) ∧ Below w'.heap.size w' w'') := Lib.hid fun w' hb => lives31_any w' (hsg.below hb)
  have HSg := Lib.hid hsg
  clear hsg
  go_enter Tryz.func4, Tryz.ntmps4
  go_upto_region 3 with fail
  have HV := Lib.hid (vbN_start w x0 x1)
  generalize ((w.alloc (.cells #[Value.int .i64 x0, .int .i64 x1] 48)).alloc (.cells netZ31.toArray 56)).alloc (.cells #[Value.pointer none, .pointer (some ⟨w.heap.size + 1, 0, none⟩)] 34) = w6 at HV ⊢
  generalize hb4 : w.heap.size + 1 + 1 = b3 at HV ⊢
  generalize hb5 : w.heap.size + 1 = b2 at HV ⊢
  obtain ⟨b1, hb6⟩ : ∃ b1, b1 = w.heap.size := ⟨_, rfl⟩
  have HV1 : Hid (VbN w x0 x1 b1 b2 b3 w6) := by rw [hb6]; exact HV
  rw [show (Value.pointer (some ⟨w.heap.size, 0, none⟩)) = .pointer (some ⟨b1, 0, none⟩) by rw [hb6]]
  clear HV hb4 hb5 hb6
  go_wp2_with fail
  go_loopw [7] (fun i wr => ∃ k : Nat, k ≤ 2 ∧ i = .int .i64 k ∧ VbN w x0 x1 b1 b2 b3 wr) (fun i _ => 2 - (intOf i).toNat)
  case atStart => exact ⟨0, by omega, rfl, HV1.out⟩
  case round =>
    obtain ⟨k, hk, rfl, hF⟩ := hrel
    have HF := Lib.hid hF
    clear hF
    by_cases hlt : k < 2
    · obtain ⟨lv, l0, dn⟩ := HF.out.dn k hlt
      have HC : Hid (∀ w', Below wr.heap.size wr w' → Dead31C w' lv x0 x1 on) := Lib.hid fun w' hb => (dn.below hb).calls x0 x1 on
      have L0 := Lib.hid l0
      have FB : Hid (∀ w', Below wr.heap.size wr w' → w'.cell? ⟨b3, k, none⟩ = some lv ∧ w'.cell? ⟨b1, 0, none⟩ = some (.int .i64 x0) ∧ w'.cell? ⟨b1, 1, none⟩ = some (.int .i64 x1)) := Lib.hid fun w' hb =>
        ⟨(hb.cell (p := ⟨b3, k, none⟩) (World.block_lt_of_cell? wr _ L0.out)).trans L0.out, (HF.out.a.below hb HF.out.a.lt).cell 0, (HF.out.a.below hb HF.out.a.lt).cell 1⟩
      have hlt' : (k : Int) < 2 := by omega
      have hk0 : (0 : Int) ≤ k := by omega
      obtain ⟨f1, f2, f3⟩ := FB.out wr (Below.refl _ _)
      clear l0 dn hk L0
      go_upto_region 6 with fail
      go_cut [8, 9] from 19 to 28 (fun s8 s9 wx => ∃ (w10 : World) (b8 : Nat), w10 = wx ∧ s8 = .pointer (some ⟨b8, 0, none⟩) ∧ s9 = .bool false ∧ Blk w10 b8 63 postZ.toArray ∧ Below wr.heap.size wr w10)
      case first =>
        go_region_held3 (fun w' => w'.cell? ⟨b3, k, none⟩ = some lv ∧ w'.cell? ⟨b1, 0, none⟩ = some (.int .i64 x0) ∧ w'.cell? ⟨b1, 1, none⟩ = some (.int .i64 x1))
          (((with_reducible refine FB.out _ ?_); repeat' (with_reducible first | exact HB10.out | exact Below.refl _ _ | refine Below.drew ?_ | refine balN ?_ _ | refine putN0 ?_ _)))
          ((first
            | (go_at_call 11; (with_reducible refine (HC.out wr.drew (Below.refl _ _).drew).last.mono ?_); rintro e w10 ⟨rfl, hb⟩; have HB10 : Hid (Below wr.heap.size wr w10) := Lib.hid ((Below.refl wr.heap.size wr).drew.trans hb); clear hb)
            | (go_at_call 11; (with_reducible refine (HC.out (wr.alloc (.cells postZ.toArray 63)).drew (balN (Below.refl _ _) _).drew).last.mono ?_); rintro e w10 ⟨rfl, hb⟩; have HB10 : Hid (Below wr.heap.size wr w10) := Lib.hid ((balN (Below.refl wr.heap.size wr) _).drew.trans (hb.mono (balN (Below.refl wr.heap.size wr) _).drew.size)); have HK10 := Lib.hid ((Blk.new wr 63 postZ.toArray).drew.below hb (ltND _ _)); obtain ⟨-, -, cp⟩ := HK10.out.whole (n := 2) rfl; clear hb)))
        all_goals go_wp2_with fail
        all_goals go_meet
        · exact ⟨_, _, rfl, rfl, rfl, Blk.new _ _ _, balN HB10.out _⟩
        · exact ⟨_, _, rfl, rfl, rfl, HK10.out.put_all rfl, putN0 HB10.out _⟩
      case rest =>
        obtain ⟨w10, b8, rfl, rfl, rfl, hk10, hb10⟩ := hcut
        have HK10 := Lib.hid hk10
        have HB10 := Lib.hid hb10
        clear hk10 hb10 f1 f2 f3
        have FC : Hid (∀ w', Below w10.heap.size w10 w' → w'.cell? ⟨b3, k, none⟩ = some lv ∧ w'.cell? ⟨b1, 0, none⟩ = some (.int .i64 x0) ∧ w'.cell? ⟨b1, 1, none⟩ = some (.int .i64 x1) ∧ w'.cell? ⟨b8, 0, none⟩ = some (.int .u8 0) ∧ w'.cell? ⟨b8, 1, none⟩ = some (.slice none 0 0)) := Lib.hid fun w' hb => by
          obtain ⟨g1, g2, g3⟩ := FB.out w' (HB10.out.trans (hb.mono HB10.out.size))
          exact ⟨g1, g2, g3, (HK10.out.below hb HK10.out.lt).cell 0, (HK10.out.below hb HK10.out.lt).cell 1⟩
        have HF10 := Lib.hid (HF.out.below HB10.out)
        have HC10 : Hid (∀ w', Below w10.heap.size w10 w' → Dead31C w' lv x0 x1 on) := Lib.hid fun w' hb => HC.out w' (HB10.out.trans (hb.mono HB10.out.size))
        clear HF FB HB10 HK10 HC
        obtain ⟨f1, f2, f3, f4, f5⟩ := FC.out w10 (Below.refl _ _)
        go_upto_region 7 with fail
        simp only [List.append_eq, List.cons_append, List.nil_append]
        go_region_held3 (fun w' => w'.cell? ⟨b3, k, none⟩ = some lv ∧ w'.cell? ⟨b1, 0, none⟩ = some (.int .i64 x0) ∧ w'.cell? ⟨b1, 1, none⟩ = some (.int .i64 x1) ∧ w'.cell? ⟨b8, 0, none⟩ = some (.int .u8 0) ∧ w'.cell? ⟨b8, 1, none⟩ = some (.slice none 0 0))
          (((with_reducible refine FC.out _ ?_); repeat' (with_reducible first | exact HB16.out | exact HB15.out | exact HB14.out | exact HB13.out | exact HB12.out | exact HB11.out | exact Below.refl _ _ | refine Below.drew ?_)))
          ((first
            | (go_at_call 17; (with_reducible refine (HC10.out w15 HB15.out).on_.mono ?_); rintro e w16 ⟨rfl, hb⟩; have HB16 : Hid (Below w10.heap.size w10 w16) := Lib.hid (HB15.out.trans (hb.mono HB15.out.size)); clear hb)
            | (go_at_call 16; (with_reducible refine (HC10.out w14 HB14.out).right.mono ?_); rintro e w15 ⟨rfl, hb⟩; have HB15 : Hid (Below w10.heap.size w10 w15) := Lib.hid (HB14.out.trans (hb.mono HB14.out.size)); clear hb)
            | (go_at_call 15; (with_reducible refine (HC10.out w13 HB13.out).node.mono ?_); rintro e w14 ⟨rfl, hb⟩; have HB14 : Hid (Below w10.heap.size w10 w14) := Lib.hid (HB13.out.trans (hb.mono HB13.out.size)); clear hb)
            | (go_at_call 14; (with_reducible refine (HC10.out w12 HB12.out).ticks.mono ?_); rintro e w13 ⟨rfl, hb⟩; have HB13 : Hid (Below w10.heap.size w10 w13) := Lib.hid (HB12.out.trans (hb.mono HB12.out.size)); clear hb)
            | (go_at_call 13; (with_reducible refine (HC10.out w11 HB11.out).run.mono ?_); rintro e w12 ⟨rfl, hb⟩; have HB12 : Hid (Below w10.heap.size w10 w12) := Lib.hid (HB11.out.trans (hb.mono HB11.out.size)); clear hb)
            | (go_at_call 12; (with_reducible refine (HC10.out w10.drew (Below.refl _ _).drew).power.mono ?_); rintro e w11 ⟨rfl, hb⟩; have HB11 : Hid (Below w10.heap.size w10 w11) := Lib.hid ((Below.refl w10.heap.size w10).drew.trans hb); clear hb)))
        go_wp2_with fail
        exact ⟨⟨k + 1, by omega, by go_num, HF10.out.below HB16.out⟩, by simp [intOf]; omega⟩
    · obtain rfl : k = 2 := by omega
      have HSm := Lib.hid (small31_new wr (HSg.out.below HF.out.hb))
      go_wp2_with fail
      (with_reducible refine HSm.out.mono ?_)
      rintro e w1 ⟨av, rfl, hal, hb1, hN⟩
      have HN := Lib.hid hN
      have HF1 := Lib.hid (HF.out.below hb1)
      clear hN hb1 HSm HF
      go_wp2_with fail
      (with_reducible refine HN.out.mono ?_)
      rintro e w2 ⟨A, A1, q, nb, mb, tm, lm, sv, rfl, hL⟩
      have HF2 := Lib.hid (HF1.out.below hL.bel)
      have HLv := Lib.hid hL
      have a0 : w2.cell? ⟨b1, 0, none⟩ = some (.int .i64 x0) := HF2.out.a.cell 0
      clear hL HN HF1
      by_cases hx : 0 ≤ x0 ∧ x0 < 4
      · obtain ⟨hx1, hx2⟩ := hx
        have HLi := Lib.hid (HL.out w2 HF2.out.hb)
        go_wp2_with fail
        (with_reducible refine HLi.out.mono ?_)
        rintro e w' ⟨rfl, hb⟩
        have HFIN := Lib.hid (HF2.out.hb.trans (hb.mono HF2.out.hb.size))
        clear hb
        go_wp2_with fail
        go_ret
        exact ⟨rfl, HFIN.out⟩
      · have HR : Hid (∀ w', Below w2.heap.size w2 w' → Real31C w' A.b x0 on) := Lib.hid fun w' hb => (HLv.out.below hb).calls x0 hx0 hx on
        have FB : Hid (∀ w', Below w2.heap.size w2 w' → w'.cell? ⟨b1, 0, none⟩ = some (.int .i64 x0)) := Lib.hid fun w' hb => (HF2.out.a.below hb HF2.out.a.lt).cell 0
        have hneg : x0 < 0 ∨ 4 ≤ x0 := by omega
        clear hx HLv
        rcases hneg with h0 | h0
        · have h1 : ¬ 0 ≤ x0 := by omega
          have HLa := Lib.hid (HR.out w2 (Below.refl _ _)).last
          go_wp2_with fail
          (with_reducible refine HLa.out.mono ?_)
          rintro e w3 ⟨rfl, hb⟩
          have HB3 := Lib.hid (balN hb (.cells postZ.toArray 63))
          clear hb HLa a0
          go_upto_region 13 with fail
          rw [show (#[Value.int IntKind.u8 0, Value.slice none 0 0] : Array Value) = postZ.toArray from rfl]
          generalize w3.alloc (.cells postZ.toArray 63) = w4 at HB3 ⊢
          have a4 := FB.out w4 HB3.out
          have HPw := Lib.hid (HR.out w4 HB3.out).power
          go_wp2_with fail
          (with_reducible refine HPw.out.mono ?_)
          rintro e w5 ⟨rfl, hb⟩
          have HB5 := Lib.hid (HB3.out.trans (hb.mono HB3.out.size))
          have a5 := FB.out w5 HB5.out
          clear hb HPw
          have HC5 := Lib.hid (HR.out w5 HB5.out).runM
          go_wp2_with fail
          (with_reducible refine HC5.out.mono ?_)
          rintro e w6 ⟨rfl, hb⟩
          have HB6 := Lib.hid (HB5.out.trans (hb.mono HB5.out.size))
          have a6 := FB.out w6 HB6.out
          clear hb HC5
          have HC6 := Lib.hid (HR.out w6 HB6.out).runG
          go_wp2_with fail
          (with_reducible refine HC6.out.mono ?_)
          rintro e w7 ⟨rfl, hb⟩
          have HB7 := Lib.hid (HB6.out.trans (hb.mono HB6.out.size))
          have a7 := FB.out w7 HB7.out
          clear hb HC6
          have HC7 := Lib.hid (HR.out w7 HB7.out).ticks
          go_wp2_with fail
          (with_reducible refine HC7.out.mono ?_)
          rintro e w8 ⟨rfl, hb⟩
          have HB8 := Lib.hid (HB7.out.trans (hb.mono HB7.out.size))
          have a8 := FB.out w8 HB8.out
          clear hb HC7
          have HC8 := Lib.hid (HR.out w8 HB8.out).node
          go_wp2_with fail
          (with_reducible refine HC8.out.mono ?_)
          rintro e w9 ⟨rfl, hb⟩
          have HB9 := Lib.hid (HB8.out.trans (hb.mono HB8.out.size))
          have a9 := FB.out w9 HB9.out
          clear hb HC8
          have HC9 := Lib.hid (HR.out w9 HB9.out).right
          go_wp2_with fail
          (with_reducible refine HC9.out.mono ?_)
          rintro e w10 ⟨rfl, hb⟩
          have HB10 := Lib.hid (HB9.out.trans (hb.mono HB9.out.size))
          have a10 := FB.out w10 HB10.out
          clear hb HC9
          have HC10 := Lib.hid (HR.out w10 HB10.out).on_
          go_wp2_with fail
          (with_reducible refine HC10.out.mono ?_)
          rintro e w11 ⟨rfl, hb⟩
          have HB11 := Lib.hid (HB10.out.trans (hb.mono HB10.out.size))
          have a11 := FB.out w11 HB11.out
          clear hb HC10
          have HLi := Lib.hid (HL.out w11 (HF2.out.hb.trans (HB11.out.mono HF2.out.hb.size)))
          go_wp2_with fail
          (with_reducible refine HLi.out.mono ?_)
          rintro e w' ⟨rfl, hb⟩
          have HFIN := Lib.hid (HF2.out.hb.trans ((HB11.out.trans (hb.mono HB11.out.size)).mono HF2.out.hb.size))
          clear hb
          go_wp2_with fail
          go_ret
          exact ⟨rfl, HFIN.out⟩
        · have h1 : 0 ≤ x0 := by omega
          have HLa := Lib.hid (HR.out w2 (Below.refl _ _)).last
          go_wp2_with fail
          (with_reducible refine HLa.out.mono ?_)
          rintro e w3 ⟨rfl, hb⟩
          have HB3 := Lib.hid (balN hb (.cells postZ.toArray 63))
          clear hb HLa a0
          go_upto_region 13 with fail
          rw [show (#[Value.int IntKind.u8 0, Value.slice none 0 0] : Array Value) = postZ.toArray from rfl]
          generalize w3.alloc (.cells postZ.toArray 63) = w4 at HB3 ⊢
          have a4 := FB.out w4 HB3.out
          have HPw := Lib.hid (HR.out w4 HB3.out).power
          go_wp2_with fail
          (with_reducible refine HPw.out.mono ?_)
          rintro e w5 ⟨rfl, hb⟩
          have HB5 := Lib.hid (HB3.out.trans (hb.mono HB3.out.size))
          have a5 := FB.out w5 HB5.out
          clear hb HPw
          have HC5 := Lib.hid (HR.out w5 HB5.out).runM
          go_wp2_with fail
          (with_reducible refine HC5.out.mono ?_)
          rintro e w6 ⟨rfl, hb⟩
          have HB6 := Lib.hid (HB5.out.trans (hb.mono HB5.out.size))
          have a6 := FB.out w6 HB6.out
          clear hb HC5
          have HC6 := Lib.hid (HR.out w6 HB6.out).runG
          go_wp2_with fail
          (with_reducible refine HC6.out.mono ?_)
          rintro e w7 ⟨rfl, hb⟩
          have HB7 := Lib.hid (HB6.out.trans (hb.mono HB6.out.size))
          have a7 := FB.out w7 HB7.out
          clear hb HC6
          have HC7 := Lib.hid (HR.out w7 HB7.out).ticks
          go_wp2_with fail
          (with_reducible refine HC7.out.mono ?_)
          rintro e w8 ⟨rfl, hb⟩
          have HB8 := Lib.hid (HB7.out.trans (hb.mono HB7.out.size))
          have a8 := FB.out w8 HB8.out
          clear hb HC7
          have HC8 := Lib.hid (HR.out w8 HB8.out).node
          go_wp2_with fail
          (with_reducible refine HC8.out.mono ?_)
          rintro e w9 ⟨rfl, hb⟩
          have HB9 := Lib.hid (HB8.out.trans (hb.mono HB8.out.size))
          have a9 := FB.out w9 HB9.out
          clear hb HC8
          have HC9 := Lib.hid (HR.out w9 HB9.out).right
          go_wp2_with fail
          (with_reducible refine HC9.out.mono ?_)
          rintro e w10 ⟨rfl, hb⟩
          have HB10 := Lib.hid (HB9.out.trans (hb.mono HB9.out.size))
          have a10 := FB.out w10 HB10.out
          clear hb HC9
          have HC10 := Lib.hid (HR.out w10 HB10.out).on_
          go_wp2_with fail
          (with_reducible refine HC10.out.mono ?_)
          rintro e w11 ⟨rfl, hb⟩
          have HB11 := Lib.hid (HB10.out.trans (hb.mono HB10.out.size))
          have a11 := FB.out w11 HB11.out
          clear hb HC10
          have HLi := Lib.hid (HL.out w11 (HF2.out.hb.trans (HB11.out.mono HF2.out.hb.size)))
          go_wp2_with fail
          (with_reducible refine HLi.out.mono ?_)
          rintro e w' ⟨rfl, hb⟩
          have HFIN := Lib.hid (HF2.out.hb.trans ((HB11.out.trans (hb.mono HB11.out.size)).mono HF2.out.hb.size))
          clear hb
          go_wp2_with fail
          go_ret
          exact ⟨rfl, HFIN.out⟩
end Go.Proofs.YtdilbjikeilhbaaGreatDoor
