/-
  sennitref15.Agree, walked.
-/
import Derived.Test.YtphbmnjkhgfnoaaAgr7
import Derived.Deep.QuietTactic
import Derived.BigQuiet
namespace Go.Proofs.Ytphbmnjkhgfnoaa
open Go.RowKit
set_option linter.unusedVariables false
set_option linter.unusedSimpArgs false

set_option maxRecDepth 100000 in
set_option maxHeartbeats 8000000 in
theorem ragree_any (S : Nat → Prop) (n : Int) (a : Option Addr) (len cap : Nat) (l : List Rw) (w : World) (hrd : RdRs S w a len l) (hm1 : len ≤ cap) (hm2 : cap ≤ maxLen) :
    Calls Try.prog 22 #[.int .i64 n, .slice a len cap] w (RVecPost (agreeL n l) w) := by
  have hll : l.length = len := hrd.1
  by_cases hr : 4 ≤ n ∧ n ≤ 16
  · obtain ⟨N, rfl⟩ : ∃ N : Nat, n = N := ⟨n.toNat, by omega⟩
    have hA : agreeL N l = (List.range N).map (fun s => mostH N s l (min N l.length)) := by
      unfold agreeL
      rw [if_pos hr]; simp
    have hAo := agreeL_ok (n := N) (l := l)
    generalize agreeL N l = L at hA hAo ⊢
    have hLl : N = L.length := by rw [hA]; simp
    have hat : ∀ k, k < N → L[k]? = some (mostH N k l (min N l.length)) := fun k hk => by rw [hA]; simp [hk]
    have hN4 : 4 ≤ N := by omega
    have hN16 : N ≤ 16 := by omega
    have hb1 : ¬ (N : Int) < 4 := by omega
    have hb2 : ¬ 16 < (N : Int) := by omega
    have HH := Lib.hid (And.intro hrd (And.intro hAo (And.intro hLl hat)))
    clear hrd hA hAo hLl hat hr
    go_enter Try.func22, Try.ntmps22
    go_upto_region 5 with fail
    go_loopw [5, 6] (fun v i wr => ∃ s : Nat, s ≤ N ∧ i = .int .i64 s ∧ OV w L s v wr) (fun _ i _ => N - (intOf i).toNat)
    case atStart => exact ⟨0, by omega, rfl, OV.start _ _⟩
    case round =>
      obtain ⟨s, hs, rfl, hro⟩ := hrel
      by_cases hlt : s < N
      · obtain ⟨wo, hwo⟩ : ∃ wo, wo = wr := ⟨_, rfl⟩
        subst hwo
        have HO := Lib.hid hro
        clear hro
        go_upto_region 9 with fail
        have hB7 : Below wo.heap.size wo (wo.alloc (.cells heldZ.toArray 127)) := (Below.refl _ _).alloc (Nat.le_refl _) _
        have hb7 : Blk (wo.alloc (.cells heldZ.toArray 127)) wo.heap.size 127 heldZ.toArray := Blk.new _ _ _
        generalize wo.alloc (.cells heldZ.toArray 127) = w7 at hB7 hb7 ⊢
        have hst : MG wo.heap.size w7 N s l 0 w7 := ⟨⟨hd0, hb7, FP.start _ _ _ _⟩, Below.refl _ _⟩
        have H7 := Lib.hid (And.intro hB7 hst)
        clear hB7 hb7 hst
        go_loopw [8] (fun i wr => ∃ k : Nat, k ≤ N ∧ i = .int .i64 k ∧ MG wo.heap.size w7 N s l k wr) (fun i _ => N - (intOf i).toNat)
        case atStart => exact ⟨0, by omega, rfl, H7.out.2⟩
        case round =>
          obtain ⟨k, hk, rfl, hrm⟩ := hrel
          by_cases hltk : k < N
          · obtain ⟨wm, hwm⟩ : ∃ wm, wm = wr := ⟨_, rfl⟩
            subst hwm
            obtain ⟨x, hx⟩ : ∃ x, x = hasH l k s := ⟨_, rfl⟩
            have hxo : x.ok := by rw [hx]; exact hasH_ok HH.out.1.2.1 k s
            have hxl := Hd.vals_len hxo
            have hxc := Hd.cell1 hxo
            have hBm : Below w.heap.size w wm := HO.out.bel.trans ((H7.out.1.trans hrm.bel).mono HO.out.bel.size)
            have hcall := rhas_any S k s (by omega) (by omega) a len cap l wm (HH.out.1.below hBm (fun _ _ h => h)) hm1 hm2
            rw [← hx] at hcall
            have hxC : hasC l k s = if x.is then some x.c else none := by rw [hasC_hasH, ← hx]
            have HC := Lib.hid hcall
            have HM := Lib.hid (And.intro hrm (And.intro hxC (And.intro hxo hBm)))
            clear hcall hxC hxo hrm hBm hx
            go_wp2_with fail
            refine HC.out.mono ?_
            rintro e w4 ⟨rfl, hb4⟩
            go_upto_region 12 with fail
            have hB5 : Below wm.heap.size wm (w4.alloc (.cells x.vals.toArray 127)) := hb4.alloc hb4.size _
            have hb9 : Blk (w4.alloc (.cells x.vals.toArray 127)) w4.heap.size 127 x.vals.toArray := Blk.new _ _ _
            have hg9 : wm.heap.size ≤ w4.heap.size := hb4.size
            generalize w4.alloc (.cells x.vals.toArray 127) = w5 at hB5 hb9 ⊢
            obtain ⟨g, hg⟩ : ∃ g, g = w4.heap.size := ⟨_, rfl⟩
            rw [← hg] at hb9 hg9 ⊢
            obtain ⟨is, c⟩ := x
            have f0 : w5.cell? ⟨g, 0, none⟩ = some (.bool is) := by rw [hb9.cell]; rfl
            have HB := Lib.hid (And.intro hB5 (And.intro hb9 hg9))
            clear hB5 hb9 hg9 hb4 HC hg
            by_cases hks : k = s
            · subst hks
              have hksb : (k : Int) = (k : Int) := rfl
              go_wp2_with fail
              exact ⟨⟨k + 1, by omega, by go_num, HM.out.1.skip HB.out.1 (.inl rfl)⟩, by simp [intOf]; omega⟩
            · have hksb : ((k : Int) == (s : Int)) = false := by simp; omega
              cases is with
              | false =>
                go_wp2_with fail
                exact ⟨⟨k + 1, by omega, by go_num, HM.out.1.skip HB.out.1 (.inr (by rw [HM.out.2.1]; rfl))⟩, by simp [intOf]; omega⟩
              | true =>
                go_upto_region 15 with fail
                obtain ⟨X, hX⟩ : ∃ X, X = Hd.vals ⟨true, c⟩ := ⟨_, rfl⟩
                rw [← hX] at hxl hxc ⊢
                have hXo : okL heldK X = true := by rw [hX]; exact HM.out.2.2.1
                have HX := Lib.hid hX
                clear hX
                go_loopw [10, 11] (fun m j wi => ∃ q : Nat, q ≤ N ∧ j = .int .i64 q ∧ m = .int .i64 (cntL s l q c : Nat) ∧ Below w5.heap.size w5 wi) (fun _ j _ => N - (intOf j).toNat)
                case atStart => exact ⟨0, by omega, rfl, rfl, Below.refl _ _⟩
                case round =>
                  obtain ⟨q, hq, rfl, rfl, hBi⟩ := hrel
                  have hcq := cntL_le s l c q
                  have hr9 := row_below hBi (p := ⟨g, 0, none⟩) HB.out.2.1.lt 56
                  obtain ⟨z1, z2, -⟩ := HB.out.2.1.whole (n := 56) (by rw [← HX.out]; exact hxl)
                  have z3 := hr9.1.trans z1
                  have z4 := hr9.2.trans z2
                  rw [← HX.out] at z4
                  clear hr9 z1 z2
                  by_cases hltq : q < N
                  · obtain ⟨cn, hcn⟩ : ∃ cn, cn = cntL s l q c := ⟨_, rfl⟩
                    rw [← hcn] at hcq ⊢
                    by_cases hqs : q = s
                    · subst hqs
                      have e1 : cntL q l (q + 1) c = cn := by
                        rw [hcn]
                        show cntL q l q c + _ = _
                        rw [if_neg (fun h => h.1 rfl)]; rfl
                      have HI := Lib.hid (And.intro hBi (And.intro hcn e1))
                      clear hBi hcn e1
                      go_upto_region 17 with fail
                      go_quiet (fail)
                      go_wp2_with fail
                      exact ⟨⟨q + 1, by omega, by go_num, by rw [HI.out.2.2], ⟨HI.out.1.os, HI.out.1.tape, HI.out.1.output, HI.out.1.size, HI.out.1.block⟩⟩, by simp [intOf]; omega⟩
                    · have hqsb : ((q : Int) != (s : Int)) = true := by simp; omega
                      obtain ⟨y, hy⟩ : ∃ y, y = hasH l q s := ⟨_, rfl⟩
                      have hyo : y.ok := by rw [hy]; exact hasH_ok HH.out.1.2.1 q s
                      have hyC : hasC l q s = if y.is then some y.c else none := by rw [hasC_hasH, ← hy]
                      have hBw : ∀ w', Below wr.heap.size wr w' → RdRs S w' a len l := fun w' hw' => (HH.out.1.below (HM.out.2.2.2.trans ((HB.out.1.trans (hBi.mono HB.out.1.size)).mono HM.out.2.2.2.size)) (fun _ _ h => h)).below (hw'.mono (Nat.le_refl _)) (fun _ h1 h => h)
                      have hcall : ∀ w', Below wr.heap.size wr w' → Calls Try.prog 57 #[.slice a len cap, .int .i64 q, .int .i64 s] w' fun e w'' => e = .returned (.agg y.vals.toArray) ∧ Below w'.heap.size w' w'' := fun w' hw' => by
                        have := rhas_any S q s (by omega) (by omega) a len cap l w' (hBw w' hw') hm1 hm2
                        rw [← hy] at this; exact this
                      obtain ⟨Y, hY⟩ : ∃ Y, Y = Hd.vals y := ⟨_, rfl⟩
                      rw [← hY] at hcall
                      have hYo : okL heldK Y = true := by rw [hY]; exact Hd.vals_ok hyo
                      have hF : ∀ w', Below wr.heap.size wr w' → hasRow w' ⟨g, 0, none⟩ 56 = true ∧ rowOf w' ⟨g, 0, none⟩ 56 = X := fun w' hw' => by
                        have := row_below hw' (p := ⟨g, 0, none⟩) (by have := HB.out.2.1.lt; have := hBi.size; show g < _; omega) 56
                        exact ⟨this.1.trans z3, this.2.trans z4⟩
                      have hgl : g < wr.heap.size := by have := HB.out.2.1.lt; have := hBi.size; omega
                      by_cases hXY : Y = X
                      · subst hXY
                        have hyx : y = ⟨true, c⟩ := Hd.vals_inj.1 (by rw [← hY, HX.out])
                        have e1 : cntL s l (q + 1) c = cn + 1 := by
                          rw [hcn]
                          show cntL s l q c + _ = _
                          rw [if_pos ⟨hqs, by rw [hyC, hyx]; rfl⟩]
                        have HI := Lib.hid (And.intro hBi (And.intro hcn e1))
                        have HC := Lib.hid hcall
                        have HF := Lib.hid hF
                        clear hBi hcn e1 hcall hF hyC hyo hBw hY hy hyx
                        go_upto_region 17 with fail
                        go_region_held3 (fun w' => hasRow w' ⟨g, 0, none⟩ 56 = true ∧ rowOf w' ⟨g, 0, none⟩ 56 = Y)
                          (first | exact HF.out _ H1.out | exact HF.out _ (Below.refl _ _).drew)
                          ((first
                            | (go_at_call 57; refine (HC.out _ (Below.refl _ _).drew).mono ?_; rintro e u1 ⟨rfl, hu1⟩; have H1 := Lib.hid ((Below.refl wr.heap.size wr).drew.trans hu1); clear hu1)))
                        have HF1 := HF.out _ H1.out
                        go_wp2_with fail
                        exact ⟨⟨q + 1, by omega, by go_num, by rw [HI.out.2.2]; simp, HI.out.1.trans (H1.out.mono HI.out.1.size)⟩, by simp [intOf]; omega⟩
                      · have e1 : cntL s l (q + 1) c = cn := by
                          rw [hcn]
                          show cntL s l q c + _ = _
                          rw [if_neg (fun h => hXY ?_)]
                          · rfl
                          · have h2 := h.2
                            rw [hyC] at h2
                            obtain ⟨yi, yc⟩ := y
                            cases yi with
                            | false => cases h2
                            | true =>
                              have : yc = c := by simpa using h2
                              rw [hY, this, HX.out]
                        have HI := Lib.hid (And.intro hBi (And.intro hcn e1))
                        have HC := Lib.hid hcall
                        have HF := Lib.hid hF
                        clear hBi hcn e1 hcall hF hyC hyo hBw hY hy
                        go_upto_region 17 with fail
                        go_region_held3 (fun w' => hasRow w' ⟨g, 0, none⟩ 56 = true ∧ rowOf w' ⟨g, 0, none⟩ 56 = X)
                          (first | exact HF.out _ H1.out | exact HF.out _ (Below.refl _ _).drew)
                          ((first
                            | (go_at_call 57; refine (HC.out _ (Below.refl _ _).drew).mono ?_; rintro e u1 ⟨rfl, hu1⟩; have H1 := Lib.hid ((Below.refl wr.heap.size wr).drew.trans hu1); clear hu1)))
                        go_wp2_with fail
                        exact ⟨⟨q + 1, by omega, by go_num, by rw [HI.out.2.2], HI.out.1.trans (H1.out.mono HI.out.1.size)⟩, by simp [intOf]; omega⟩
                  · have hqN : q = N := by omega
                    subst hqN
                    obtain ⟨cn, hcn⟩ : ∃ cn, cn = cntL s l q c := ⟨_, rfl⟩
                    rw [← hcn] at hcq ⊢
                    have HI := Lib.hid (And.intro hBi hcn)
                    have hBx := HB.out.1.trans (hBi.mono HB.out.1.size)
                    by_cases hbig : (q : Int) - 1 < 2 * (cn : Int)
                    · have hbigb : decide ((q : Int) - 1 < 2 * (cn : Int)) = true := by simpa using hbig
                      obtain ⟨p1, p2⟩ := HM.out.1.more hBx (c := c) HM.out.2.2.1 (by rw [← hcn]; omega)
                      rw [← HX.out] at p2
                      have HP := Lib.hid p2
                      clear p2 hBi hBx hcn
                      go_wp2_with fail
                      exact ⟨⟨k + 1, by omega, by go_num, HP.out⟩, by simp [intOf]; omega⟩
                    · have hbigb : decide ((q : Int) - 1 < 2 * (cn : Int)) = false := by simpa using hbig
                      have HP := Lib.hid (HM.out.1.less hBx (by rw [HM.out.2.1]; rfl) (by rw [← hcn]; omega))
                      clear hBi hBx hcn
                      go_wp2_with fail
                      exact ⟨⟨k + 1, by omega, by go_num, HP.out⟩, by simp [intOf]; omega⟩
          · have hkN : k = N := by omega
            subst hkN
            obtain ⟨⟨h, hb, hf⟩, hBm⟩ := hrm
            have hhe := hf.done hlt
            have hho := hf.ok
            have hhl := Hd.vals_len hho
            have hhc := Hd.cell1 hho
            obtain ⟨p1, p2, -⟩ := hb.whole (n := 56) hhl
            have hBo : Below wo.heap.size wo wr := H7.out.1.trans hBm
            have hown : wr.ownsRow w.heap.size 127 56 u5 s ((L.take s).flatMap Hd.vals) := own_block HO.out.own (fun q hq => hBo.block q (HO.out.own.lt q hq).2)
            have hbs := HO.out.bel.size
            have hos := hBo.size
            have HN := Lib.hid (And.intro hown (And.intro hBo (show L[s]? = some h by rw [hhe]; exact HH.out.2.2.2 s hlt)))
            clear hb hf hBm hhe hho hown hBo
            go_wp2_with (at_builtin; refine wpList_app app_rheld (by rfl) (.tmp 65) (.tmp 67) (by rfl) w.heap.size _ _ _ (by rfl) (HN.out.1.alloc _) ⟨wr.heap.size, 0, none⟩ 1 1 h.vals (by rfl) (by simp [hhl]) (hasRow_new wr _ _ 0 56 (by simp [hhl])) ((rowOf_new wr _ _ 0 56 (by simp [hhl])).trans (List.take_of_length_le (by simp [hhl]))) hhc (by omega) (by simp; omega) ?_; intro v' w8 hown1 hgrow; have H8 := Lib.hid (And.intro hown1 hgrow); clear hown1 hgrow)
            exact ⟨⟨s + 1, by omega, by go_num, OV.step HO.out (HN.out.2.1.alloc HN.out.2.1.size _) H8.out.2 HN.out.2.2 H8.out.1⟩, by simp [intOf]; omega⟩
      · have hkN : s = N := by omega
        subst hkN
        have H := Lib.hid hro
        clear hro
        go_wp2_with fail
        go_ret
        have h1 := H.out
        rw [HH.out.2.2.1] at h1
        exact h1.post HH.out.2.1
  · have hA : agreeL n l = [] := by unfold agreeL; rw [if_neg hr]
    rw [hA]
    have HF := Lib.hid (show RVecPost [] w (.returned (.slice none 0 0)) w from ⟨⟨_, _, rfl, ⟨rfl, by simp, by simp⟩⟩, Below.refl _ _⟩)
    by_cases h4 : n < 4
    · go_enter Try.func22, Try.ntmps22
      go_wp2
      go_ret
      exact HF.out
    · have h16 : 16 < n := by omega
      go_enter Try.func22, Try.ntmps22
      go_wp2
      go_ret
      exact HF.out
end Go.Proofs.Ytphbmnjkhgfnoaa
