/-
  CliquesPlay, walked.
-/
import Derived.Test.YtphbmnjkhgfnoaaClq7
namespace Go.Proofs.Ytphbmnjkhgfnoaa
open Go.RowKit

theorem cplay_long (n : Int) (a : Option Addr) (len cap : Nat) (w : World) (h : 120 < len) (hm : len ≤ maxLen) :
    Calls Try.prog 5 #[.int .i64 n, .slice a len cap] w (CPost w) := by
  unfold maxLen at hm
  go_enter Try.func5, Try.ntmps5
  go_wp2_with fail
  refine (clives_any _).mono ?_
  rintro e w' ⟨rfl, hl⟩
  have HL := Lib.hid hl
  clear hl
  go_wp2
  go_ret
  exact ⟨rfl, HL.out⟩

set_option maxRecDepth 100000 in
set_option maxHeartbeats 1000000 in
theorem cplay_ok (N : Nat) (h4 : 4 ≤ N) (h16 : N ≤ 16) (a : Option Addr) (len cap : Nat) (w : World) (h : len ≤ 120) (hrd : RdTick w a len) :
    Calls Try.prog 5 #[.int .i64 N, .slice a len cap] w (CPost w) := by
  have HR := Lib.hid hrd
  clear hrd
  go_enter Try.func5, Try.ntmps5
  go_wp2_with fail
  refine (cqnew_ok N _ (by omega) (by omega)).mono ?_
  rintro e w' ⟨rfl, rfl⟩
  go_wp2_with fail
  refine (rcqnew_ok N _ (by omega) (by omega)).mono ?_
  rintro e w' ⟨rfl, rfl⟩
  have hst : PlayC w w.heap.size (w.heap.size + 1) N [] ((w.alloc (.cells (cqCells 0 (2 * N) N) 83)).alloc (.cells #[.int .i64 N, .slice none 0 0] 132)) := by
    have e1 : (w.alloc (.cells (cqCells 0 (2 * N) N) 83)).heap.size = w.heap.size + 1 := by simp
    have hB : Below w.heap.size w ((w.alloc (.cells (cqCells 0 (2 * N) N) 83)).alloc (.cells #[.int .i64 N, .slice none 0 0] 132)) := ((Below.refl _ _).alloc (Nat.le_refl _) _).alloc (by simp) _
    refine ⟨Nat.le_refl _, by omega, ?_, ⟨.slice none 0 0, ?_, ?_⟩, hB⟩
    · have : ((min (runT []) (2 * N) : Nat) : Int) = 0 := by simp [runT]
      rw [this]
      exact (Blk.new _ _ _).alloc _
    · rw [← e1]; exact Blk.new _ _ _
    · exact World.ownsRow_nil _ _ _ _
  have HS := Lib.hid hst
  clear hst
  go_wp2_with fail
  go_loopw [9] (fun i wr => ∃ (k : Nat) (bs : List Bool), k ≤ len ∧ i = .int .i64 k ∧ bs.length = k ∧ PlayC w w.heap.size (w.heap.size + 1) N bs wr) (fun i _ => len - (intOf i).toNat)
  case atStart => exact ⟨0, [], by omega, rfl, rfl, HS.out⟩
  case round =>
    obtain ⟨k, bs, hk, rfl, hbk, hr⟩ := hrel
    by_cases hlt : k < len
    · obtain ⟨b, off, x, m, cp, c, l, rfl, hbw, hc1, hc2, hrl, hmc, hcm⟩ := HR.out k hlt
      have hB := hr.2.2.2.2
      have d1 : wr.cell? ⟨b, off + k * 2, none⟩ = some (.slice x m cp) := (hB.cell (p := ⟨b, off + k * 2, none⟩) hbw).trans hc1
      have d2 : wr.cell? ⟨b, off + k * 2 + 1, none⟩ = some (.int .i64 c) := (hB.cell (p := ⟨b, off + k * 2 + 1, none⟩) hbw).trans hc2
      have hrl1 : RdHs (· < w.heap.size) wr x m l := hrl.below hB (fun _ h _ => h)
      have hB' := hB.size
      have HH := Lib.hid (And.intro hr (And.intro hB (And.intro hrl1 (And.intro hc1 hc2))))
      have HBK := Lib.hid hbk
      clear hc1 hc2 hrl hr hB hrl1 hbk
      by_cases hbig : 40 < m
      · unfold maxLen at hcm
        go_wp2_with fail
        refine (clives_any _).mono ?_
        rintro e w' ⟨rfl, hl⟩
        have HL := Lib.hid hl
        clear hl
        go_wp2
        go_ret
        exact ⟨rfl, HH.out.2.1.trans (HL.out.mono hB')⟩
      · go_wp2_with fail
        refine (others_any _ x m cp l _ HH.out.2.2.1 (by omega)).mono ?_
        rintro e w1 ⟨x', cp', rfl, hx', hl1, hl2, hb1⟩
        have hml : l.length = m := HH.out.2.2.1.1
        rw [hml] at hx' ⊢
        have hp1 : PlayC w w.heap.size (w.heap.size + 1) N bs w1 := by
          obtain ⟨p1, p2, p3, ⟨v, p4⟩, p5⟩ := HH.out.1
          refine ⟨p1, p2, p3.below hb1 p3.lt, ⟨v, p4.1.below hb1 p4.1.lt, own_block p4.2 (fun q hq => hb1.block q (p4.2.lt q hq).2)⟩, p5.trans (hb1.mono p5.size)⟩
        have hB1 := hp1.2.2.2.2
        have f1 : w1.cell? ⟨b, off + k * 2, none⟩ = some (.slice x m cp) := (hB1.cell (p := ⟨b, off + k * 2, none⟩) hbw).trans HH.out.2.2.2.1
        have f2 : w1.cell? ⟨b, off + k * 2 + 1, none⟩ = some (.int .i64 c) := (hB1.cell (p := ⟨b, off + k * 2 + 1, none⟩) hbw).trans HH.out.2.2.2.2
        have hsz1 := hb1.size
        have hx1 : RdHs (· < w.heap.size) w1 x m l := HH.out.2.2.1.below hb1 (fun _ h _ => by omega)
        have he : Calls Try.prog 30 #[.int .i64 N, .slice x m cp, .int .i64 c] w1.drew fun e w2 => e = .returned (.bool (evenF N l c)) ∧ Below w1.heap.size w1 w2 := by
          refine (even_all (· < w.heap.size) N c x m cp l w1.drew ⟨hx1.1, hx1.2.1, hx1.2.2⟩ hmc hcm).mono ?_
          rintro e w' ⟨rfl, hb⟩
          exact ⟨rfl, (Below.refl _ _).drew.trans hb⟩
        have hre : ∀ w2 : World, Below w1.heap.size w1 w2 → Calls Try.prog 31 #[.int .i64 N, .slice x' m cp', .int .i64 c] w2 fun e w3 => e = .returned (.bool (evenF N l c)) ∧ w2 = w3 :=
          fun w2 hb => reven_any _ N c x' m cp' l w2 (by omega) (by omega) (hx'.below hb (fun _ _ h => h)) (by omega)
        have HE := Lib.hid he
        have HRE := Lib.hid hre
        have HP := Lib.hid hp1
        have HX1 := Lib.hid hx1
        have HX' := Lib.hid hx'
        have hbw1 : b < w1.heap.size := by omega
        clear he hre hp1 hx1 hx' d1 d2 hb1
        obtain ⟨ev, hev⟩ : ∃ ev, ev = evenF N l c := ⟨_, rfl⟩
        have HEV := Lib.hid hev
        rw [← hev] at HE HRE
        clear hev
        go_wp2_with fail
        go_region_held3 (fun w' => w'.cell? ⟨b, off + k * 2, none⟩ = some (.slice x m cp) ∧ w'.cell? ⟨b, off + k * 2 + 1, none⟩ = some (.int .i64 c))
          (first
            | (simp [*]; done)
            | exact ⟨(HB2.out.cell (p := ⟨b, off + k * 2, none⟩) hbw1).trans f1, (HB2.out.cell (p := ⟨b, off + k * 2 + 1, none⟩) hbw1).trans f2⟩)
          ((first
            | (go_at_call 30; refine HE.out.mono ?_; rintro e w2 ⟨rfl, hb2⟩; have HB2 := Lib.hid hb2; clear hb2)
            | (go_at_call 31; refine (HRE.out _ HB2.out).mono ?_; rintro e w3 ⟨rfl, rfl⟩)))
        have hp2 : PlayC w w.heap.size (w.heap.size + 1) N bs w2 := by
          obtain ⟨p1, p2, p3, ⟨v, p4⟩, p5⟩ := HP.out
          exact ⟨p1, p2, p3.below HB2.out p3.lt, ⟨v, p4.1.below HB2.out p4.1.lt, own_block p4.2 (fun q hq => HB2.out.block q (p4.2.lt q hq).2)⟩, p5.trans (HB2.out.mono p5.size)⟩
        have hsz2 := HB2.out.size
        have g1 : w2.cell? ⟨b, off + k * 2, none⟩ = some (.slice x m cp) := (HB2.out.cell (p := ⟨b, off + k * 2, none⟩) hbw1).trans f1
        have g2 : w2.cell? ⟨b, off + k * 2 + 1, none⟩ = some (.int .i64 c) := (HB2.out.cell (p := ⟨b, off + k * 2 + 1, none⟩) hbw1).trans f2
        have hbs : bs.length ≤ 1000 := by rw [HBK.out]; omega
        have hd : PlayC w w.heap.size (w.heap.size + 1) N bs w2.drew := by
          obtain ⟨p1, p2, p3, ⟨v, p4⟩, p5⟩ := hp2
          exact ⟨p1, p2, p3, ⟨v, p4.1, p4.2⟩, p5.drew⟩
        have hst := cplay_step w _ _ N h4 h16 bs hbs x m cp c l w2.drew hd (HX1.out.below HB2.out.drew (fun _ h _ => by omega)) hmc hcm
        have hq : ∀ w3 : World, Below w.heap.size w w3 → w3.cell? ⟨b, off + k * 2, none⟩ = some (.slice x m cp) ∧ w3.cell? ⟨b, off + k * 2 + 1, none⟩ = some (.int .i64 c) :=
          fun w3 hb3 => ⟨(hb3.cell (p := ⟨b, off + k * 2, none⟩) hbw).trans HH.out.2.2.2.1, (hb3.cell (p := ⟨b, off + k * 2 + 1, none⟩) hbw).trans HH.out.2.2.2.2⟩
        rw [← HEV.out] at hst
        generalize hae : allEven (2 * N) (bs ++ [ev]) = ae at hst
        have HST := Lib.hid hst
        have HQ := Lib.hid hq
        have hgl : w.heap.size < wr.heap.size := HH.out.1.2.2.1.lt
        have HX2 : Hid (∀ w3 : World, Chg (· = w.heap.size) w2.drew w3 → RdHs (wr.heap.size ≤ ·) w3 x' m l) := Lib.hid (fun w3 hc => (HX'.out.below HB2.out.drew (fun _ _ h => h)).chg hc (fun b _ h1 h2 => by omega))
        clear hst hq hp2 hd hae f1 f2 hbs
        go_wp2_with fail
        go_region_held3 (fun w' => w'.cell? ⟨b, off + k * 2, none⟩ = some (.slice x m cp) ∧ w'.cell? ⟨b, off + k * 2 + 1, none⟩ = some (.int .i64 c))
          (first
            | (simp [*]; done)
            | exact HQ.out _ HB3.out.1
            | exact HQ.out _ HB4.out.2.2.2.2)
          ((first
            | (go_at_call 32; refine HST.out.mono ?_; rintro e w3 ⟨rfl, hb3⟩; have HB3 := Lib.hid hb3; clear hb3)
            | (go_at_call 33; refine (HB3.out.2.2 x' cp' (wr.heap.size ≤ ·) (by omega) (HX2.out _ HB3.out.2.1)).mono ?_; rintro e w4 ⟨rfl, hb4⟩; have HB4 := Lib.hid hb4; clear hb4)))
        go_wp2
        exact ⟨⟨k + 1, bs ++ [ev], by omega, by go_num, by rw [List.length_append, HBK.out]; rfl, HB4.out⟩, by simp [intOf]; omega⟩
    · have : k = len := by omega
      subst this
      have hB := hr.2.2.2.2
      have HB := Lib.hid hB
      clear hr hB
      go_wp2_with fail
      refine (clives_any _).mono ?_
      rintro e w' ⟨rfl, hl⟩
      have HL := Lib.hid hl
      clear hl
      go_wp2
      go_ret
      exact ⟨rfl, HB.out.trans (HL.out.mono HB.out.size)⟩
end Go.Proofs.Ytphbmnjkhgfnoaa
