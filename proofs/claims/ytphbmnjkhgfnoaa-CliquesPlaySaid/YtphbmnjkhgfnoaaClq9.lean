/-
  CliquesPlay where there is no clique; all of it.
-/
import Derived.Test.YtphbmnjkhgfnoaaClq8
namespace Go.Proofs.Ytphbmnjkhgfnoaa
open Go.RowKit

theorem bdN {B : Nat} {a w : World} (h : Below B a w) (n : Nat) : Below B a (w.drewN n) := ⟨h.os, h.tape, h.output, h.size, h.block⟩

set_option maxRecDepth 100000 in
set_option maxHeartbeats 1000000 in
theorem cplay_bad (n : Int) (hn : n < 4 ∨ 16 < n) (hn0 : -9223372036854775808 ≤ n) (hn1 : n ≤ 9223372036854775807) (a : Option Addr) (len cap : Nat) (w : World) (h : len ≤ 120) (hrd : RdTick w a len) :
    Calls Try.prog 5 #[.int .i64 n, .slice a len cap] w (CPost w) := by
  have HR := Lib.hid hrd
  clear hrd
  have HN := Lib.hid hn
  clear hn
  go_enter Try.func5, Try.ntmps5
  go_wp2_with fail
  refine (cqnew_bad n _ HN.out).mono ?_
  rintro e w' ⟨rfl, rfl⟩
  go_wp2_with fail
  refine (rcqnew_bad n _ HN.out).mono ?_
  rintro e w' ⟨rfl, rfl⟩
  have HS := Lib.hid (Below.refl w'.heap.size w')
  go_wp2_with fail
  go_loopw [9] (fun i wr => ∃ (k : Nat), k ≤ len ∧ i = .int .i64 k ∧ Below w'.heap.size w' wr) (fun i _ => len - (intOf i).toNat)
  case atStart => exact ⟨0, by omega, rfl, HS.out⟩
  case round =>
    obtain ⟨k, hk, rfl, hB⟩ := hrel
    by_cases hlt : k < len
    · obtain ⟨b, off, x, m, cp, c, l, rfl, hbw, hc1, hc2, hrl, hmc, hcm⟩ := HR.out k hlt
      have d1 : wr.cell? ⟨b, off + k * 2, none⟩ = some (.slice x m cp) := (hB.cell (p := ⟨b, off + k * 2, none⟩) hbw).trans hc1
      have d2 : wr.cell? ⟨b, off + k * 2 + 1, none⟩ = some (.int .i64 c) := (hB.cell (p := ⟨b, off + k * 2 + 1, none⟩) hbw).trans hc2
      have hrl1 : RdHs (· < w'.heap.size) wr x m l := hrl.below hB (fun _ h _ => h)
      have hB' := hB.size
      have HH := Lib.hid (And.intro hB (And.intro hrl1 (And.intro hc1 hc2)))
      clear hc1 hc2 hrl hB hrl1
      by_cases hbig : 40 < m
      · unfold maxLen at hcm
        go_wp2_with fail
        refine (clives_any _).mono ?_
        rintro e w2 ⟨rfl, hl⟩
        have HL := Lib.hid hl
        clear hl
        go_wp2
        go_ret
        exact ⟨rfl, HH.out.1.trans (HL.out.mono hB')⟩
      · go_wp2_with fail
        refine (others_any _ x m cp l _ HH.out.2.1 (by omega)).mono ?_
        rintro e w1 ⟨x', cp', rfl, hx', hl1, hl2, hb1⟩
        have hml : l.length = m := HH.out.2.1.1
        rw [hml] at hx' ⊢
        have hB1 : Below w'.heap.size w' w1 := HH.out.1.trans (hb1.mono hB')
        have f1 : w1.cell? ⟨b, off + k * 2, none⟩ = some (.slice x m cp) := (hB1.cell (p := ⟨b, off + k * 2, none⟩) hbw).trans HH.out.2.2.1
        have f2 : w1.cell? ⟨b, off + k * 2 + 1, none⟩ = some (.int .i64 c) := (hB1.cell (p := ⟨b, off + k * 2 + 1, none⟩) hbw).trans HH.out.2.2.2
        have hsz1 := hb1.size
        have hx1 : RdHs (· < w'.heap.size) w1 x m l := HH.out.2.1.below hb1 (fun _ h _ => by omega)
        have he : Calls Try.prog 30 #[.int .i64 n, .slice x m cp, .int .i64 c] w1.drew fun e w2 => e = .returned (.bool (evenF n l c)) ∧ Below w1.heap.size w1 w2 := by
          refine (even_all (· < w'.heap.size) n c x m cp l w1.drew ⟨hx1.1, hx1.2.1, hx1.2.2⟩ hmc hcm).mono ?_
          rintro e w2 ⟨rfl, hb⟩
          exact ⟨rfl, (Below.refl _ _).drew.trans hb⟩
        have hre : ∀ w2 : World, Below w1.heap.size w1 w2 → Calls Try.prog 31 #[.int .i64 n, .slice x' m cp', .int .i64 c] w2 fun e w3 => e = .returned (.bool (evenF n l c)) ∧ w2 = w3 :=
          fun w2 hb => reven_any _ n c x' m cp' l w2 hn0 hn1 (hx'.below hb (fun _ _ h => h)) (by omega)
        have HE := Lib.hid he
        have HRE := Lib.hid hre
        have HP := Lib.hid hB1
        have hbw1 : b < w1.heap.size := by omega
        clear he hre hB1 hx1 hx' d1 d2 hb1
        obtain ⟨ev, hev⟩ : ∃ ev, ev = evenF n l c := ⟨_, rfl⟩
        rw [← hev] at HE HRE
        clear hev
        go_wp2_with fail
        go_region_held3 (fun w' => w'.cell? ⟨b, off + k * 2, none⟩ = some (.slice x m cp) ∧ w'.cell? ⟨b, off + k * 2 + 1, none⟩ = some (.int .i64 c))
          (first
            | (simp [*]; done)
            | exact ⟨(HB2.out.cell (p := ⟨b, off + k * 2, none⟩) hbw1).trans f1, (HB2.out.cell (p := ⟨b, off + k * 2 + 1, none⟩) hbw1).trans f2⟩)
          ((first
            | (go_at_call 30; refine HE.out.mono ?_; rintro e w2 ⟨rfl, hb2⟩; have HB2 := Lib.hid hb2; clear hb2)
            | (go_at_call 31; refine (HRE.out _ HB2.out).mono ?_; rintro e w3 ⟨rfl, rfl⟩)))
        go_wp2_with fail
        go_quiet (fail)
        go_wp2
        exact ⟨⟨k + 1, by omega, by go_num, bdN (HP.out.trans (HB2.out.mono HP.out.size)) _⟩, by simp [intOf]; omega⟩
    · have : k = len := by omega
      subst this
      have HB := Lib.hid hB
      clear hB
      go_wp2_with fail
      refine (clives_any _).mono ?_
      rintro e w2 ⟨rfl, hl⟩
      have HL := Lib.hid hl
      clear hl
      go_wp2
      go_ret
      exact ⟨rfl, HB.out.trans (HL.out.mono HB.out.size)⟩

theorem cplay_any (n : Int) (hn0 : -9223372036854775808 ≤ n) (hn1 : n ≤ 9223372036854775807) (a : Option Addr) (len cap : Nat) (w : World) (hm : len ≤ maxLen) (hrd : RdTick w a len) :
    Calls Try.prog 5 #[.int .i64 n, .slice a len cap] w (CPost w) := by
  by_cases h : 120 < len
  · exact cplay_long n a len cap w h hm
  · by_cases hn : 4 ≤ n ∧ n ≤ 16
    · obtain ⟨N, rfl⟩ : ∃ N : Nat, n = N := ⟨n.toNat, by omega⟩
      exact cplay_ok N (by omega) (by omega) a len cap w (by omega) hrd
    · exact cplay_bad n (by omega) hn0 hn1 a len cap w (by omega) hrd

set_option maxRecDepth 100000 in
/-- the ticks that came in, opened -/
theorem RdTick.open_ {H : Type} {enc : TypeId × Value → H} {w : World} {a : Option Addr} {len cap : Nat} {d : DataW H} {pl : List MemPlace}
    (h : DataW.Trod enc Try.prog w 0 (fun _ => true) true 64 (.slice a len cap) d pl) : RdTick w a len ∧ len ≤ maxLen := by
  obtain ⟨fuel, hf⟩ := h
  rcases Deep.open_slice Try.underlying64 hf with ⟨hcs, _⟩ | ⟨x, l, c, m, n, D, Pl, hcs, _, hl, hm, hmm, _, hx⟩
  · simp [Value.cells] at hcs
    obtain ⟨rfl, rfl, rfl⟩ := hcs
    exact ⟨fun k hk => absurd hk (by omega), by simp⟩
  · simp [Value.cells] at hcs
    obtain ⟨rfl, rfl, rfl⟩ := hcs
    have hc : Try.prog.cellsOf 73 = 2 := by kernel_rfl
    rw [hc] at hx
    refine ⟨fun k hk => ?_, by omega⟩
    obtain ⟨cs, h1, h2⟩ := hx k (by simp at hmm; omega)
    obtain ⟨xs, n', _, _, hlen, hxl, hfl⟩ := DataW.trod_struct Try.underlying73 h2
    rw [hc] at hlen
    match cs, hlen with
    | [c0, c1], _ =>
      have g0 : DataW.trod enc Try.prog w 0 (fun _ => true) true n' 28 (([c0, c1].drop 0).take (Try.prog.cellsOf 28)) = xs[0]? := hfl 0 _ rfl
      have g1 : DataW.trod enc Try.prog w 0 (fun _ => true) true n' 2 (([c0, c1].drop 1).take (Try.prog.cellsOf 2)) = xs[1]? := hfl 1 _ rfl
      have hs : Try.prog.cellsOf 28 = 1 := by kernel_rfl
      have hi : Try.prog.cellsOf 2 = 1 := by kernel_rfl
      simp only [hs, hi, List.drop_zero, List.take_succ_cons, List.take_zero, List.drop_succ_cons] at g0 g1
      have l0 : xs[0]? = some (xs[0]'(by rw [hxl]; decide)) := List.getElem?_eq_getElem _
      have l1 : xs[1]? = some (xs[1]'(by rw [hxl]; decide)) := List.getElem?_eq_getElem _
      rw [l0] at g0
      rw [l1] at g1
      obtain ⟨_, hcl, hat⟩ := World.cells?_some h1
      have e0 := hat 0 (by omega)
      have e1 := hat 1 (by omega)
      obtain ⟨q, hq, _, _⟩ := DataW.trod_int Try.underlying2 g1
      simp only [List.cons.injEq, and_true] at hq
      subst hq
      obtain ⟨x', m', cap', hv⟩ : ∃ x' m' cap', c0 = .slice x' m' cap' := by
        rcases Deep.open_slice Try.underlying28 g0 with ⟨hcs, _⟩ | ⟨x', l', c', _, _, _, _, hcs, _⟩
        · simp at hcs; exact ⟨_, _, _, hcs⟩
        · simp at hcs; exact ⟨_, _, _, hcs⟩
      subst hv
      obtain ⟨lst, hr, hmc, hcm⟩ := RdHs.open_ Try.underlying28 (by kernel_rfl) (by kernel_rfl) g0
      obtain ⟨b, off, spot⟩ := x
      have hspot : spot = none := by
        have h00 := hx 0 (by simp at hmm; omega)
        obtain ⟨cs0, h01, _⟩ := h00
        obtain ⟨_, hcl0, hat0⟩ := World.cells?_some h01
        have := World.cell?_spot ((hat0 0 (by omega)).trans (List.getElem?_eq_getElem (by omega)))
        simpa [Addr.add] using this
      subst hspot
      rw [add_at] at e0 e1
      rw [add_at] at e0 e1
      exact ⟨b, off, x', m', cap', q, lst, rfl, World.block_lt_of_cell? w _ e0, by simpa using e0, by simpa using e1, hr, hmc, hcm⟩
end Go.Proofs.Ytphbmnjkhgfnoaa
