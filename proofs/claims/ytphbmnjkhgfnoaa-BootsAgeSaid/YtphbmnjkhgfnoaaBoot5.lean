/-
  The power of a node, walked: the examples and the laws.
-/
import Derived.Test.YtphbmnjkhgfnoaaRows
import Derived.Test.YtphbmnjkhgfnoaaBoot4
import Derived.WalkKit
import Derived.WalkSpells
import Derived.WalkLawsBesides
import Derived.Outline
import Derived.Deep.QuietTactic
import Derived.BigQuiet
import Derived.Deep.Light
namespace Go.Proofs.Ytphbmnjkhgfnoaa
open Go.RowKit





def AgeRel (w : World) (boot run : Int) (wr : World) : Prop :=
  ∃ s l c : Int, PR boot s l c run ∧ Blk wr w.heap.size 100 (pwCells boot s l c) ∧ Below w.heap.size w wr

theorem age_on (w : World) (boot run : Int) (hb0 : 0 ≤ boot) (hb1 : boot ≤ 4096) (hr : run ≤ 1000) (wr : World) (h : AgeRel w boot run wr) :
    ∃ s' c' : Int, Calls Try.prog 37 #[.pointer (some ⟨w.heap.size, 0, none⟩), .bool true] wr (fun e w' => e = .returned (.tuple #[.int .u8 s', .int .i64 c']) ∧ AgeRel w boot (run + 1) w') ∧
      (run < boot → s' = 1 ∧ c' = -1) ∧ (¬ run < boot → s' = 2 ∧ c' = run - boot) := by
  obtain ⟨s, l, c, hp, b1, hB⟩ := h
  have hS := hp.s
  have hp0 := hp
  obtain ⟨q1, q2, q3, q4, q5, _⟩ := hp0
  obtain ⟨s', l', c', he⟩ : ∃ s' l' c', (s', l', c') = pwOn boot s l c := ⟨_, _, _, rfl⟩
  obtain ⟨hp', hlo, hhi⟩ := pr_on hb0 hb1 (by omega) hp he
  refine ⟨s', if s' = 2 then c' else -1, (step_on _ boot s l c wr hS hb0 hb1 q2 q3 q4 q5 b1).mono ?_, ?_, ?_⟩
  · rintro e w' ⟨s'', l'', c'', he2, rfl, hb, hc⟩
    simp only [if_true] at he2
    rw [← he] at he2
    simp only [Prod.mk.injEq] at he2
    obtain ⟨rfl, rfl, rfl⟩ := he2
    exact ⟨rfl, _, _, _, hp', hb, hB.trans (hc.below hB.size fun k hk => by omega)⟩
  · intro hlt
    have := hlo (by omega)
    exact ⟨this, by rw [this]; rfl⟩
  · intro hlt
    obtain ⟨h1, h2⟩ := hhi (by omega)
    exact ⟨h1, by rw [h1, h2]; rfl⟩

theorem age_off (w : World) (boot run : Int) (hb0 : 0 ≤ boot) (wr : World) (h : AgeRel w boot run wr) :
    Calls Try.prog 37 #[.pointer (some ⟨w.heap.size, 0, none⟩), .bool false] wr (fun e w' => e = .returned (.tuple #[.int .u8 0, .int .i64 (-1)]) ∧ AgeRel w boot 0 w') := by
  obtain ⟨s, l, c, hp, b1, hB⟩ := h
  obtain ⟨q1, q2, q3, q4, q5, _⟩ := hp
  refine (step_off _ boot s l c wr b1).mono ?_
  rintro e w' ⟨s', l', c', he, rfl, hb, hc⟩
  simp only [Bool.false_eq_true, if_false, Prod.mk.injEq] at he
  obtain ⟨rfl, rfl, rfl⟩ := he
  exact ⟨rfl, 0, l', c', ⟨by omega, by omega, by omega, by omega, by omega, by omega⟩, hb, hB.trans (hc.below hB.size fun k hk => by omega)⟩

theorem age_long (boot : Int) (a : Option Addr) (len cap : Nat) (w : World) (h : 10 < len) (hm : len ≤ maxLen) :
    Calls Try.prog 10 #[.int .u8 boot, .slice a len cap] w (BPost w) := by
  unfold maxLen at hm
  go_enter Try.func10, Try.ntmps10
  go_wp2_with fail
  refine (lives_any _).mono ?_
  rintro e w' ⟨rfl, hl⟩
  go_wp2
  go_ret
  exact ⟨rfl, hl⟩

set_option maxHeartbeats 400000 in
theorem age_ok (boot : Int) (a : Option Addr) (len cap : Nat) (ns : List Value) (w : World) (h : len ≤ 10) (hb0 : 0 ≤ boot) (hb1 : boot ≤ 255)
    (hrd : Rd1 w a len ns) (hns : ∀ v ∈ ns, ∃ n : Int, v = .int .u16 n ∧ 0 ≤ n ∧ n ≤ 65535) :
    Calls Try.prog 10 #[.int .u8 boot, .slice a len cap] w (BPost w) := by
  have HR := Lib.hid (And.intro hrd hns)
  clear hrd hns
  go_enter Try.func10, Try.ntmps10
  go_wp2_with fail
  refine (new_ok boot _ hb0 (by omega)).mono ?_
  rintro e w' ⟨rfl, rfl⟩
  go_wp2_with fail
  have hst : AgeRel w boot 0 (w.alloc (.cells (pwCells boot 0 0 0) 100)) :=
    ⟨0, 0, 0, ⟨by omega, by omega, by omega, by omega, by omega, by omega⟩, Blk.new _ _ _, (Below.refl _ _).alloc (by simp) _⟩
  have HS := Lib.hid hst
  clear hst
  go_loopw [7] (fun i wr => ∃ k : Nat, k ≤ len ∧ i = .int .i64 k ∧ AgeRel w boot 0 wr) (fun i _ => len - (intOf i).toNat)
  case atStart => exact ⟨0, by omega, rfl, HS.out⟩
  case round =>
    obtain ⟨k, hk, rfl, hr⟩ := hrel
    obtain ⟨wo, rfl⟩ : ∃ wo : World, wo = wr := ⟨_, rfl⟩
    have hB := hr
    obtain ⟨_, _, _, _, _, hB'⟩ := hB
    by_cases hlt : k < len
    · have hv : ns[k]? = some (ns[k]'(by rw [HR.out.1.1]; exact hlt)) := List.getElem?_eq_getElem _
      obtain ⟨b, off, rfl, hc⟩ := HR.out.1.2 k _ hv
      obtain ⟨n, hn, n0, n1⟩ := HR.out.2 _ (List.mem_of_getElem? hv)
      rw [hn] at hc
      have hbl := World.block_lt_of_cell? w _ hc
      have H := Lib.hid (And.intro hr (And.intro hc hbl))
      clear hr hc hbl hv hn hB'
      have hn0 : 0 ≤ n % 300 := by omega
      have hn1 : n % 300 < 300 := by omega
      go_wp2_with fail
      go_loopw [8] (fun i wr => ∃ t : Nat, (t : Int) ≤ n % 300 ∧ i = .int .i64 t ∧ AgeRel w boot t wr) (fun i _ => 300 - (intOf i).toNat)
      case atStart => exact ⟨0, by omega, rfl, H.out.1⟩
      case round =>
        obtain ⟨t, ht, rfl, hr⟩ := hrel
        have hr0 := hr
        obtain ⟨_, _, _, _, _, hB'⟩ := hr0
        have hcr : wr.cell? ⟨b, off + k, none⟩ = some (.int .u16 n) := (hB'.cell (p := ⟨b, off + k, none⟩) H.out.2.2).trans H.out.2.1
        by_cases hlt2 : (t : Int) < n % 300
        · obtain ⟨s', c', hs, hlo, hhi⟩ := age_on w boot t hb0 (by omega) (by omega) wr hr
          have H1 := Lib.hid hs
          clear hs hr hB'
          by_cases htb : (t : Int) < boot
          · obtain ⟨rfl, rfl⟩ := hlo htb
            clear hlo hhi
            go_wp2_with fail
            refine H1.out.mono ?_
            rintro e w1 ⟨rfl, hr1⟩
            have H2 := Lib.hid hr1
            clear hr1
            go_wp2
            exact ⟨⟨t + 1, by omega, by go_num, H2.out⟩, by simp [intOf]; omega⟩
          · obtain ⟨rfl, rfl⟩ := hhi htb
            clear hlo hhi
            go_wp2_with fail
            refine H1.out.mono ?_
            rintro e w1 ⟨rfl, hr1⟩
            have H2 := Lib.hid hr1
            clear hr1
            go_wp2
            exact ⟨⟨t + 1, by omega, by go_num, H2.out⟩, by simp [intOf]; omega⟩
        · have hs := age_off w boot t hb0 wr hr
          have H1 := Lib.hid hs
          clear hs hr hB'
          go_wp2_with fail
          refine H1.out.mono ?_
          rintro e w1 ⟨rfl, hr1⟩
          have H2 := Lib.hid hr1
          clear hr1
          go_wp2
          exact ⟨⟨k + 1, by omega, by go_num, H2.out⟩, by simp [intOf]; omega⟩
    · have : k = len := by omega
      subst this
      have HB := Lib.hid hB'
      clear hr hB'
      go_wp2_with fail
      refine (lives_any _).mono ?_
      rintro e w' ⟨rfl, hl⟩
      have HL := Lib.hid hl
      clear hl
      go_wp2
      go_ret
      exact ⟨rfl, HB.out.trans (HL.out.mono HB.out.size)⟩

theorem age_any (boot : Int) (a : Option Addr) (len cap : Nat) (ns : List Value) (w : World) (hm : len ≤ maxLen) (hb0 : 0 ≤ boot) (hb1 : boot ≤ 255) (hrd : Rd1 w a len ns)
    (hns : ∀ v ∈ ns, ∃ n : Int, v = .int .u16 n ∧ 0 ≤ n ∧ n ≤ 65535) :
    Calls Try.prog 10 #[.int .u8 boot, .slice a len cap] w (BPost w) := by
  by_cases h : 10 < len
  · exact age_long boot a len cap w h hm
  · exact age_ok boot a len cap ns w (by omega) hb0 hb1 hrd hns
end Go.Proofs.Ytphbmnjkhgfnoaa
