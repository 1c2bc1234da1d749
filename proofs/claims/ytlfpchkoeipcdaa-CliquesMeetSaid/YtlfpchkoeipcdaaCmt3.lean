/-
  sennitlaw17.CliquesMeet, walked.
-/
import Derived.Test.YtlfpchkoeipcdaaCmt2
import Derived.Test.YtlfpchkoeipcdaaAgs9
import Derived.Test.YtlfpchkoeipcdaaClq6
import Derived.Test.YtlfpchkoeipcdaaAgs3
namespace Go.Proofs.Ytlfpchkoeipcdaa
open Go.RowKit
set_option linter.unusedVariables false
set_option linter.unusedSimpArgs false

/-- one of the two vectors -/
def VwS (w : World) (n bad : Nat) (s : Nat → Int) (v : Value) (wr : World) : Prop :=
  ∃ (g : Nat) (L : List Hd), v = .slice (some ⟨g, 0, none⟩) n n ∧ Blk wr g 46 (flatH L).toArray ∧ w.heap.size + 3 ≤ g ∧ (∀ x ∈ L, x.ok) ∧ saysP n bad s L
theorem VwS.keep {w : World} {n bad : Nat} {s : Nat → Int} {v : Value} {wr w' : World} (h : VwS w n bad s v wr) (hk : ∀ b, w.heap.size + 3 ≤ b → b < wr.heap.size → w'.heap[b]? = wr.heap[b]?) : VwS w n bad s v w' := by
  obtain ⟨g, L, h1, h2, h3, h4⟩ := h
  exact ⟨g, L, h1, (hk g h3 h2.lt).trans h2, h3, h4⟩
structure MtR (w : World) (n bad : Nat) (s : Nat → Int) (xc : Array Value) (k : Nat) (wr : World) : Prop where
  b : ∃ v0 v1, Blk wr (w.heap.size + 1 + 1) 29 #[v0, v1] ∧ (0 < k → VwS w n bad s v0 wr) ∧ (1 < k → VwS w n bad s v1 wr)
  x : Blk wr (w.heap.size + 1) 27 xc
  bel : Below w.heap.size w wr
theorem MtR.step {w : World} {n bad : Nat} {s : Nat → Int} {xc : Array Value} {k : Nat} {wr w1 : World} (h : MtR w n bad s xc k wr) (hk : k < 2) (hB : Below wr.heap.size wr w1) {g : Nat} {L : List Hd} (hb : Blk w1 g 46 (flatH L).toArray) (hg : wr.heap.size ≤ g) (hok : ∀ x ∈ L, x.ok) (hs : saysP n bad s L) :
    MtR w n bad s xc (k + 1) (w1.setCell ⟨w.heap.size + 1 + 1, k, none⟩ (.slice (some ⟨g, 0, none⟩) n n)) := by
  obtain ⟨⟨v0, v1, h1, h2, h3⟩, hx, hbel⟩ := h
  have hlt := h1.lt
  have hsz := hB.size
  have hb1 : Blk w1 (w.heap.size + 1 + 1) 29 #[v0, v1] := h1.below hB hlt
  have hset := hb1.set_ k (.slice (some ⟨g, 0, none⟩) n n)
  have keep : ∀ {v : Value}, VwS w n bad s v wr → VwS w n bad s v (w1.setCell ⟨w.heap.size + 1 + 1, k, none⟩ (.slice (some ⟨g, 0, none⟩) n n)) := fun {v} hv => hv.keep (fun b hb1 hb2 => (Below.heap_setCell _ _ _ _ (by simp; omega)).trans (hB.block b hb2))
  have new : VwS w n bad s (.slice (some ⟨g, 0, none⟩) n n) (w1.setCell ⟨w.heap.size + 1 + 1, k, none⟩ (.slice (some ⟨g, 0, none⟩) n n)) := ⟨g, L, rfl, (Below.heap_setCell _ _ _ _ (by simp; omega)).trans hb, by omega, hok, hs⟩
  refine ⟨?_, (Below.heap_setCell _ _ _ _ (by simp)).trans (hx.below hB hx.lt), (hbel.trans (hB.mono hbel.size)).setCell (p := ⟨w.heap.size + 1 + 1, k, none⟩) (by simp; omega) _⟩
  have hk01 : k = 0 ∨ k = 1 := by omega
  rcases hk01 with rfl | rfl
  · exact ⟨_, v1, by simpa using hset, fun _ => new, fun h => by omega⟩
  · exact ⟨v0, _, by simpa using hset, fun _ => keep (h2 (by omega)), fun _ => new⟩
/-- what one holds of all, for the k-th of the two -/
def ViewK (w : World) (n bad : Nat) (s : Nat → Int) (xc : Array Value) (k : Nat) (e : Ending) (w' : World) : Prop :=
  ∃ (g : Nat) (v : Value), e = .returned (.slice (some ⟨g, 0, none⟩) n n) ∧ w'.cell? ⟨w.heap.size + 1 + 1, k, none⟩ = some v ∧ w'.frozen? ⟨w.heap.size + 1 + 1, k, none⟩ = false ∧ MtR w n bad s xc (k + 1) (w'.setCell ⟨w.heap.size + 1 + 1, k, none⟩ (.slice (some ⟨g, 0, none⟩) n n))
theorem MtR.view {w : World} {n bad : Nat} {s : Nat → Int} {xc : Array Value} {k : Nat} {wr w3 w1 : World} (h : MtR w n bad s xc k wr) (hk : k < 2) (hB : Below wr.heap.size wr w3) {e : Ending} (hv : ViewPost n bad s w3 e w1) : ViewK w n bad s xc k e w1 := by
  obtain ⟨g, L, rfl, hb, hg, hok, hs, hb1⟩ := hv
  have hs3 := hB.size
  have hB1 : Below wr.heap.size wr w1 := hB.trans (hb1.mono hs3)
  obtain ⟨⟨v0, v1, h1, -, -⟩, -, -⟩ := id h
  have h1' : Blk w1 (w.heap.size + 1 + 1) 29 #[v0, v1] := h1.below hB1 h1.lt
  obtain ⟨v, hv⟩ : ∃ v, (#[v0, v1] : Array Value)[k]? = some v := by
    have hk01 : k = 0 ∨ k = 1 := by omega
    rcases hk01 with rfl | rfl
    · exact ⟨v0, rfl⟩
    · exact ⟨v1, rfl⟩
  exact ⟨g, v, rfl, (h1'.cell k).trans hv, h1'.frozen k, h.step hk hB1 hb (by omega) hok hs⟩
theorem wrap_u16 (v : Int) : 0 ≤ IntKind.u16.wrap v ∧ IntKind.u16.wrap v ≤ 65535 := by
  have h : IntKind.u16.wrap v = v % 65536 := by simp [IntKind.wrap, IntKind.signed, IntKind.bits]
  omega
theorem cell_at7 {is : Bool} {c : List Value} (h : okL cellK c = true) : ∃ v : Int, c[6]? = some (.int .u32 v) := by
  obtain ⟨C, rfl, -⟩ : ∃ C : List Value, C = c ∧ True := ⟨c, rfl, trivial⟩
  have hl := okL_len h
  rw [len_cellK] at hl
  match C, hl with
  | a0 :: a1 :: a2 :: a3 :: a4 :: a5 :: a6 :: r, _ =>
    simp only [cellK, saidK, List.cons_append, okL, Bool.and_eq_true] at h
    obtain ⟨-, -, -, -, -, -, h6, -⟩ := h
    cases a6 <;> simp [okK] at h6
    obtain ⟨rfl, -⟩ := h6
    exact ⟨_, rfl⟩

set_option maxRecDepth 100000 in
set_option maxHeartbeats 8000000 in
theorem meet_ok (p q : Int) (hp : 0 ≤ p ∧ p ≤ 255) (hq : 0 ≤ q ∧ q ≤ 255) (N B : Nat) (hN : 4 + p % 13 = (N : Int)) (hB : q % (N : Int) = (B : Int)) (h4 : 4 ≤ N) (h16 : N ≤ 16) (hBN : B < N)
    (sa : Option Addr) (slen scap : Nat) (S : List Int) (hS : ∀ x ∈ S, -9223372036854775808 ≤ x ∧ x ≤ 9223372036854775807) (hs0 : 0 < slen) (hs1 : slen ≤ 40)
    (a0 : Option Addr) (l0 cp0 : Nat) (L0 : List Hd) (c0 : Int) (a1 : Option Addr) (l1 cp1 : Nat) (L1 : List Hd) (c1 : Int) (w : World) (hrd : Rd1 w sa slen (S.map (Value.int .i64))) (hr0 : RdHs (· < w.heap.size) w a0 l0 L0) (hr1 : RdHs (· < w.heap.size) w a1 l1 L1) (hm0 : l0 ≤ maxLen) (hm1 : l1 ≤ maxLen) :
    Calls Try.prog 3 #[.agg #[.int .u8 p, .int .u8 q], .slice sa slen scap, .agg #[.slice a0 l0 cp0, .int .i64 c0, .slice a1 l1 cp1, .int .i64 c1]] w (OkPost w) := by
  obtain ⟨hp0, hp1⟩ := hp
  obtain ⟨hq0, hq1⟩ := hq
  unfold maxLen at hm0 hm1
  have hb0 : 0 ≤ p % 13 := by omega
  have hb1 : p % 13 < 13 := by omega
  have hz1 : ((slen : Int) == 0) = false := by simp; omega
  have hz2 : ¬ (40 : Int) < (slen : Int) := by omega
  have HR := Lib.hid (And.intro hrd (And.intro hr0 (And.intro hr1 hS)))
  clear hrd hr0 hr1 hS
  go_enter Try.func3, Try.ntmps3
  go_upto_block 0 with fail
  rw [hB]
  obtain ⟨xc, hxc⟩ : ∃ xc : Array Value, xc = #[.slice a0 l0 cp0, .int .i64 c0, .slice a1 l1 cp1, .int .i64 c1] := ⟨_, rfl⟩
  rw [← hxc]
  have hst : MtR w N B (saidS S) xc 0 (((w.alloc (.cells #[.int .u8 p, .int .u8 q] 22)).alloc (.cells xc 27)).alloc (.cells #[.slice none 0 0, .slice none 0 0] 29)) :=
    ⟨⟨_, _, blk_new' _ _ _ (by simp), fun h => by omega, fun h => by omega⟩, (blk_new' _ _ _ (by simp)).alloc _, (((Below.refl _ _).alloc (Nat.le_refl _) _).alloc (by simp) _).alloc (by simp; omega) _⟩
  generalize (((w.alloc (.cells #[.int .u8 p, .int .u8 q] 22)).alloc (.cells xc 27)).alloc (.cells #[.slice none 0 0, .slice none 0 0] 29)) = w1 at hst ⊢
  have HS := Lib.hid hst
  have HX := Lib.hid hxc
  clear hst hxc hN hB
  go_wp2_with fail
  go_loopw [10] (fun i wr => ∃ k : Nat, k ≤ 2 ∧ i = .int .i64 k ∧ MtR w N B (saidS S) xc k wr) (fun i _ => 2 - (intOf i).toNat)
  case atStart => exact ⟨0, by omega, rfl, HS.out⟩
  case round =>
    obtain ⟨k, hk, rfl, hr⟩ := hrel
    by_cases hlt : k < 2
    · obtain ⟨ak, lk, ck, Lk, hcell, hrk, hlk⟩ : ∃ ak lk ck Lk, wr.cell? ⟨w.heap.size + 1, k * 2, none⟩ = some (.slice ak lk ck) ∧ RdHs (· < w.heap.size) w ak lk Lk ∧ lk ≤ 9223372036854775807 := by
        have hk01 : k = 0 ∨ k = 1 := by omega
        rcases hk01 with rfl | rfl
        · exact ⟨a0, l0, cp0, L0, by rw [hr.x.cell, HX.out]; rfl, HR.out.2.1, by omega⟩
        · exact ⟨a1, l1, cp1, L1, by rw [hr.x.cell, HX.out]; rfl, HR.out.2.2.1, by omega⟩
      have hsz := hr.bel.size
      obtain ⟨v0, v1, hbw, -, -⟩ := hr.b
      have hbwl := hbw.lt
      have hxl : w.heap.size + 1 < wr.heap.size := by omega
      have HK := Lib.hid hr
      have hview : ∀ (of : Hd) (gone : Int) (w3 : World), of.ok → 0 ≤ gone ∧ gone ≤ 65535 → Below wr.heap.size wr w3 → Calls Try.prog 10 #[.int .i64 N, .int .i64 B, .slice sa slen scap, .int .u16 gone, .agg of.vals.toArray] w3 (ViewK w N B (saidS S) xc k) := fun of gone w3 h1 h2 h3 =>
        (view_any N B h16 hBN S HR.out.2.2.2 sa slen scap hs0 hs1 gone h2 of h1 w3 (HR.out.1.below (hr.bel.trans (h3.mono hsz)))).mono (fun e w' h => hr.view hlt h3 h)
      have HV := Lib.hid hview
      have hzl := len_heldZ
      have hzt : List.take 56 heldZ = heldZ := List.take_of_length_le (by omega)
      have hzc : heldZ.all cell1 = true := by kernel_rfl
      clear hr hbw hview
      by_cases hpos : 0 < lk
      · obtain ⟨b, off, is, n1, r, rfl, -, hbl, hl0, hok, hlr, hlc1, h1, h2, -⟩ := hrk.at_ 0 hpos
        have hBw := HK.out.bel
        have hblr : b < wr.heap.size := by have : b < w.heap.size := hbl; omega
        have d := row_below hBw (p := ⟨b, off + 0 * 56, none⟩) hbl 56
        have e1 := d.1.trans h1
        have e2 := d.2.trans h2
        obtain ⟨v, hv⟩ := cell_at7 (is := is) hok
        have e3 := row_cell e1 e2 7 (by omega)
        rw [show (Value.bool is :: Value.int .i64 n1 :: r)[7]? = some (.int .u32 v) from hv] at e3
        obtain ⟨Y, hY⟩ : ∃ Y, Y = Value.bool is :: Value.int .i64 n1 :: r := ⟨_, rfl⟩
        rw [← hY] at e2
        have hYl : Y.length = 56 := by rw [hY]; simp [hlr]
        have hYc : Y.all cell1 = true := by rw [hY]; simpa [cell1] using hlc1
        simp only [Nat.zero_mul, Nat.add_zero] at e1 e2 e3
        have hYt : List.take 56 Y = Y := List.take_of_length_le (by omega)
        have HYY := Lib.hid (And.intro hY hok)
        clear hl0 h1 h2 d hv hY hok hlr hlc1 hBw
        go_upto_region 14 with fail
        have hc3 := HV.out ⟨is, .int .i64 n1 :: r⟩ (IntKind.u16.wrap v) (wr.alloc (.cells Y.toArray 46)) HYY.out.2 (wrap_u16 v) ((Below.refl _ _).alloc (Nat.le_refl _) _)
        rw [show (⟨is, .int .i64 n1 :: r⟩ : Hd).vals = Y from HYY.out.1.symm] at hc3
        have HC3 := Lib.hid hc3
        clear hc3
        go_wp2_with fail
        with_reducible refine (HC3.out).mono ?_
        rintro e w5 ⟨g, v5, rfl, hw1, hw0, hw2⟩
        have H5 := Lib.hid hw2
        clear hw2
        go_wp2_with fail
        all_goals exact ⟨⟨k + 1, by omega, by go_num, H5.out⟩, by simp [intOf]; omega⟩
      · obtain rfl : lk = 0 := by omega
        go_upto_region 14 with fail
        have hc3 := HV.out hd0 0 (wr.alloc (.cells heldZ.toArray 46)) hd0_ok (by omega) ((Below.refl _ _).alloc (Nat.le_refl _) _)
        rw [hd0_vals] at hc3
        have HC3 := Lib.hid hc3
        clear hc3
        go_wp2_with fail
        with_reducible refine (HC3.out).mono ?_
        rintro e w5 ⟨g, v5, rfl, hw1, hw0, hw2⟩
        have H5 := Lib.hid hw2
        clear hw2
        go_wp2_with fail
        all_goals exact ⟨⟨k + 1, by omega, by go_num, H5.out⟩, by simp [intOf]; omega⟩
    · obtain rfl : k = 2 := by omega
      obtain ⟨⟨v0, v1, hb, hv0, hv1⟩, hx, hbel⟩ := hr
      obtain ⟨g0, M0, rfl, hg0, -, hok0, hs0'⟩ := hv0 (by omega)
      obtain ⟨g1, M1, rfl, hg1, -, hok1, hs1'⟩ := hv1 (by omega)
      have hF : ∀ w' : World, Below wr.heap.size wr w' → w'.cell? ⟨w.heap.size + 1 + 1, 0, none⟩ = some (.slice (some ⟨g0, 0, none⟩) N N) ∧ w'.cell? ⟨w.heap.size + 1 + 1, 1, none⟩ = some (.slice (some ⟨g1, 0, none⟩) N N) ∧ w'.cell? ⟨w.heap.size + 1, 1, none⟩ = some (.int .i64 c0) ∧ w'.cell? ⟨w.heap.size + 1, 3, none⟩ = some (.int .i64 c1) ∧ RdHs (· = g0) w' (some ⟨g0, 0, none⟩) N M0 ∧ RdHs (· = g1) w' (some ⟨g1, 0, none⟩) N M1 := fun w' h' => by
        refine ⟨(hb.below h' hb.lt).cell 0, (hb.below h' hb.lt).cell 1, ?_, ?_, ?_, ?_⟩
        · rw [(hx.below h' hx.lt).cell, HX.out]; rfl
        · rw [(hx.below h' hx.lt).cell, HX.out]; rfl
        · have := RdHs.of_blk (r := []) (by simpa using hg0.below h' hg0.lt) hok0
          rw [hs0'.1] at this
          exact this
        · have := RdHs.of_blk (r := []) (by simpa using hg1.below h' hg1.lt) hok1
          rw [hs1'.1] at this
          exact this
      have hQ : ∀ p q : Int, evenF N M0 p = true → commonF N M0 = p ∧ (evenF N M1 q = true → p = q) := fun p q h => ⟨even_common h4 h16 hs0'.1 h, fun h1 => even_meet h4 hs0' hs1' h h1⟩
      have HF := Lib.hid hF
      have HQ := Lib.hid hQ
      have HB := Lib.hid hbel
      clear hb hv0 hv1 hx hbel hg0 hg1 hok0 hok1 hs0' hs1' hF hQ HS HX HR
      go_wp2_with fail
      have HB0 := Lib.hid (Below.refl wr.heap.size wr)
      obtain ⟨wb, rfl⟩ : ∃ wb, wb = wr := ⟨_, rfl⟩
      go_loopw [13] (fun i wr => ∃ k : Nat, k ≤ N ∧ i = .int .i64 k ∧ Below wb.heap.size wb wr) (fun i _ => N - (intOf i).toNat)
      case atStart => exact ⟨0, by omega, rfl, HB0.out⟩
      case round =>
        obtain ⟨k, hk, rfl, hr⟩ := hrel
        by_cases hlt : k < N
        · have HR0 := Lib.hid hr
          clear hr
          go_wp2_with fail
          obtain ⟨wa, rfl⟩ : ∃ wa, wa = wr := ⟨_, rfl⟩
          go_loopw [14] (fun i wr => ∃ j : Nat, j ≤ N ∧ i = .int .i64 j ∧ Below wb.heap.size wb wr) (fun i _ => N - (intOf i).toNat)
          case atStart => exact ⟨0, by omega, rfl, HR0.out⟩
          case round =>
            obtain ⟨j, hj, rfl, hr⟩ := hrel
            by_cases hlj : j < N
            · obtain ⟨f1, f2, f3, f4, f5, f6⟩ := HF.out wr hr
              obtain ⟨b, off, is, n1, r, he, -, hbl, hl0, hok, hlr, hlc1, h1, h2, -, -, -, f7, -⟩ := f5.at_ k hlt
              obtain ⟨b', off', is', n1', r', he', -, hbl', hl0', hok', hlr', hlc1', h1', h2', -, -, -, f8, -⟩ := f6.at_ j hlj
              cases he
              cases he'
              rw [Nat.zero_add] at f7 f8
              have H1 := Lib.hid hr
              clear hr f5 f6 h1 h2 h1' h2' hok hok' hl0 hl0' hlr hlr' hlc1 hlc1'
              go_upto_region 23 with fail
              go_cut [102] from 97 to 102 (fun s wx => ∃ qb : Bool, s = .bool qb ∧ wr = wx)
              case first =>
                by_cases hk0 : k = 0
                · subst hk0
                  by_cases hj0 : j = 0
                  · subst hj0
                    go_wp2_with fail
                    go_meet
                    exact ⟨_, rfl, rfl⟩
                  · have hjz : ((j : Int) == 0) = false := by simp; omega
                    go_wp2_with fail
                    go_meet
                    exact ⟨_, rfl, rfl⟩
                · have hkz : ((k : Int) == 0) = false := by simp; omega
                  go_wp2_with fail
                  go_meet
                  exact ⟨_, rfl, rfl⟩
              obtain ⟨qb, rfl, rfl⟩ := hcut
              go_upto_if 102 with fail
              go_cut [15, 16] from 103 to 108 (fun s15 s16 wx => ∃ p q : Int, s15 = .int .i64 p ∧ s16 = .int .i64 q ∧ wr = wx)
              case first =>
                cases qb
                · go_wp2_with fail
                  go_meet
                  exact ⟨_, _, rfl, rfl, rfl⟩
                · go_wp2_with fail
                  go_meet
                  exact ⟨_, _, rfl, rfl, rfl⟩
              case rest =>
                obtain ⟨p', q', rfl, rfl, rfl⟩ := hcut
                clear f3 f4 f7 f8
                have HE := Lib.hid (even_all _ N p' _ N N M0 wr (HF.out wr H1.out).2.2.2.2.1 (Nat.le_refl _) (by unfold maxLen; omega))
                go_wp2_with fail
                with_reducible refine (HE.out).mono ?_
                rintro e w5 ⟨rfl, hb5⟩
                have H5 := Lib.hid (H1.out.trans (hb5.mono H1.out.size))
                clear hb5 HE
                obtain ⟨f1, f2, -, -, f5, f6⟩ := HF.out w5 H5.out
                obtain ⟨qe, hqe⟩ : ∃ qe, qe = evenF N M0 p' := ⟨_, rfl⟩
                rw [← hqe]
                have HQE := Lib.hid hqe
                clear hqe
                cases qe
                · clear f1 f2 f5 f6
                  go_wp2_with fail
                  go_roundw
                  case rel => (repeat apply Exists.intro); exact ⟨⟨j + 1, by omega, by go_num, H5.out⟩, rfl⟩
                  all_goals (simp [intOf]; omega)
                · obtain ⟨hq1, hq2⟩ := HQ.out p' q' HQE.out.symm
                  have hC := common_any _ N _ N N M0 w5 f5 (Nat.le_refl _) (by unfold maxLen; omega)
                  rw [hq1] at hC
                  have HC := Lib.hid hC
                  have HQ2 := Lib.hid hq2
                  clear hC hq1 hq2 f5 f6
                  go_wp2_with fail
                  with_reducible refine (HC.out).mono ?_
                  rintro e w6 ⟨rfl, hb6⟩
                  have H6 := Lib.hid (H5.out.trans (hb6.mono H5.out.size))
                  clear hb6 HC f1 f2
                  obtain ⟨f1, f2, -, -, f5, f6⟩ := HF.out w6 H6.out
                  have HE2 := Lib.hid (even_all _ N q' _ N N M1 w6 f6 (Nat.le_refl _) (by unfold maxLen; omega))
                  clear f5 f6
                  go_wp2_with fail
                  with_reducible refine (HE2.out).mono ?_
                  rintro e w7 ⟨rfl, hb7⟩
                  have H7 := Lib.hid (H6.out.trans (hb7.mono H6.out.size))
                  clear hb7 HE2 f1 f2
                  obtain ⟨qf, hqf⟩ : ∃ qf, qf = evenF N M1 q' := ⟨_, rfl⟩
                  rw [← hqf]
                  have HQF := Lib.hid hqf
                  clear hqf
                  cases qf
                  · go_wp2_with fail
                    go_roundw
                    case rel => (repeat apply Exists.intro); exact ⟨⟨j + 1, by omega, by go_num, H7.out⟩, rfl⟩
                    all_goals (simp [intOf]; omega)
                  · obtain rfl := HQ2.out HQF.out.symm
                    go_wp2_with fail
                    go_roundw
                    case rel => (repeat apply Exists.intro); exact ⟨⟨j + 1, by omega, by go_num, H7.out⟩, rfl⟩
                    all_goals (simp [intOf]; omega)
            · have HE := Lib.hid hr
              clear hr
              go_wp2_with fail
              exact ⟨⟨k + 1, by omega, by go_num, HE.out⟩, by simp [intOf]; omega⟩
        · have HE := Lib.hid hr
          clear hr
          go_wp2_with fail
          refine (clives_any wr).mono ?_
          rintro e w9 ⟨rfl, hb9⟩
          have HEND : Hid (OkPost w (.returned (.bool true)) w9) := Lib.hid ⟨rfl, HB.out.trans ((HE.out.trans (hb9.mono HE.out.size)).mono HB.out.size)⟩
          clear hb9
          go_wp2_with fail
          go_ret
          exact HEND.out
end Go.Proofs.Ytlfpchkoeipcdaa
