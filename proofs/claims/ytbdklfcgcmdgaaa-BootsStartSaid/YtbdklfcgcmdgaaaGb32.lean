/-
  (*sennitlaw14.Ring).Say, walked.
-/
import Derived.Test.YtbdklfcgcmdgaaaGb31
namespace Go.Proofs.Ytbdklfcgcmdgaaa
open Go.RowKit
set_option linter.unusedVariables false
set_option linter.unusedSimpArgs false

def RingSaid (tag0 : Nat → Nat) (rg : Nat) (av : Value) (R : RingM) (own : Nat → Rw) (w : World) (e : Ending) (w' : World) : Prop :=
  e = .returned (.tuple #[]) ∧ ∃ tag P, RingAt tag w' rg av (R.say own) P ∧ (∀ b, b < w.heap.size → tag b = tag0 b) ∧ Chg (Rgs tag0 R.N) w w'
/-- a node has said its words: they stand in two blocks -/
def Say6 (tag0 : Nat → Nat) (w : World) (rg : Nat) (av : Value) (R : RingM) (own : Nat → Rw) (k b4 : Nat) (v : Value) (xs : List Value) (s7 s8 : Value) (wx : World) : Prop :=
  ∃ (wc : World) (tag : Nat → Nat) (P : RgP) (ga gb g0 g1 : Nat), wc = wx ∧ s7 = .pointer (some ⟨ga, 0, none⟩) ∧ s8 = .pointer (some ⟨gb, 0, none⟩) ∧ wc.cell? ⟨ga, 0, none⟩ = some (.slice (some ⟨g0, 0, none⟩) R.N R.N) ∧ wc.cell? ⟨gb, 0, none⟩ = some (.slice (some ⟨g1, 0, none⟩) R.N R.N) ∧
    RingAt tag wc rg av (R.sayK own (k + 1)) P ∧ SayB tag0 w R.N k (R.wordsM own) tag v xs wc ∧ Blk wc b4 101 #[.slice none 0 0, .slice none 0 0, .slice none 0 0, .slice none 0 0] ∧ tag b4 = 98 ∧ w.heap.size ≤ b4 ∧
    WdAt (Sn tag wc) wc (.slice (some ⟨g0, 0, none⟩) R.N R.N) (R.wordsM own k 0) ∧ WdAt (Sn tag wc) wc (.slice (some ⟨g1, 0, none⟩) R.N R.N) (R.wordsM own k 2)
theorem say6_of {tag0 tag : Nat → Nat} {w w8 wc : World} {rg : Nat} {av : Value} {R : RingM} {own : Nat → Rw} {k b4 lo ga gb g0 g1 : Nat} {P : RgP} {v : Value} {xs : List Value}
    (h : RingAt tag w8 rg av (R.sayK own (k + 1)) P ∧ SayB tag0 w R.N k (R.wordsM own) tag v xs w8 ∧ WdAt (Sn tag w8) w8 (.slice (some ⟨g0, 0, none⟩) R.N R.N) (R.wordsM own k 0) ∧ WdAt (Sn tag w8) w8 (.slice (some ⟨g1, 0, none⟩) R.N R.N) (R.wordsM own k 2))
    (hv : ∀ b, v.ownBlock = some b → b < b4) (hbl : b4 < lo) (hw : w.heap.size ≤ lo) (hb : Blk w8 b4 101 #[.slice none 0 0, .slice none 0 0, .slice none 0 0, .slice none 0 0]) (ht : tag b4 = 98) (hge : w.heap.size ≤ b4)
    (hc : Chg (fun b => tag b = 98 ∧ lo ≤ b) w8 wc) (c1 : wc.cell? ⟨ga, 0, none⟩ = some (.slice (some ⟨g0, 0, none⟩) R.N R.N)) (c2 : wc.cell? ⟨gb, 0, none⟩ = some (.slice (some ⟨g1, 0, none⟩) R.N R.N)) :
    Say6 tag0 w rg av R own k b4 v xs (.pointer (some ⟨ga, 0, none⟩)) (.pointer (some ⟨gb, 0, none⟩)) wc :=
  ⟨wc, tag, P, ga, gb, g0, g1, rfl, rfl, rfl, c1, c2, h.1.loose hc, h.2.1.loose hc (fun b hb => by have := hv b hb; omega) hw, hb.chg hc (fun hn => by omega), ht, hge, h.2.2.1.loose hc, h.2.2.2.loose hc⟩
theorem ba1 {w5 w' : World} (h : Below w5.heap.size w5 w') (o : Obj) : Below w5.heap.size w5 (w'.alloc o) := h.alloc h.size o
theorem pre1 {S : Nat → Prop} {w4 w8 : World} (h : Chg S ((w4.alloc (.cells #[Value.slice none 0 0] 34)).drew) w8) (hS : ∀ b, w4.heap.size ≤ b → ¬ S b) : w8.cell? ⟨w4.heap.size, 0, none⟩ = some (.slice none 0 0) ∧ w8.frozen? ⟨w4.heap.size, 0, none⟩ = false ∧ w4.heap.size < w8.heap.size := by
  have hb : Blk ((w4.alloc (.cells #[Value.slice none 0 0] 34)).drew) w4.heap.size 34 #[Value.slice none 0 0] := (Blk.new w4 _ _).drew
  have h2 := hb.chg h (hS _ (Nat.le_refl _))
  exact ⟨h2.cell 0, h2.frozen 0, h2.lt⟩
theorem pre2 {S : Nat → Prop} {w4 w8 : World} (h : Chg S (((w4.alloc (.cells #[Value.slice none 0 0] 34)).alloc (.cells #[Value.slice none 0 0] 34)).drew) w8) (hS : ∀ b, w4.heap.size ≤ b → ¬ S b) : w8.cell? ⟨w4.heap.size, 0, none⟩ = some (.slice none 0 0) ∧ w8.frozen? ⟨w4.heap.size, 0, none⟩ = false ∧ w8.cell? ⟨w4.heap.size + 1, 0, none⟩ = some (.slice none 0 0) ∧ w8.frozen? ⟨w4.heap.size + 1, 0, none⟩ = false ∧ w4.heap.size + 1 < w8.heap.size := by
  have s1 : (w4.alloc (.cells #[Value.slice none 0 0] 34)).heap.size = w4.heap.size + 1 := by simp
  have hb : Blk (((w4.alloc (.cells #[Value.slice none 0 0] 34)).alloc (.cells #[Value.slice none 0 0] 34)).drew) w4.heap.size 34 #[Value.slice none 0 0] := ((Blk.new w4 _ _).alloc _).drew
  have k1 := (Blk.new (w4.alloc (.cells #[Value.slice none 0 0] 34)) 34 #[Value.slice none 0 0]).drew
  rw [s1] at k1
  have h2 := hb.chg h (hS _ (Nat.le_refl _))
  have h3 := k1.chg h (hS _ (by omega))
  exact ⟨h2.cell 0, h2.frozen 0, h3.cell 0, h3.frozen 0, h3.lt⟩
set_option maxRecDepth 100000 in
set_option maxHeartbeats 8000000 in
theorem ringSay_any (tag0 : Nat → Nat) (rg : Nat) (av : Value) (R : RingM) (P0 : RgP) (own : Nat → Rw) (So : Nat → Prop) (oa : Option Addr) (oc : Nat) (w : World) (hR : RingAt tag0 w rg av R P0) (hO : RdRs So w oa R.N (tab R.N own)) (hSo : ∀ b, b < w.heap.size → So b → ¬ Rgs tag0 R.N b) (hoc : R.N ≤ oc)
    (hst : ∀ i, i < R.N → R.on i = true → (R.lane i).b = true ∧ 0 < (R.lane i).T ∧ (R.lane i).T ≤ 1000000) (hlen : R.sent.length ≤ 900000) :
    Calls Try.prog 33 #[.pointer (some ⟨rg, 0, none⟩), .slice oa R.N oc] w (RingSaid tag0 rg av R own w) := by
  have HR0 := Lib.hid hR
  have HO := Lib.hid hO
  have HSO := Lib.hid hSo
  have HST := Lib.hid hst
  have HLEN := Lib.hid hlen
  have h4 := hR.bd.1
  have h16 := hR.bd.2
  obtain ⟨N, hNN⟩ : ∃ N, N = R.N := ⟨_, rfl⟩
  rw [← hNN] at h4 h16 hoc ⊢
  have HN := Lib.hid hNN
  clear hR hO hSo hst hNN hlen
  go_enter Try.func33, Try.ntmps33
  go_upto_block 0 with fail
  go_cut [4] from 13 to 51 (fun s4 wx => ∃ (wc : World) (tag : Nat → Nat) (P : RgP) (g cap : Nat), wc = wx ∧ s4 = .slice (some ⟨g, 0, none⟩) N cap ∧ N ≤ cap ∧ cap ≤ maxLen ∧ RingAt tag wc rg av (R.sayK own R.N) P ∧ OutB tag0 w R.N (R.wordsM own) tag g wc)
  case first =>
    go_wp2_with fail
    go_loopw [4, 5] (fun s4 s5 wr => ∃ (k : Nat) (tag : Nat → Nat) (P : RgP) (xs : List Value) (a : Option Addr) (cap : Nat), k ≤ N ∧ s4 = .slice a k cap ∧ s5 = .int .i64 k ∧ RingAt tag wr rg av (R.sayK own k) P ∧ SayB tag0 w R.N k (R.wordsM own) tag (.slice a k cap) xs wr) (fun _ i _ => N - (intOf i).toNat)
    case atStart => exact ⟨0, tag0, P0, [], none, 0, by omega, rfl, rfl, by rw [sayK_zero]; exact HR0.out, SayB.start HR0.out.tg⟩
    case round =>
      obtain ⟨k, tag, P, xs, a, cap, hk, rfl, rfl, hr, hh⟩ := hrel
      have d0 : wr.cell? ⟨rg, 0, none⟩ = some (.int .i64 N) := by rw [HN.out]; exact hr.cells.1
      by_cases hlt : k < N
      · have hlt1 : (k : Int) < N := by omega
        have hlt0 : (0 : Int) ≤ k := by omega
        have hkR : k < R.N := by rw [← HN.out]; exact hlt
        have HRR := Lib.hid (hr.below ((Below.refl wr.heap.size wr).alloc (Nat.le_refl _) (.cells #[.slice none 0 0, .slice none 0 0, .slice none 0 0, .slice none 0 0] 101)))
        have HH := Lib.hid (hh.move (by rw [← HN.out]; exact h16) (Chg.of_below ((Below.refl wr.heap.size wr).alloc (Nat.le_refl _) (.cells #[.slice none 0 0, .slice none 0 0, .slice none 0 0, .slice none 0 0] 101)) _) (fun _ _ => rfl) (fun b hb => HRR.out.tg b hb))
        have HB4 := Lib.hid (And.intro (Blk.new wr 101 #[.slice none 0 0, .slice none 0 0, .slice none 0 0, .slice none 0 0]) (And.intro (hr.tg wr.heap.size (Nat.le_refl _)) hh.c.size))
        have HOW := Lib.hid (fun b hb => (hh.own.lt b hb).2)
        clear hr hh
        go_upto_region 5 with fail
        generalize wr.alloc (.cells #[.slice none 0 0, .slice none 0 0, .slice none 0 0, .slice none 0 0] 101) = w4 at HRR HH HB4 ⊢
        clear d0
        generalize wr.heap.size = b4 at HB4 HOW ⊢
        have hws : w.heap.size ≤ w4.heap.size := HH.out.c.size
        have hb4l : b4 < w4.heap.size := HB4.out.1.lt
        have d6 : w4.cell? ⟨rg, 6, none⟩ = some (.slice (some ⟨P.og, 0, none⟩) N N) := by rw [HN.out]; exact HRR.out.cells.2.2.2.2.2.2.1
        have dog : w4.cell? ⟨P.og, k, none⟩ = some (.bool (R.on k)) := HRR.out.on_ hkR
        obtain ⟨ronk, hronk⟩ : ∃ ronk, ronk = R.on k := ⟨_, rfl⟩
        rw [← hronk] at dog
        have HRONK := Lib.hid hronk
        clear hronk
        cases ronk with
        | false =>
          obtain ⟨hp1, hp2, -⟩ := HB4.out.1.whole (n := 4) (l := [.slice none 0 0, .slice none 0 0, .slice none 0 0, .slice none 0 0]) rfl
          have HW : Hid (∀ q, R.wordsM own k q = []) := Lib.hid fun q => by unfold RingM.wordsM RingM.word; rw [← HRONK.out]; rfl
          go_wp2_with (at_builtin; refine wpList_lies app_w4 (by rfl) (.tmp 48) (.tmp 50) (by rfl) w.heap.size _ _ _ (by rfl) (HH.out.own.alloc _) ⟨w4.heap.size, 0, none⟩ 1 1 [.slice none 0 0, .slice none 0 0, .slice none 0 0, .slice none 0 0] (by rfl) (by simp) (hasRow_new w4 _ _ 0 4 (by simp)) (rowOf_new w4 _ _ 0 4 (by simp)) (by rfl) (by omega) (by omega) (by simp; omega) ?_; intro gg cp w9 hown1 hgrow hlie; have H9 := Lib.hid (And.intro (HRR.out.grow hgrow HH.out.tv) (HH.out.push (by rw [← HN.out]; exact h16) (us := [.slice none 0 0, .slice none 0 0, .slice none 0 0, .slice none 0 0]) rfl (fun q hq => ⟨.slice none 0 0, by (have hc : q = 0 ∨ q = 1 ∨ q = 2 ∨ q = 3 := by omega); rcases hc with rfl | rfl | rfl | rfl <;> rfl, by rw [HW.out]; exact wdAt_nil _ _⟩) hgrow hown1 hlie)); clear hown1 hgrow hlie)
          exact ⟨⟨k + 1, tag, P, _, _, _, by omega, rfl, by go_num, by rw [sayK_off HRONK.out.symm]; exact H9.out.1, H9.out.2⟩, by simp [intOf]; omega⟩
        | true =>
          go_upto_region 6 with fail
          go_cut [7, 8] from 28 to 42 (fun s7 s8 wx => Say6 tag0 w rg av R own k b4 (.slice a k cap) xs s7 s8 wx)
          case first =>
            obtain ⟨ob, ooff, x, m, cp, row, rfl, hSob, hobl, hrow, hrok, hrl, hrc1, hr1, hr2, hr3, hr4, hr5, hr6, hr7⟩ := HO.out.at_ k hkR
            have hrk : row = own k := by rw [tab_at hkR] at hrow; exact (Option.some.inj hrow).symm
            subst hrk
            obtain ⟨rv, hrv⟩ : ∃ rv, rv = (own k).vals (.slice x m cp) := ⟨_, rfl⟩
            have hr2' : rowOf w ⟨ob, ooff + k * 57, none⟩ 57 = rv := by rw [hrv]; exact hr2
            have hNT : ∀ b, w4.heap.size ≤ b → ¬ tag b = k + 1 := fun b hb => by rw [HRR.out.tg b hb]; omega
            have HNT := Lib.hid hNT
            have hobt : tag ob ≠ k + 1 := fun e => by
              rw [HH.out.lo ob hobl] at e
              exact HSO.out ob hobl hSob ⟨by omega, by omega⟩
            have F : Hid (∀ w' : World, Chg (fun b => tag b = k + 1) w4 w' → (w'.cell? ⟨rg, 5, none⟩ = some (.slice (some ⟨P.gl, 0, none⟩) N P.lc) ∧ w'.cell? ⟨P.gl, k, none⟩ = some (.pointer (some ⟨P.p k, 0, none⟩)) ∧ hasRow w' ⟨ob, ooff + k * 57, none⟩ 57 = true ∧ rowOf w' ⟨ob, ooff + k * 57, none⟩ 57 = rv)) := Lib.hid fun w' hc => by
              obtain ⟨cur, l1, -⟩ := HRR.out.l
              have e1 := hc.cell (p := ⟨rg, 5, none⟩) HRR.out.b.lt (by show ¬ tag rg = _; rw [HRR.out.tr]; show ¬ R.N + 1 = _; omega)
              have e2 := hc.cell (p := ⟨P.gl, k, none⟩) l1.lt (by show ¬ tag P.gl = _; rw [HRR.out.tl]; show ¬ R.N + 1 = _; omega)
              have r1 := row_chg HH.out.c (p := ⟨ob, ooff + k * 57, none⟩) hobl (HSO.out ob hobl hSob) 57
              have r2 := row_chg hc (p := ⟨ob, ooff + k * 57, none⟩) (by show ob < _; omega) hobt 57
              exact ⟨e1.trans (by rw [HN.out]; exact HRR.out.cells.2.2.2.2.2.1), e2.trans (HRR.out.lane_ hkR), r2.1.trans (r1.1.trans hr1), r2.2.trans (r1.2.trans hr2')⟩
            have hrow4 : RowR (fun b => So b ∧ b < w.heap.size) w4 (own k) (.slice x m cp) := by
              have h0 : RowR So w (own k) (.slice x m cp) := ⟨x, m, cp, rfl, hr5, hr6, hr7⟩
              exact (h0.mono (S' := fun b => So b ∧ b < w.heap.size) fun b hb hs => ⟨hs, hb⟩).keep HH.out.c.size fun b hb hl => HH.out.c.block b hl (HSO.out b hb.2 hb.1)
            have HCS : Hid (∀ wA : World, Below w4.heap.size w4 wA → Calls Try.prog 22 #[.pointer (some ⟨P.p k, 0, none⟩), .agg rv.toArray] wA (SayN tag R own k P wA)) := Lib.hid fun wA hB => by
              obtain ⟨s1, s2, s3⟩ := HST.out k hkR HRONK.out.symm
              rw [hrv]
              exact say_node HRR.out hkR s1 s2 (by omega) hrok hB (hrow4.below hB) (fun b hb e => by
                rw [HH.out.lo b hb.2] at e
                exact HSO.out b hb.2 hb.1 ⟨by omega, by omega⟩)
            have hrvl : rv.length = 57 := by rw [hrv]; exact Rw.len hrok _
            have hz40 : w4.heap.size ≤ w4.heap.size := Nat.le_refl _
            have hz41 : w4.heap.size ≤ w4.heap.size + 1 := by omega
            clear hr1 hr2 hr2' hr3 hr4 hr5 hr6 hr7 hrow hrl hrc1 hrok hrow4 hSob hrv hNT hobt d6 dog
            go_region_held3 (fun w' => (w'.cell? ⟨rg, 5, none⟩ = some (.slice (some ⟨P.gl, 0, none⟩) N P.lc) ∧ w'.cell? ⟨P.gl, k, none⟩ = some (.pointer (some ⟨P.p k, 0, none⟩)) ∧ hasRow w' ⟨ob, ooff + k * 57, none⟩ 57 = true ∧ rowOf w' ⟨ob, ooff + k * 57, none⟩ 57 = rv))
              (((with_reducible refine F.out _ ?_); repeat' (with_reducible first | exact Chg.refl _ _ | exact HC8.out | refine Chg.drew ?_ | refine cal ?_ _ | refine csc hz40 ?_ _ | refine csc hz41 ?_ _ | refine csc hz8 ?_ _ | refine csc hz81 ?_ _)))
              ((first
                | ((with_reducible refine (HCS.out (w4.drew) (Below.refl _ _).drew).mono ?_); rintro e w8 ⟨m8, g0, g1, rfl, h81, h82, h83, h84, h85, h86, h87⟩; obtain ⟨tag8, P8, q1, q2, q3, q4, q5⟩ := say_round HRR.out HH.out hkR HRONK.out.symm (HST.out k hkR HRONK.out.symm).1 (Below.refl _ _).drew h81 h82 h83 h84 h85 h86 h87; have HT4 : Hid (tag8 b4 = 98) := Lib.hid ((q5 b4 (Nat.lt_of_lt_of_le hb4l (show Below w4.heap.size w4 _ from (Below.refl _ _).drew).size)).trans HB4.out.2.1); have H8 := Lib.hid (And.intro q1 (And.intro q2 (And.intro q3 q4))); have HC8 := Lib.hid ((Chg.of_below (Below.refl _ _).drew (fun b => tag b = k + 1)).trans h87); have hz8 : w4.heap.size ≤ w8.heap.size := HC8.out.size; have hz81 : w4.heap.size ≤ w8.heap.size + 1 := Nat.le_succ_of_le hz8; clear h81 h82 h83 h84 h85 h86 h87 q1 q2 q3 q4 q5)
                | ((with_reducible refine (HCS.out ((w4.alloc (.cells #[Value.slice none 0 0] 34)).drew) (ba1 (Below.refl _ _) _).drew).mono ?_); rintro e w8 ⟨m8, g0, g1, rfl, h81, h82, h83, h84, h85, h86, h87⟩; obtain ⟨tag8, P8, q1, q2, q3, q4, q5⟩ := say_round HRR.out HH.out hkR HRONK.out.symm (HST.out k hkR HRONK.out.symm).1 (ba1 (Below.refl _ _) _).drew h81 h82 h83 h84 h85 h86 h87; have HT4 : Hid (tag8 b4 = 98) := Lib.hid ((q5 b4 (Nat.lt_of_lt_of_le hb4l (show Below w4.heap.size w4 _ from (ba1 (Below.refl _ _) _).drew).size)).trans HB4.out.2.1); have H8 := Lib.hid (And.intro q1 (And.intro q2 (And.intro q3 q4))); have HC8 := Lib.hid ((Chg.of_below (ba1 (Below.refl _ _) _).drew (fun b => tag b = k + 1)).trans h87); have hz8 : w4.heap.size ≤ w8.heap.size := HC8.out.size; have hz81 : w4.heap.size ≤ w8.heap.size + 1 := Nat.le_succ_of_le hz8; obtain ⟨c1, z1, l1⟩ := pre1 h87 HNT.out; have h98a : tag8 w4.heap.size = 98 := (q5 _ (by first | (simp; done) | (simp; omega))).trans (HRR.out.tg _ (Nat.le_refl _)); clear h81 h82 h83 h84 h85 h86 h87 q1 q2 q3 q4 q5)
                | ((with_reducible refine (HCS.out (((w4.alloc (.cells #[Value.slice none 0 0] 34)).alloc (.cells #[Value.slice none 0 0] 34)).drew) (ba1 (ba1 (Below.refl _ _) _) _).drew).mono ?_); rintro e w8 ⟨m8, g0, g1, rfl, h81, h82, h83, h84, h85, h86, h87⟩; obtain ⟨tag8, P8, q1, q2, q3, q4, q5⟩ := say_round HRR.out HH.out hkR HRONK.out.symm (HST.out k hkR HRONK.out.symm).1 (ba1 (ba1 (Below.refl _ _) _) _).drew h81 h82 h83 h84 h85 h86 h87; have HT4 : Hid (tag8 b4 = 98) := Lib.hid ((q5 b4 (Nat.lt_of_lt_of_le hb4l (show Below w4.heap.size w4 _ from (ba1 (ba1 (Below.refl _ _) _) _).drew).size)).trans HB4.out.2.1); have H8 := Lib.hid (And.intro q1 (And.intro q2 (And.intro q3 q4))); have HC8 := Lib.hid ((Chg.of_below (ba1 (ba1 (Below.refl _ _) _) _).drew (fun b => tag b = k + 1)).trans h87); have hz8 : w4.heap.size ≤ w8.heap.size := HC8.out.size; have hz81 : w4.heap.size ≤ w8.heap.size + 1 := Nat.le_succ_of_le hz8; obtain ⟨c1, z1, c2, z2, l1⟩ := pre2 h87 HNT.out; have h98a : tag8 w4.heap.size = 98 := (q5 _ (by first | (simp; done) | (simp; omega))).trans (HRR.out.tg _ (Nat.le_refl _)); have h98b : tag8 (w4.heap.size + 1) = 98 := (q5 _ (by first | (simp; done) | (simp; omega))).trans (HRR.out.tg _ (by omega)); clear h81 h82 h83 h84 h85 h86 h87 q1 q2 q3 q4 q5)))
            all_goals go_wp2_with fail
            all_goals go_meet
            all_goals (
              refine say6_of H8.out HOW.out hb4l hws (HB4.out.1.chg HC8.out (by rw [HB4.out.2.1]; omega)) HT4.out HB4.out.2.2 ?_ ?_ ?_
              · first
                  | exact cal (cal (Chg.refl _ _) _) _
                  | exact cal (csl (p := ⟨w4.heap.size, 0, none⟩) ⟨h98a, hz40⟩ (Chg.refl _ _) _) _
                  | exact csl (p := ⟨w4.heap.size + 1, 0, none⟩) ⟨h98b, hz41⟩ (csl (p := ⟨w4.heap.size, 0, none⟩) ⟨h98a, hz40⟩ (Chg.refl _ _) _) _
                  | exact csl (p := ⟨w4.heap.size, 0, none⟩) ⟨h98a, hz40⟩ (csl (p := ⟨w4.heap.size + 1, 0, none⟩) ⟨h98b, hz41⟩ (Chg.refl _ _) _) _
              · first | (go_simp; done) | (simp; done) | (simp [*]; done)
              · first | (go_simp; done) | (simp; done) | (simp [*]; done))
          case rest =>
            obtain ⟨wc, tag', P', ga, gb, g0, g1, rfl, rfl, rfl, cga, cgb, hr, hh, hb4, ht4, hge4, hw0, hw1⟩ := hcut
            clear d6 dog HRR HH HB4
            have HR2 := Lib.hid hr
            have HH2 := Lib.hid hh
            have HW2 := Lib.hid (And.intro hb4 (And.intro ht4 (And.intro hw0 hw1)))
            have hcp := (hb4.whole (n := 4) (l := [.slice none 0 0, .slice none 0 0, .slice none 0 0, .slice none 0 0]) rfl).2.2
            have hws2 : w.heap.size ≤ wc.heap.size := hh.c.size
            clear hr hh hb4 ht4 hw0 hw1
            go_upto_region 8 with fail
            have hc98 : Chg (fun b => tag' b = 98 ∧ b4 ≤ b) wc (putRow wc ⟨b4, 0, none⟩ [.slice (some ⟨g0, 0, none⟩) R.N R.N, .slice (some ⟨g0, 0, none⟩) R.N R.N, .slice (some ⟨g1, 0, none⟩) R.N R.N, .slice (some ⟨g1, 0, none⟩) R.N R.N]) := (Chg.refl _ _).put (p := ⟨b4, 0, none⟩) (.inl ⟨HW2.out.2.1, Nat.le_refl _⟩) _
            have HR3 := Lib.hid (HR2.out.loose hc98)
            have HH3 := Lib.hid (HH2.out.loose hc98 HOW.out hge4)
            have HW3 := Lib.hid (And.intro (HW2.out.2.2.1.loose hc98) (HW2.out.2.2.2.loose hc98))
            have HB7 := Lib.hid (HW2.out.1.put_all (l := [.slice (some ⟨g0, 0, none⟩) R.N R.N, .slice (some ⟨g0, 0, none⟩) R.N R.N, .slice (some ⟨g1, 0, none⟩) R.N R.N, .slice (some ⟨g1, 0, none⟩) R.N R.N]) rfl)
            generalize putRow wc ⟨b4, 0, none⟩ [.slice (some ⟨g0, 0, none⟩) R.N R.N, .slice (some ⟨g0, 0, none⟩) R.N R.N, .slice (some ⟨g1, 0, none⟩) R.N R.N, .slice (some ⟨g1, 0, none⟩) R.N R.N] = w7 at hc98 HR3 HH3 HW3 HB7 ⊢
            clear hc98 hcp cga cgb HR2 HH2 HW2
            have hws7 : w.heap.size ≤ w7.heap.size := HH3.out.c.size
            obtain ⟨hp1, hp2, -⟩ := HB7.out.whole (n := 4) rfl
            go_wp2_with (at_builtin; refine wpList_lies app_w4 (by rfl) (.tmp 48) (.tmp 50) (by rfl) w.heap.size _ _ _ (by rfl) (HH3.out.own.alloc _) ⟨w7.heap.size, 0, none⟩ 1 1 [.slice (some ⟨g0, 0, none⟩) R.N R.N, .slice (some ⟨g0, 0, none⟩) R.N R.N, .slice (some ⟨g1, 0, none⟩) R.N R.N, .slice (some ⟨g1, 0, none⟩) R.N R.N] (by rfl) (by simp) (hasRow_new w7 _ _ 0 4 (by simp)) (rowOf_new w7 _ _ 0 4 (by simp)) (by rfl) (by omega) (by omega) (by simp; omega) ?_; intro gg cp w9 hown1 hgrow hlie; have H9 := Lib.hid (And.intro (HR3.out.grow hgrow HH3.out.tv) (HH3.out.push (by rw [← HN.out]; exact h16) (us := [.slice (some ⟨g0, 0, none⟩) R.N R.N, .slice (some ⟨g0, 0, none⟩) R.N R.N, .slice (some ⟨g1, 0, none⟩) R.N R.N, .slice (some ⟨g1, 0, none⟩) R.N R.N]) rfl (fun q hq => by (have hc : q = 0 ∨ q = 1 ∨ q = 2 ∨ q = 3 := by omega); rcases hc with rfl | rfl | rfl | rfl; exact ⟨_, rfl, HW3.out.1⟩; exact ⟨_, rfl, HW3.out.1⟩; exact ⟨_, rfl, HW3.out.2⟩; exact ⟨_, rfl, HW3.out.2⟩) hgrow hown1 hlie)); clear hown1 hgrow hlie)
            exact ⟨⟨k + 1, tag', P', _, _, _, by omega, rfl, by go_num, H9.out.1, H9.out.2⟩, by simp [intOf]; omega⟩
      · have hlt1 : ¬ (k : Int) < N := by omega
        have hkN : k = N := by omega
        subst hkN
        have HE : Hid (∃ g c, Value.slice a k cap = .slice (some ⟨g, 0, none⟩) k c ∧ k ≤ c ∧ c ≤ maxLen ∧ RingAt tag wr rg av (R.sayK own R.N) P ∧ OutB tag0 w R.N (R.wordsM own) tag g wr) := Lib.hid (by
          rw [HN.out] at hr hh ⊢
          obtain ⟨g, c, q1, q2, q3, q4⟩ := hh.out (by rw [← HN.out]; omega)
          exact ⟨g, c, q1, q2, q3, hr, q4⟩)
        clear hr hh
        go_wp2_with fail
        go_meet
        obtain ⟨g, c, q1, q2, q3, q4, q5⟩ := HE.out
        exact ⟨_, tag, P, g, c, rfl, q1, q2, q3, q4, q5⟩
  case rest =>
    obtain ⟨wc, tag, P, g, cap, rfl, rfl, hc1, hc2, hr, ho⟩ := hcut
    have HRC := Lib.hid hr
    have HOC := Lib.hid ho
    have HCM := Lib.hid hc2
    clear hr ho HO
    go_wp2_with fail
    go_loopw [9] (fun s9 wr => ∃ (i : Nat) (tag : Nat → Nat) (P : RgP), i ≤ N ∧ s9 = .int .i64 i ∧ RingAt tag wr rg av (R.sayK own R.N) P ∧ OutB tag0 w R.N (R.outK own i 0) tag g wr) (fun i _ => N - (intOf i).toNat)
    case atStart => exact ⟨0, tag, P, by omega, rfl, HRC.out, by rw [outK_zero]; exact HOC.out⟩
    case round =>
      clear HRC HOC
      clear tag P
      obtain ⟨i, tag, P, hi, rfl, hr, ho⟩ := hrel
      have d0 : wr.cell? ⟨rg, 0, none⟩ = some (.int .i64 N) := by rw [HN.out]; exact hr.cells.1
      unfold maxLen at hc2
      by_cases hlt : i < N
      · have hlt1 : (i : Int) < N := by omega
        have hlt0 : (0 : Int) ≤ i := by omega
        have hiR : i < R.N := by rw [← HN.out]; exact hlt
        obtain ⟨u0, e0, hw0⟩ := ho.cell (j := i) (q := 0) hiR (by omega)
        obtain ⟨u2, e2, hw2⟩ := ho.cell (j := i) (q := 2) hiR (by omega)
        have q0 : R.outK own i 0 i 0 = R.word own i 0 := by unfold RingM.outK; rw [if_neg (by omega)]; rfl
        have q2 : R.outK own i 0 i 2 = R.word own i 2 := by unfold RingM.outK; rw [if_neg (by omega)]; rfl
        rw [q0] at hw0
        rw [q2] at hw2
        obtain ⟨a0, n0, m0, rfl, hx0⟩ := hw0
        obtain ⟨a2, n2, m2, rfl, hx2⟩ := hw2
        rw [Nat.add_zero] at e0
        have HB := Lib.hid (((Below.refl wr.heap.size wr).alloc (Nat.le_refl _) (.cells #[.slice a0 n0 m0] 34)).alloc (by simp) (.cells #[.slice a2 n2 m2] 34))
        have hsw : wr.heap.size < ((wr.alloc (.cells #[.slice a0 n0 m0] 34)).alloc (.cells #[.slice a2 n2 m2] 34)).heap.size ∧ wr.heap.size + 1 < ((wr.alloc (.cells #[.slice a0 n0 m0] 34)).alloc (.cells #[.slice a2 n2 m2] 34)).heap.size := by simp; omega
        have HR2 := Lib.hid (hr.below HB.out)
        have HO2 := Lib.hid (ho.below HB.out (fun _ _ => rfl) HR2.out.tg)
        have HX := Lib.hid (And.intro (WdAt.loose (tag := tag) (lo := wr.heap.size) (w8 := wr) ⟨a0, n0, m0, rfl, hx0⟩ ((Chg.of_below HB.out _))) (WdAt.loose (tag := tag) (lo := wr.heap.size) (w8 := wr) ⟨a2, n2, m2, rfl, hx2⟩ ((Chg.of_below HB.out _))))
        have hglt0 := ho.lt
        have k0 : Blk ((wr.alloc (.cells #[.slice a0 n0 m0] 34)).alloc (.cells #[.slice a2 n2 m2] 34)) wr.heap.size 34 #[.slice a0 n0 m0] := (Blk.new _ _ _).alloc _
        have k1 := Blk.new (wr.alloc (.cells #[.slice a0 n0 m0] 34)) 34 #[.slice a2 n2 m2]
        rw [show (wr.alloc (.cells #[.slice a0 n0 m0] 34)).heap.size = wr.heap.size + 1 from by simp] at k1
        have HK := Lib.hid (And.intro k0 k1)
        clear hr ho hx0 hx2 k0 k1 q0 q2
        go_upto_region 14 with fail
        generalize ((wr.alloc (.cells #[.slice a0 n0 m0] 34)).alloc (.cells #[.slice a2 n2 m2] 34)) = w2 at HB hsw HR2 HO2 HX HK ⊢
        clear HB d0 e0 e2
        generalize wr.heap.size = ga at hsw HK hglt0 ⊢
        clear wr
        go_wp2_with fail
        go_loopw [12] (fun s12 wq => ∃ (k : Nat) (tag : Nat → Nat) (P : RgP), k ≤ 4 ∧ s12 = .int .i64 k ∧ RingAt tag wq rg av (R.sayK own R.N) P ∧ OutB tag0 w R.N (R.outK own i k) tag g wq ∧ wq.cell? ⟨ga, 0, none⟩ = some (.slice a0 n0 m0) ∧ wq.cell? ⟨ga + 1, 0, none⟩ = some (.slice a2 n2 m2) ∧ WdAt (Sn tag wq) wq (.slice a0 n0 m0) (R.word own i 0) ∧ WdAt (Sn tag wq) wq (.slice a2 n2 m2) (R.word own i 2) ∧ ga < wq.heap.size ∧ ga + 1 < wq.heap.size) (fun k _ => 4 - (intOf k).toNat)
        case atStart => exact ⟨0, tag, P, by omega, rfl, HR2.out, HO2.out, HK.out.1.cell 0, HK.out.2.cell 0, HX.out.1, HX.out.2, hsw.1, hsw.2⟩
        case round =>
          obtain ⟨k, tagq, Pq, hk, rfl, hrq, hoq, cqa, cqb, hv0, hv2, hgal, hgbl⟩ := hrel
          have HRQ := Lib.hid hrq
          have HOQ := Lib.hid hoq
          have HV0 := Lib.hid hv0
          have HV2 := Lib.hid hv2
          have hglt := hoq.lt
          have hgag : ¬ ga = g := by omega
          have hgbg : ¬ ga + 1 = g := by omega
          clear hrq hoq hv0 hv2
          by_cases hk4 : k < 4
          · have hk41 : (k : Int) < 4 := by omega
            have hk40 : (0 : Int) ≤ k := by omega
            obtain ⟨uold, cgk, -⟩ := HOQ.out.cell (j := i) (q := k) hiR hk4
            have zgk := HOQ.out.frozen (i * 4 + k)
            by_cases hk2 : k < 2
            · have hk21 : (k : Int) < 2 := by omega
              have HOM : Hid (R.outM own i k = R.saidM i k (R.word own i 0) (R.word own i 2)) := Lib.hid (by unfold RingM.outM; rw [if_pos hk2])
              have HSD : Hid (∀ w' : World, Below wr.heap.size wr w' → Calls Try.prog 62 #[.pointer (some ⟨rg, 0, none⟩), .int .i64 i, .int .i64 k, .agg #[.slice a0 n0 m0], .agg #[.slice a2 n2 m2]] w' (SaidPost (Sn tagq wr) (R.saidM i k (R.word own i 0) (R.word own i 2)) w')) := Lib.hid fun w' hb => said_node HRQ.out (by have := HLEN.out; omega) hiR hk4 hb HV0.out HV2.out (word_len (by rw [(HR0.out.la i hiR).2.1]; exact HR0.out.bd.2) _)
              go_upto_region 18 with fail
              go_region_law (first
                | (go_simp; go_at_call 62; (with_reducible refine (HSD.out _ (Below.refl _ _).drew).mono ?_); rintro e w6 ⟨u6, rfl, hu6, hb6⟩; have H6 := Lib.hid ((Below.refl wr.heap.size wr).drew.trans hb6); have HU6 := Lib.hid hu6; obtain ⟨xa, xn, xc, rfl, -⟩ := hu6; have c6 := (H6.out.cell (p := ⟨g, i * 4 + k, none⟩) hglt).trans cgk; have z6 := (H6.out.frozen (p := ⟨g, i * 4 + k, none⟩) hglt).trans zgk; clear hb6))
              all_goals go_wp2_with fail
              all_goals (
                obtain ⟨tag6, r6, o6, v6⟩ := out_round HRQ.out HOQ.out hiR hk4 H6.out (by rw [HOM.out]; exact HU6.out)
                exact ⟨⟨k + 1, tag6, Pq, by omega, by go_num, r6, o6, (Chg.cell ((Chg.of_below H6.out (· = g)).set_at _ _) (p := ⟨ga, 0, none⟩) hgal hgag).trans cqa, (Chg.cell ((Chg.of_below H6.out (· = g)).set_at _ _) (p := ⟨ga + 1, 0, none⟩) hgbl hgbg).trans cqb, v6 HV0.out, v6 HV2.out, by simp; exact Nat.lt_of_lt_of_le hgal H6.out.size, by simp; exact Nat.lt_of_lt_of_le hgbl H6.out.size⟩, by simp [intOf]; omega⟩)
            · have hk21 : ¬ (k : Int) < 2 := by omega
              have HOM : Hid (R.outM own i k = R.saidM i k (R.word own i 2) (R.word own i 0)) := Lib.hid (by unfold RingM.outM; rw [if_neg hk2])
              have HSD : Hid (∀ w' : World, Below wr.heap.size wr w' → Calls Try.prog 62 #[.pointer (some ⟨rg, 0, none⟩), .int .i64 i, .int .i64 k, .agg #[.slice a2 n2 m2], .agg #[.slice a0 n0 m0]] w' (SaidPost (Sn tagq wr) (R.saidM i k (R.word own i 2) (R.word own i 0)) w')) := Lib.hid fun w' hb => said_node HRQ.out (by have := HLEN.out; omega) hiR hk4 hb HV2.out HV0.out (word_len (by rw [(HR0.out.la i hiR).2.1]; exact HR0.out.bd.2) _)
              go_upto_region 19 with fail
              go_region_law (first
                | (go_simp; go_at_call 62; (with_reducible refine (HSD.out _ (Below.refl _ _).drew).mono ?_); rintro e w6 ⟨u6, rfl, hu6, hb6⟩; have H6 := Lib.hid ((Below.refl wr.heap.size wr).drew.trans hb6); have HU6 := Lib.hid hu6; obtain ⟨xa, xn, xc, rfl, -⟩ := hu6; have c6 := (H6.out.cell (p := ⟨g, i * 4 + k, none⟩) hglt).trans cgk; have z6 := (H6.out.frozen (p := ⟨g, i * 4 + k, none⟩) hglt).trans zgk; clear hb6))
              all_goals go_wp2_with fail
              all_goals (
                obtain ⟨tag6, r6, o6, v6⟩ := out_round HRQ.out HOQ.out hiR hk4 H6.out (by rw [HOM.out]; exact HU6.out)
                exact ⟨⟨k + 1, tag6, Pq, by omega, by go_num, r6, o6, (Chg.cell ((Chg.of_below H6.out (· = g)).set_at _ _) (p := ⟨ga, 0, none⟩) hgal hgag).trans cqa, (Chg.cell ((Chg.of_below H6.out (· = g)).set_at _ _) (p := ⟨ga + 1, 0, none⟩) hgbl hgbg).trans cqb, v6 HV0.out, v6 HV2.out, by simp; exact Nat.lt_of_lt_of_le hgal H6.out.size, by simp; exact Nat.lt_of_lt_of_le hgbl H6.out.size⟩, by simp [intOf]; omega⟩)
          · have hk41 : ¬ (k : Int) < 4 := by omega
            have hk44 : k = 4 := by omega
            subst hk44
            have HNX := Lib.hid (outK_next R own i HOQ.out)
            go_wp2_with fail
            exact ⟨⟨i + 1, tagq, Pq, by omega, by go_num, HRQ.out, HNX.out⟩, by simp [intOf]; omega⟩
      · have hlt1 : ¬ (i : Int) < N := by omega
        have hiN : i = N := by omega
        subst hiN
        have HRE := Lib.hid hr
        have ho' : OutB tag0 w R.N (R.outM own) tag g wr := outK_out (by rw [HN.out] at ho; exact ho)
        have HOE := Lib.hid ho'
        clear hr ho ho'
        obtain ⟨s1, s2, s3⟩ := HOE.out.seal HRE.out (by rw [← HN.out]; exact hc1) HCM.out
        have HS1 := Lib.hid s1
        have HS2 := Lib.hid s2
        have HS3 := Lib.hid s3
        obtain ⟨xs, x1, x2, x3⟩ := s1.s.xs
        have HXS := Lib.hid (And.intro x1 (And.intro x2 x3))
        have hxl : xs.length ≤ 900000 := by rw [x1]; exact HLEN.out
        have HRGB := Lib.hid s1.b
        have d7 : wr.cell? ⟨rg, 7, none⟩ = some P.sv := s1.cells.2.2.2.2.2.2.2
        have HNE : Hid (∀ b, P.sv.ownBlock = some b → b ≠ rg) := Lib.hid fun b hb => (s1.sv_ne b hb).2.1
        clear s1 s2 s3 x1 x2 x3
        obtain ⟨sv, hsv⟩ : ∃ sv, sv = P.sv := ⟨_, rfl⟩
        rw [← hsv] at d7
        have HSV := Lib.hid hsv
        have HOX : Hid (wr.ownsRow 0 102 1 sv xs.length xs) := Lib.hid (by rw [hsv]; exact HXS.out.2.1)
        clear hsv
        go_wp2_with (at_builtin; refine wpList_lies app_sent (by rfl) (.tmp 102) (.tmp 104) (by rfl) 0 _ _ _ (by rfl) (HOX.out.alloc _) ⟨wr.heap.size, 0, none⟩ 1 1 [.slice (some ⟨g, 0, none⟩) i cap] (by rfl) (by simp) (hasRow_new wr _ _ 0 1 (by simp)) (rowOf_new wr _ _ 0 1 (by simp)) (by rfl) (by omega) (by omega) (by omega) ?_; intro gg cp w3 hown1 hgrow hlie; have H8 := Lib.hid (And.intro hown1 (And.intro hgrow hlie)); have hb7 := ((hgrow.block rg (by simp; exact Nat.lt_succ_of_lt HRGB.out.lt) (fun e => by rw [HSV.out] at e; exact HNE.out rg e.symm rfl)).trans (HRGB.out.alloc _)); have z7 := Blk.frozen hb7 7; have c7 := Blk.cell hb7 7; simp [ringV] at c7; clear hown1 hgrow hlie hb7)
        go_end0
        refine ⟨rfl, ?_⟩
        obtain ⟨k1, k2, k3⟩ := H8.out
        rw [HSV.out] at k2 k3
        rw [HN.out] at k1
        have hp := HS1.out.sentPush (W := R.outM own) HS2.out HXS.out.1 HXS.out.2.1 HXS.out.2.2 k2 k1 k3
        have hmono : ∀ q, tag0 q = R.N + 1 → Rgs tag0 R.N q := fun q hq => ⟨by omega, by omega⟩
        refine ⟨_, _, hp.congr rfl rfl (fun j hj => ?_) (fun _ _ => rfl) rfl, fun b hb => ?_, Chg.setCell ((HOE.out.c.alloc _).grown k2 fun q hq => ?_) (p := ⟨rg, 7, none⟩) ?_ _⟩
        · have hj' : j < R.N := hj
          show (if R.on j then (R.lane j).said (own j) else R.lane j) = if j < R.N ∧ R.on j = true then (R.lane j).said (own j) else R.lane j
          simp [hj']
        · rw [tagR_lo (by have := HOE.out.c.size; omega)]
          exact HS3.out b hb
        · by_cases hql : q < w.heap.size
          · left
            exact hmono q (by rw [← HS3.out q hql]; exact HS1.out.ts q hq)
          · right; omega
        · by_cases hql : rg < w.heap.size
          · left
            exact hmono rg (by rw [← HS3.out rg hql]; exact HS1.out.tr)
          · right; show w.heap.size ≤ rg; omega
end Go.Proofs.Ytbdklfcgcmdgaaa
