/-
  Nets (chapter 31): the chapter's example, walked. Nets (chapter 31): a net that is not there, or that no call made; what is not in a net.
-/
import Derived.Test.YtdilbjikeilhbaaGreatDoorGe48
namespace Go.Proofs.YtdilbjikeilhbaaGreatDoor
open Go.RowKit
set_option linter.unusedVariables false
set_option linter.unusedSimpArgs false
set_option maxRecDepth 100000

section
variable {w1 : World} {A1 : CfA} {q : Nat} {nb : Nat → Nat} {mb tm lm : Nat} {sv : Value} {A : NtP} {T : NtS Nat Unit} {wr w' : World}
theorem Live31.below (h : Live31 w1 A1 q nb mb tm lm sv A T wr) (hb : Below wr.heap.size wr w') : Live31 w1 A1 q nb mb tm lm sv A T w' := by
  obtain ⟨⟨tg, ht, hx⟩, hB⟩ := h
  exact ⟨⟨_, fun b hl => (extT_ext wr tg (fun _ => 98) b (Nat.lt_of_lt_of_le hl hB.size)).trans (ht b hl), hx.below hb (extT_ext _ _ _)⟩, hB.trans (hb.mono hB.size)⟩
theorem Live31.node (h : Live31 w1 A1 q nb mb tm lm sv A T wr) {i : Nat} (hi : i < 4) : Calls Tryz.prog 15 #[.pointer (some ⟨A.b, 0, none⟩), .int .i64 i] wr fun e w' => e = .returned (.pointer (some ⟨nb i, 0, none⟩)) ∧ Live31 w1 A1 q nb mb tm lm sv A T w' := by
  have h0 := h
  obtain ⟨⟨tg, ht, hx⟩, hB⟩ := h
  obtain ⟨cur, g1, g2, g3⟩ := hx.bx.gl
  refine (node31_yes A.b A.gl 4 A.lc i (nb i) wr (hx.bx.b.cell 1) hi (by rw [g1.cell]; exact g3 i hi)).mono ?_
  rintro e w' ⟨rfl, hb⟩
  exact ⟨rfl, h0.below hb⟩
theorem Live31.look (h : Live31 w1 A1 q nb mb tm lm sv A T wr) (hT : ExT liveN 16 T) {i : Nat} (hi : i < 4) : ∃ l : List Value, (l.length = 63 ∧ l.all cell1 = true ∧ l[2]? = some (.int .i64 15) ∧ l[3]? = some (.bool true)) ∧ Calls Tryz.prog 19 #[.pointer (some ⟨nb i, 0, none⟩)] wr fun e w' => e = .returned (.agg l.toArray) ∧ Live31 w1 A1 q nb mb tm lm sv A T w' := by
  have h0 := h
  obtain ⟨⟨tg, ht, hx⟩, hB⟩ := h
  have hn := hx.nx i hi
  rw [hT.hs i hi] at hn
  obtain ⟨P, D, hPn, hPp, hX⟩ := hn
  have hOk : NdOk (NdK.new liveN i) (ntS liveN 16 i) := nt_ok liveN live_ref live_hB (by omega) (by show (i : Int) < 4; omega)
  have hka : (lookV (ntS liveN 16 i).k).all cell1 = true := by
    show (lookV (ntK liveN 16 i)).all cell1 = true
    simp only [lookV, ntK, List.all_cons, List.all_append, all_firstV]
    rfl
  obtain ⟨e1, e2⟩ := ex_end liveN live_hB live_h4 rfl hi
  refine ⟨lookV (ntS liveN 16 i).k, ⟨lookV_len hOk.hk, hka, ?_, ?_⟩, ?_⟩
  · show some (Value.int .i64 (ntS liveN 16 i).k.shows) = _
    rw [e2]
  · show some (Value.bool (ntS liveN 16 i).k.sure) = _
    rw [e1]
  · have := nlook_any hX hOk.hs hOk.hk hka
    rw [hPn] at this
    refine this.mono ?_
    rintro e w' ⟨rfl, hb⟩
    exact ⟨rfl, h0.below hb⟩
end
theorem ext0_new : ExT liveN 0 (nt0 fun j => decide (j < 4)) :=
  ⟨fun _ _ => rfl, fun i hi => by show decide (i < 4) = true; simp [hi], fun m _ => (wlB_zero liveN m).symm, rfl, rfl, rfl, fun _ => rfl⟩
theorem nt0_on (k : Nat) : ({ nt0 (fun j => decide (j < k)) with on := fun j => if j = k then true else (nt0 fun j => decide (j < k)).on j } : NtS Nat Unit) = nt0 fun j => decide (j < k + 1) := by
  show nt0 (fun j => if j = k then true else decide (j < k)) = _
  congr 1
  funext j
  by_cases h : j = k
  · subst h; simp
  · rw [if_neg h, decide_eq_decide]; omega
theorem small31_new (w : World) (hsg : SgW w) : Calls Tryz.prog 18 #[] w fun e w1 => ∃ av : List Value, e = .returned (.agg av.toArray) ∧ av.length = 13 ∧ Below w.heap.size w w1 ∧ Calls Tryz.prog 7 #[.agg av.toArray] w1 fun e w' => ∃ (A : NtP) (A1 : CfA) (q : Nat) (nb : Nat → Nat) (mb tm lm : Nat) (sv : Value),
      e = .returned (.tuple #[.pointer (some ⟨A.b, 0, none⟩), .int .i64 0]) ∧ Live31 w1 A1 q nb mb tm lm sv A (nt0 fun _ => false) w' := by
  refine (small31_any w).mono ?_
  rintro e w1 ⟨g, hg, rfl, hC, hb⟩
  exact ⟨_, rfl, rfl, hb, live31_new (liveA31 0) _ _ w1 hC (hsg.below hb)⟩
set_option maxRecDepth 100000 in
set_option maxHeartbeats 4000000 in
theorem lives31_any (w : World) (hsg : SgW w) : Calls Tryz.prog 6 #[] w fun e w' => e = .returned (.bool true) ∧ Below w.heap.size w w' := by
  have HSm := Lib.hid (small31_new w hsg)
  clear hsg
  go_enter Tryz.func6, Tryz.ntmps6
  go_wp2_with fail
  (with_reducible refine HSm.out.mono ?_)
  rintro e w1 ⟨av, rfl, hal, hb1, hN⟩
  have HN := Lib.hid hN
  have HB1 := Lib.hid hb1
  clear hN hb1 HSm
  go_wp2_with fail
  (with_reducible refine HN.out.mono ?_)
  rintro e w2 ⟨A, A1, q, nb, mb, tm, lm, sv, rfl, hL⟩
  have HL : Hid (Live31 w1 A1 q nb mb tm lm sv A (nt0 fun j => decide (j < 0)) w2) := Lib.hid (by
    rw [show (fun j => decide (j < 0)) = (fun _ : Nat => false) by funext j; simp]
    exact hL)
  clear hL HN
  go_wp2_with fail
  go_loopw [3] (fun i wr => ∃ k : Nat, k ≤ 4 ∧ i = .int .i64 k ∧ Hid (Live31 w1 A1 q nb mb tm lm sv A (nt0 fun j => decide (j < k)) wr)) (fun i _ => 4 - (intOf i).toNat)
  case atStart => exact ⟨0, by omega, rfl, HL⟩
  case round =>
    obtain ⟨k, hk, rfl, HK⟩ := hrel
    by_cases hlt : k < 4
    · have hlt' : (k : Int) < 4 := by omega
      have HP := Lib.hid (HK.out.power hlt true)
      go_wp2_with fail
      (with_reducible refine HP.out.mono ?_)
      rintro e w3 ⟨rfl, h3⟩
      rw [nt0_on k] at h3
      have H3 := Lib.hid h3
      clear h3 HP
      go_wp2_with fail
      exact ⟨⟨k + 1, by omega, by go_num, H3⟩, by simp [intOf]; omega⟩
    · obtain rfl : k = 4 := by omega
      have HR := Lib.hid (HK.out.run ext0_new)
      go_wp2_with fail
      (with_reducible refine HR.out.mono ?_)
      rintro e w3 ⟨rfl, T', hT', h3⟩
      have HT := Lib.hid hT'
      have H3 := Lib.hid h3
      clear h3 hT' HR HK
      go_wp2_with fail
      go_loopw [5] (fun i wr => ∃ k : Nat, k ≤ 4 ∧ i = .int .i64 k ∧ Hid (Live31 w1 A1 q nb mb tm lm sv A T' wr)) (fun i _ => 4 - (intOf i).toNat)
      case atStart => exact ⟨0, by omega, rfl, H3⟩
      case round =>
        obtain ⟨k, hk, rfl, HK⟩ := hrel
        by_cases hlt : k < 4
        · have hlt' : (k : Int) < 4 := by omega
          have HNd := Lib.hid (HK.out.node hlt)
          go_wp2_with fail
          (with_reducible refine HNd.out.mono ?_)
          rintro e w4 ⟨rfl, h4⟩
          obtain ⟨l, ⟨l1, l2, l3, l4⟩, hLk⟩ := h4.look HT.out hlt
          have H4 := Lib.hid h4
          have HLk := Lib.hid hLk
          have HLs := Lib.hid (And.intro l3 l4)
          clear h4 hLk l3 l4 HNd
          go_wp2_with fail
          (with_reducible refine HLk.out.mono ?_)
          rintro e w5 ⟨rfl, h5⟩
          have H5 := Lib.hid h5
          clear h5 HLk
          go_upto_region 13 with fail
          have k6 := Blk.new w5 91 l.toArray
          have c2 : (w5.alloc (.cells l.toArray 91)).cell? ⟨w5.heap.size, 2, none⟩ = some (.int .i64 15) := by rw [k6.cell, List.getElem?_toArray]; exact HLs.out.1
          have c3 : (w5.alloc (.cells l.toArray 91)).cell? ⟨w5.heap.size, 3, none⟩ = some (.bool true) := by rw [k6.cell, List.getElem?_toArray]; exact HLs.out.2
          have H6 := Lib.hid (H5.out.below (balN (Below.refl _ _) (.cells l.toArray 91)))
          clear k6
          go_wp2_with fail
          exact ⟨⟨k + 1, by omega, by go_num, H6⟩, by simp [intOf]; omega⟩
        · obtain rfl : k = 4 := by omega
          have c7 : wr.cell? ⟨A.b, 7, none⟩ = some (.int .i64 16) := by
            obtain ⟨⟨tg, ht, hx⟩, hB⟩ := HK.out
            have := hx.bx.b.cell 7
            rw [HT.out.ht] at this
            exact this
          have HTk := Lib.hid (ticks31_any A.b 16 wr c7)
          go_wp2_with fail
          (with_reducible refine HTk.out.mono ?_)
          rintro e w6 ⟨rfl, h6⟩
          have H6 := Lib.hid (HB1.out.trans ((HK.out.below h6).bel.mono HB1.out.size))
          clear h6 HTk
          go_wp2_with fail
          go_ret
          exact ⟨rfl, H6.out⟩
end Go.Proofs.YtdilbjikeilhbaaGreatDoor
namespace Go.Proofs.YtdilbjikeilhbaaGreatDoor
open Go.RowKit
set_option linter.unusedVariables false
set_option linter.unusedSimpArgs false
set_option maxRecDepth 100000

def netZ31 : List Value := [.pointer none, .slice none 0 0, .slice none 0 0, .pointer none, .pointer none, .int .i64 0, .map none, .int .i64 0]
def Dead31 (w : World) (v : Value) : Prop := v = .pointer none ∨ ∃ b, v = .pointer (some ⟨b, 0, none⟩) ∧ Blk w b 56 netZ31.toArray
theorem Dead31.below {w w' : World} {v : Value} (h : Dead31 w v) (hb : Below w.heap.size w w') : Dead31 w' v := by
  rcases h with rfl | ⟨b, rfl, h⟩
  · exact .inl rfl
  · exact .inr ⟨b, rfl, h.below hb h.lt⟩
structure Dead31C (w : World) (v : Value) (x0 x1 : Int) (on : Bool) : Prop where
  last : Calls Tryz.prog 11 #[v, .int .i64 x1] w (LastZ w)
  power : Calls Tryz.prog 12 #[v, .int .i64 x0, .bool on] w fun e w' => e = .returned (.int .i64 2) ∧ Below w.heap.size w w'
  run : Calls Tryz.prog 13 #[v, .int .i64 x1] w fun e w' => e = .returned (.int .i64 2) ∧ Below w.heap.size w w'
  ticks : Calls Tryz.prog 14 #[v] w fun e w' => e = .returned (.int .i64 0) ∧ Below w.heap.size w w'
  node : Calls Tryz.prog 15 #[v, .int .i64 x0] w fun e w' => e = .returned (.pointer none) ∧ Below w.heap.size w w'
  right : Calls Tryz.prog 16 #[v, .int .i64 x0] w fun e w' => e = .returned (.bool false) ∧ Below w.heap.size w w'
  on_ : Calls Tryz.prog 17 #[v, .int .i64 x0] w fun e w' => e = .returned (.bool false) ∧ Below w.heap.size w w'
theorem Dead31.calls {w : World} {v : Value} (h : Dead31 w v) (x0 x1 : Int) (on : Bool) : Dead31C w v x0 x1 on := by
  have hn : NoI w v x0 := by
    rcases h with rfl | ⟨b, rfl, h⟩
    · exact .inl rfl
    · exact .inr ⟨b, none, 0, 0, rfl, h.cell 1, by omega⟩
  have hd : v = .pointer none ∨ ∃ b, v = .pointer (some ⟨b, 0, none⟩) ∧ w.cell? ⟨b, 0, none⟩ = some (.pointer none) := by
    rcases h with rfl | ⟨b, rfl, h⟩
    · exact .inl rfl
    · exact .inr ⟨b, rfl, h.cell 0⟩
  refine ⟨?_, power31_dead hd x0 on, (callsIn_wide (n := 5)).1 (run31_deadin hd x1), ?_, node31_no hn, right31_no hn, on31_no hn⟩
  · rcases h with rfl | ⟨b, rfl, h⟩
    · exact last31_nil x1 w
    · exact last31_no b none x1 w (h.cell 6) fun w' _ => lk_nilP x1 w'
  · rcases h with rfl | ⟨b, rfl, h⟩
    · exact ticks31_nil w
    · exact ticks31_any b 0 w (h.cell 7)
structure Real31C (w : World) (b : Nat) (x0 : Int) (on : Bool) : Prop where
  last : Calls Tryz.prog 11 #[.pointer (some ⟨b, 0, none⟩), .int .i64 x0] w (LastZ w)
  power : Calls Tryz.prog 12 #[.pointer (some ⟨b, 0, none⟩), .int .i64 x0, .bool on] w fun e w' => e = .returned (.int .i64 1) ∧ Below w.heap.size w w'
  runM : Calls Tryz.prog 13 #[.pointer (some ⟨b, 0, none⟩), .int .i64 (-1)] w fun e w' => e = .returned (.int .i64 1) ∧ Below w.heap.size w w'
  runG : Calls Tryz.prog 13 #[.pointer (some ⟨b, 0, none⟩), .int .i64 65537] w fun e w' => e = .returned (.int .i64 3) ∧ Below w.heap.size w w'
  ticks : Calls Tryz.prog 14 #[.pointer (some ⟨b, 0, none⟩)] w fun e w' => e = .returned (.int .i64 0) ∧ Below w.heap.size w w'
  node : Calls Tryz.prog 15 #[.pointer (some ⟨b, 0, none⟩), .int .i64 x0] w fun e w' => e = .returned (.pointer none) ∧ Below w.heap.size w w'
  right : Calls Tryz.prog 16 #[.pointer (some ⟨b, 0, none⟩), .int .i64 x0] w fun e w' => e = .returned (.bool false) ∧ Below w.heap.size w w'
  on_ : Calls Tryz.prog 17 #[.pointer (some ⟨b, 0, none⟩), .int .i64 x0] w fun e w' => e = .returned (.bool false) ∧ Below w.heap.size w w'
section
variable {w1 : World} {A1 : CfA} {q : Nat} {nb : Nat → Nat} {mb tm lm : Nat} {sv : Value} {A : NtP} {wr w' : World}
theorem gvF_all {L : Nat → Option (Value × Value)} (h : ∀ k, L k = none) (i : Int) : gvF L i = none := by
  unfold gvF
  split
  · rw [h]; rfl
  · rfl
theorem Live31.calls (h : Live31 w1 A1 q nb mb tm lm sv A (nt0 fun _ => false) wr) (x0 : Int) (hx : (Lit.int .i64 x0).wf = true) (hx0 : ¬ (0 ≤ x0 ∧ x0 < 4)) (on : Bool) : Real31C wr A.b x0 on := by
  obtain ⟨⟨tg, ht, hn⟩, hB⟩ := h
  have hb := hn.bx.b
  have hno : NoI wr (.pointer (some ⟨A.b, 0, none⟩)) x0 := .inr ⟨A.b, _, 4, A.lc, rfl, hb.cell 1, hx0⟩
  have c0 : wr.cell? ⟨A.b, 0, none⟩ = some (.pointer (some ⟨A.p, 0, none⟩)) := hb.cell 0
  refine ⟨?_, power31_bad c0 hno on, ?_, ?_, ticks31_any A.b 0 wr (hb.cell 7), node31_no hno, right31_no hno, on31_no hno⟩
  · obtain ⟨⟨L, hm, hl, hg⟩, htl⟩ := hn.lx
    have hL : ∀ k, L k = none := fun k => by
      by_cases hk : k < 4 * 4
      · have := hl k hk
        cases hLk : L k with
        | none => rfl
        | some v => rw [hLk] at this; exact this.elim
      · exact hg k (by omega)
    refine last31_no A.b (some A.lst) x0 wr (hb.cell 6) fun w' hb' => ?_
    have := (hm.keep (hb'.block _ hm.lt)).look (t := 54) (e := 63) (by kernel_rfl) (by kernel_rfl) (z := .agg #[.int .u8 0, .slice none 0 0]) (by kernel_rfl) hx
    rw [gvF_all hL] at this
    exact this
  · exact (callsIn_wide (n := 5)).1 (run31_badin c0 (-1) (.inl (by omega)))
  · exact (callsIn_wide (n := 5)).1 (run31_badin c0 65537 (.inr (by omega)))
end
end Go.Proofs.YtdilbjikeilhbaaGreatDoor
