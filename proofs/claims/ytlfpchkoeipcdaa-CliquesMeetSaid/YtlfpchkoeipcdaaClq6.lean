
/-
  The clique's examples; a clique that is not there.
-/
import Derived.Test.YtlfpchkoeipcdaaClq5
namespace Go.Proofs.Ytlfpchkoeipcdaa
open Go.RowKit
set_option linter.unusedVariables false
set_option linter.unusedSimpArgs false

def exV : List Hd := [5, 5, 9, 5].map hdAge
def exV2 : List Hd := [5, 5, 9, 9].map hdAge
theorem ev5 : evenF 4 exV 5 = true := by decide
theorem ev9 : evenF 4 exV 9 = false := by decide
theorem ev2 : evenF 4 exV2 5 = false := by decide

def LvR (W : World) (H : Nat) (a : Option Addr) (long : Int) (wr : World) : Prop :=
  Blk wr W.heap.size 92 (cqCells long 8 4) ∧ RdHs (H ≤ ·) wr a 4 exV ∧ Below W.heap.size W wr ∧ W.heap.size < H
theorem lv_step (W : World) (H : Nat) (a : Option Addr) (cap : Nat) (hc : 4 ≤ cap) (hm : cap ≤ maxLen) (long c : Int) (b : Bool) (hev : evenF 4 exV c = b) (wr : World) (h : LvR W H a long wr) (h0 : 0 ≤ long) (h1 : long ≤ 100) :
    Calls Try.prog 21 #[.pointer (some ⟨W.heap.size, 0, none⟩), .slice a 4 cap, .int .i64 c] wr fun e w' => e = .returned (.bool (cqOn long 8 b == 8)) ∧ LvR W H a (cqOn long 8 b) w' := by
  obtain ⟨hb, hr, hB, hH⟩ := h
  refine (cqstep_any _ _ long 8 4 c a 4 cap exV wr hb (by omega) (by omega) h0 (by omega) (by omega) (by omega) hr hc hm).mono ?_
  rintro e w' ⟨rfl, hb', hch⟩
  rw [hev] at hb' ⊢
  exact ⟨rfl, hb', hr.chg hch (fun k _ hS hk => by omega), hB.trans (hch.below hB.size (fun k hk => by omega)), hH⟩
theorem lv_even (W : World) (H : Nat) (a : Option Addr) (cap : Nat) (hc : 4 ≤ cap) (hm : cap ≤ maxLen) (long : Int) (wr : World) (h : LvR W H a long wr) :
    Calls Try.prog 11 #[.int .i64 4, .slice a 4 cap, .int .i64 5] wr fun e w' => e = .returned (.bool true) ∧ Below W.heap.size W w' := by
  obtain ⟨hb, hr, hB, hH⟩ := h
  refine (even_all _ 4 5 a 4 cap exV wr hr hc hm).mono ?_
  rintro e w' ⟨rfl, hbl⟩
  rw [ev5]
  exact ⟨rfl, hB.trans (hbl.mono hB.size)⟩

theorem rd1_new (w : World) (vs : List Value) (t : TypeId) (g : Nat) (hg : w.heap.size = g) : Rd1 (w.alloc (.cells vs.toArray t)) (some ⟨g, 0, none⟩) vs.length vs :=
  ⟨rfl, fun k v hk => ⟨_, _, rfl, by rw [← hg, World.cell?_alloc_new, Nat.zero_add]; simpa using hk⟩⟩
theorem rd1_ex (w : World) (n0 n1 n2 n3 : Int) (t : TypeId) (g : Nat) (hg : w.heap.size = g) : Rd1 (w.alloc (.cells #[.int .i64 n0, .int .i64 n1, .int .i64 n2, .int .i64 n3] t)) (some ⟨g, 0, none⟩) 4 ([n0, n1, n2, n3].map (Value.int .i64)) :=
  rd1_new w [.int .i64 n0, .int .i64 n1, .int .i64 n2, .int .i64 n3] t g hg

set_option maxRecDepth 100000 in
set_option maxHeartbeats 1000000 in
theorem clives_any (w : World) : Calls Try.prog 9 #[] w fun e w' => e = .returned (.bool true) ∧ Below w.heap.size w w' := by
  go_enter Try.func9, Try.ntmps9
  go_wp2_with fail
  refine (cqnew_ok 4 _ (by omega) (by omega)).mono ?_
  rintro e w' ⟨rfl, rfl⟩
  go_wp2_with fail
  refine (vector_any _ 4 4 [5, 5, 9, 5] _ (rd1_ex _ 5 5 9 5 _ _ (by simp)) (by decide) (by omega)).mono ?_
  rintro e w1 ⟨a, cap, rfl, hrd, hc, hm, hbl⟩
  have hst : LvR w (w.heap.size + 1 + 1) a 0 w1 := by
    refine ⟨((Blk.new _ _ _).alloc _).below hbl (by simp; omega), hrd.mono (fun b _ h => by simp at h; omega), ?_, by omega⟩
    exact (((Below.refl _ _).alloc (Nat.le_refl _) _).alloc (by simp) _).trans (hbl.mono (by simp; omega))
  have HS := Lib.hid hst
  have hc4 : 4 ≤ cap := hc
  clear hst hrd hbl hc
  go_wp2_with fail
  go_loopw [4] (fun i wr => ∃ k : Nat, k ≤ 7 ∧ i = .int .i64 k ∧ LvR w (w.heap.size + 1 + 1) a k wr) (fun i _ => 7 - (intOf i).toNat)
  case atStart => exact ⟨0, by omega, rfl, HS.out⟩
  case round =>
    obtain ⟨k, hk, rfl, hr⟩ := hrel
    by_cases hlt : k < 7
    · have hs := lv_step w _ a cap hc4 hm k 5 true ev5 wr hr (by omega) (by omega)
      have e1 : (cqOn (k : Int) 8 true == 8) = false := by simp [cqOn]; omega
      have e2 : cqOn (k : Int) 8 true = ((k + 1 : Nat) : Int) := by simp [cqOn]; omega
      rw [e1, e2] at hs
      have H := Lib.hid hs
      clear hs hr e1 e2
      go_wp2_with fail
      refine H.out.mono ?_
      rintro e w2 ⟨rfl, hr2⟩
      have H2 := Lib.hid hr2
      clear hr2
      go_wp2
      exact ⟨⟨k + 1, by omega, by go_num, H2.out⟩, by simp [intOf]; omega⟩
    · have : k = 7 := by omega
      subst this
      have HR := Lib.hid hr
      clear hr
      go_wp2_with fail
      refine (lv_step w _ a cap hc4 hm 7 5 true ev5 wr HR.out (by omega) (by omega)).mono ?_
      rintro e w2 ⟨rfl, h2⟩
      have H2 := Lib.hid h2
      clear h2
      go_wp2_with fail
      refine (lv_step w _ a cap hc4 hm 8 5 true ev5 w2 H2.out (by omega) (by omega)).mono ?_
      rintro e w3 ⟨rfl, h3⟩
      have H3 := Lib.hid h3
      clear h3
      go_wp2_with fail
      refine (lv_step w _ a cap hc4 hm 8 9 false ev9 w3 H3.out (by omega) (by omega)).mono ?_
      rintro e w4 ⟨rfl, h4⟩
      have H4 := Lib.hid h4
      clear h4
      go_wp2_with fail
      refine (lv_step w _ a cap hc4 hm 0 5 true ev5 w4 H4.out (by omega) (by omega)).mono ?_
      rintro e w5 ⟨rfl, h5⟩
      have H5 := Lib.hid h5
      clear h5
      go_wp2_with fail
      refine (lv_even w _ a cap hc4 hm 1 w5 H5.out).mono ?_
      rintro e w6 ⟨rfl, h6⟩
      have H6 := Lib.hid h6
      clear h6
      go_wp2_with fail
      refine (vector_any _ 4 4 [5, 5, 9, 9] _ (rd1_ex _ 5 5 9 9 _ _ rfl) (by decide) (by omega)).mono ?_
      rintro e w7 ⟨a2, cap2, rfl, hrd2, hc2, hm2, hbl2⟩
      have H7 : Hid (Below w.heap.size w w7) := Lib.hid ((H6.out.alloc H6.out.size _).trans (hbl2.mono (by have := H6.out.size; simp; omega)))
      have hev := even_all _ 4 5 a2 4 cap2 exV2 w7 hrd2 hc2 hm2
      rw [ev2] at hev
      have HE := Lib.hid hev
      clear hbl2 hrd2 hc2 hev
      go_wp2_with fail
      refine HE.out.mono ?_
      rintro e w8 ⟨rfl, h8⟩
      have H8 := Lib.hid h8
      clear h8
      go_wp2
      go_ret
      exact ⟨rfl, H7.out.trans (H8.out.mono H7.out.size)⟩
end Go.Proofs.Ytlfpchkoeipcdaa
