/-
  sennitref13.Norm.
-/
import Derived.Test.YtopakilglnpinaaGc09
import Derived.Test.YtopakilglnpinaaGc11
namespace Go.Proofs.Ytopakilglnpinaa
open Go.RowKit
set_option linter.unusedVariables false
set_option linter.unusedSimpArgs false

def fillO (N k : Nat) (l : List Rw) : List Rw := (l.take k).map (Rw.plain N) ++ List.replicate (k - l.length) rw0
theorem fillO_end (N : Nat) (l : List Rw) : fillO N N l = fillR N l := rfl
theorem fillO_snoc (N k : Nat) (l : List Rw) : fillO N (k + 1) l = fillO N k l ++ [match l[k]? with | some r => r.plain N | none => rw0] := by
  unfold fillO
  by_cases h : k < l.length
  · have e1 : k + 1 - l.length = 0 := by omega
    have e2 : k - l.length = 0 := by omega
    rw [e1, e2, List.take_add_one, List.getElem?_eq_getElem h]
    simp only [Option.toList_some, List.map_append, List.map_cons, List.map_nil, List.replicate_zero, List.append_nil]
  · have e1 : k + 1 - l.length = (k - l.length) + 1 := by omega
    rw [e1, List.take_of_length_le (by omega), List.take_of_length_le (by omega), List.getElem?_eq_none (by omega), List.replicate_succ']
    simp

structure NR (w : World) (sv : Value) (N : Nat) (l : List Rw) (k : Nat) (v : Value) (wr : World) : Prop where
  b0 : Blk wr w.heap.size 63 #[sv]
  b1 : Blk wr (w.heap.size + 1) 63 #[.slice none 0 0]
  b2 : Blk wr (w.heap.size + 1 + 1) 63 #[v]
  own : ∃ ps : List (Rw × Value), ps.length = k ∧ ps.map Prod.fst = fillO N k l ∧ OwnR (w.heap.size + 1 + 1 + 1) wr 74 v ps
  sz : w.heap.size + 1 + 1 + 1 ≤ wr.heap.size
  bel : Below w.heap.size w wr
theorem NR.start (w : World) (sv : Value) (N : Nat) (l : List Rw) : NR w sv N l 0 (.slice none 0 0) (((w.alloc (.cells #[sv] 63)).alloc (.cells #[.slice none 0 0] 63)).alloc (.cells #[.slice none 0 0] 63)) :=
  ⟨((Blk.new _ _ _).alloc _).alloc _, (new1 w _ [Value.slice none 0 0] _).alloc _, new2 w _ _ [Value.slice none 0 0] _, ⟨[], rfl, by simp [fillO], OwnR.nil _ _ _⟩, by simp, (((Below.refl _ _).alloc (Nat.le_refl _) _).alloc (by simp) _).alloc (by simp; omega) _⟩
/-- the end: the word is laid into the result -/
theorem NR.end_ {w : World} {sv : Value} {N k : Nat} {l L : List Rw} {v : Value} {wr : World} (h : NR w sv N l k v wr) (hL : fillO N k l = L) :
    WordPost L w (.returned (.agg #[v])) (wr.setCell ⟨w.heap.size + 1, 0, none⟩ v) ∧ (wr.setCell ⟨w.heap.size + 1, 0, none⟩ v).cell? ⟨w.heap.size + 1, 0, none⟩ = some v := by
  obtain ⟨ps, h1, h2, h3⟩ := h.own
  have h3' : OwnR (w.heap.size + 1 + 1 + 1) (wr.setCell ⟨w.heap.size + 1, 0, none⟩ v) 74 v ps := h3.keep (by simp) (fun b hb _ => Below.heap_setCell _ _ _ _ (by simp; omega))
  refine ⟨?_, (h.b1.set_ 0 v).cell 0⟩
  obtain ⟨a, cap, rfl, h4, h5, h6⟩ := h3'.rd
  have hlen : L.length = ps.length := by rw [← hL, ← h2]; simp
  rw [h2, hL] at h4
  refine ⟨a, cap, by rw [hlen], ?_, by rw [hlen]; exact h5, h6, h.bel.setCell (by simp) _⟩
  rw [hlen]
  exact h4.mono (fun b _ h => by omega)

set_option maxRecDepth 100000 in
set_option maxHeartbeats 1000000 in
theorem rnorm_no (n : Int) (hn : n < 0 ∨ 16 < n) (a : Option Addr) (len cap : Nat) (w : World) : Calls Try.prog 26 #[.int .i64 n, .agg #[.slice a len cap]] w (WordPost [] w) := by
  have hst := NR.start w (.slice a len cap) 0 []
  go_enter Try.func26, Try.ntmps26
  go_wp2_with fail
  generalize (((w.alloc (.cells #[.slice a len cap] 63)).alloc (.cells #[.slice none 0 0] 63)).alloc (.cells #[.slice none 0 0] 63)) = w0 at hst ⊢
  have f1 := hst.b1.frozen 0
  have f2 := hst.b1.cell 0
  have f3 := hst.b2.cell 0
  simp at f2 f3
  have HE := Lib.hid (hst.end_ (L := []) (by simp [fillO]))
  clear hst
  refine wp_loop_rounds 1 ?_
  rw [rounds_succ]
  rcases hn with hn | hn
  · go_wp2_with fail
    try simp only [Exit.inBlock, Exit.then]
    first | refine bodyPost_ret (ret_row (n := 1) rfl (by kernel_rfl) _ _ _ rfl ?_) rfl ?_ | refine bodyPost_end (ret_row (n := 1) rfl (by kernel_rfl) _ _ _ rfl ?_) rfl ?_
    · exact (row1 HE.out.2).1
    · rw [(row1 HE.out.2).2]; exact HE.out.1
  · have h0 : 0 < n := by omega
    go_wp2_with fail
    try simp only [Exit.inBlock, Exit.then]
    first | refine bodyPost_ret (ret_row (n := 1) rfl (by kernel_rfl) _ _ _ rfl ?_) rfl ?_ | refine bodyPost_end (ret_row (n := 1) rfl (by kernel_rfl) _ _ _ rfl ?_) rfl ?_
    · exact (row1 HE.out.2).1
    · rw [(row1 HE.out.2).2]; exact HE.out.1

theorem NR.step {w : World} {sv : Value} {N k : Nat} {l : List Rw} {v : Value} {wr wm w1 : World} (h : NR w sv N l k v wr) {ps : List (Rw × Value)} (p1 : ps.length = k) (p2 : ps.map Prod.fst = fillO N k l) (p3 : OwnR (w.heap.size + 1 + 1 + 1) wr 74 v ps) (hm : Below wr.heap.size wr wm) {y : Rw} {tv : Value} (hyk : y.ok) (hy : y = match l[k]? with | some r => r.plain N | none => rw0)
    (ht : RowR (wr.heap.size ≤ ·) wm y tv) {g cap : Nat}
    (ho : w1.ownsRow (w.heap.size + 1 + 1 + 1) 74 57 (.slice (some ⟨g, 0, none⟩) (k + 1) cap) (k + 1) (flatP ps ++ y.vals tv)) (hg : wm.grownBy w1 v.ownBlock) (hlie : v.ownBlock = some g ∨ g = wm.heap.size) :
    NR w sv N l (k + 1) (.slice (some ⟨g, 0, none⟩) (k + 1) cap) (w1.setCell ⟨w.heap.size + 1 + 1, 0, none⟩ (.slice (some ⟨g, 0, none⟩) (k + 1) cap)) := by
  have hs := h.sz
  have hl := fun b hb => (p3.1.lt b hb).2
  have hne : ∀ b, b < w.heap.size + 1 + 1 + 1 → some b ≠ v.ownBlock := fun b hb => own_ne p3.1 hb
  have hmk : ∀ (b : Nat) (t : TypeId) (cs : Array Value), b < w.heap.size + 1 + 1 + 1 → Blk wr b t cs → Blk w1 b t cs := fun b t cs hb hk => by
    have h1 := hk.below hm hk.lt
    exact (hg.block b h1.lt (hne b hb)).trans h1
  have hms := hm.size
  have hgs := hg.size
  have hB1 : Below w.heap.size w w1 := (h.bel.trans (hm.mono (by omega))).grown hg (by omega) (fun q hq => by have := (p3.1.lt q hq).1; omega)
  have p3m : OwnR (w.heap.size + 1 + 1 + 1) wm 74 v ps := p3.keep hms (fun b _ hb => hm.block b hb)
  have hpush := p3m.push hyk (ht.mono (fun b hb hS => ⟨by omega, fun e => by have := hl b e.symm; omega⟩)) p1 ho hg hlie
  refine ⟨(hmk _ _ _ (by omega) h.b0).far (by first | (simp; done) | (simp; omega)) _, (hmk _ _ _ (by omega) h.b1).far (by first | (simp; done) | (simp; omega)) _, (hmk _ _ _ (by omega) h.b2).set_ 0 _, ⟨ps ++ [(y, tv)], by simp [p1], ?_, ?_⟩, by simp; omega, hB1.setCell (by simp; omega) _⟩
  · rw [List.map_append, p2, fillO_snoc, ← hy]; rfl
  · exact hpush.keep (by simp) (fun b hb _ => Below.heap_setCell _ _ _ _ (by simp; omega))

set_option maxRecDepth 100000 in
set_option maxHeartbeats 2000000 in
theorem rnorm_yes (S : Nat → Prop) (N : Nat) (hN : N ≤ 16) (a : Option Addr) (len cap : Nat) (l : List Rw) (w : World) (hrd : RdRs S w a len l) (hm1 : len ≤ cap) (hm2 : cap ≤ maxLen) :
    Calls Try.prog 26 #[.int .i64 N, .agg #[.slice a len cap]] w (WordPost (fillR N l) w) := by
  unfold maxLen at hm2
  have hll : l.length = len := hrd.1
  have HR := Lib.hid hrd
  clear hrd
  have hst := NR.start w (.slice a len cap) N l
  go_enter Try.func26, Try.ntmps26
  go_wp2_with fail
  generalize (((w.alloc (.cells #[.slice a len cap] 63)).alloc (.cells #[.slice none 0 0] 63)).alloc (.cells #[.slice none 0 0] 63)) = w0 at hst ⊢
  have H0 := Lib.hid hst
  clear hst
  go_loopw [6] (fun i wr => ∃ (k : Nat) (v : Value), k ≤ N ∧ i = .int .i64 k ∧ NR w (.slice a len cap) N l k v wr) (fun i _ => N - (intOf i).toNat)
  case atStart => exact ⟨0, _, by omega, rfl, H0.out⟩
  case round =>
    obtain ⟨k, v, hk, rfl, hr⟩ := hrel
    by_cases hlt : k < N
    · obtain ⟨ps, p1, p2, p3⟩ := hr.own
      obtain ⟨y, hy⟩ : ∃ y, y = (match l[k]? with | some r => r.plain N | none => rw0) := ⟨_, rfl⟩
      have hyk : y.ok := by
        rw [hy]; split
        · rename_i r hh; exact Rw.plain_ok (HR.out.2.1 r (List.mem_of_getElem? hh))
        · exact rw0_ok
      have hsz := hr.sz
      have f0 : ∀ w' : World, Below wr.heap.size wr w' → w'.cell? ⟨w.heap.size, 0, none⟩ = some (.slice a len cap) := fun w' h => (hr.b0.below h hr.b0.lt).cell 0
      have HF := Lib.hid f0
      have HRN := Lib.hid (And.intro hr (And.intro p1 (And.intro p2 (And.intro p3 hy))))
      clear hr p1 p2 p3 hy f0
      have hN0 : ((N : Int) ≤ 16) := by omega
      go_upto_region 6 with fail
      have hst : Blk (wr.alloc (.cells rowZ.toArray 74)) wr.heap.size 74 rowZ.toArray ∧ Below wr.heap.size wr (wr.alloc (.cells rowZ.toArray 74)) := ⟨Blk.new _ _ _, (Below.refl _ _).alloc (Nat.le_refl _) _⟩
      generalize wr.alloc (.cells rowZ.toArray 74) = w4 at hst ⊢
      have H4 := Lib.hid hst
      clear hst
      have q0 := HF.out w4 H4.out.2
      go_upto_if 23 with fail
      go_cut [] from 9 to 36 (fun wx => ∃ tv, Blk wx wr.heap.size 74 (y.vals tv).toArray ∧ Below wr.heap.size wr wx ∧ RowR (wr.heap.size < ·) wx y tv)
      case first =>
        by_cases hkl : k < len
        · obtain ⟨b, off, x, m, cp, r, rfl, hS, hbw, hv, hok, hrl, hrc1, hr1, hr2, hr3, hr4, hr5, hr6, hr7⟩ := HR.out.at_ k hkl
          have hB4 : Below w.heap.size w w4 := HRN.out.1.bel.trans (H4.out.2.mono (by omega))
          have d := row_below hB4 (p := ⟨b, off + k * 57, none⟩) hbw 57
          have d1 := d.1.trans hr1
          have d2 : rowOf w4 ⟨b, off + k * 57, none⟩ 57 = r.vals (.slice x m cp) := d.2.trans hr2
          have hrow : RowR S w4 r (.slice x m cp) := ⟨x, m, cp, rfl, hr5.below hB4 (fun _ _ h => h), hr6, hr7⟩
          have hyr : y = r.plain N := by rw [HRN.out.2.2.2.2, hv]
          have HC := Lib.hid (rplain_any S N r hok (.slice x m cp) w4 hrow)
          clear d hr1 hr2 hr3 hr4 hr5 hr6 hr7 hv hrc1 hrl hrow hB4
          go_wp2_with fail
          refine HC.out.mono ?_
          rintro e w5 ⟨tv, rfl, hrow5, hb5⟩
          rw [← hyr] at hrow5 ⊢
          clear hyr
          have k5 := H4.out.1.below hb5 H4.out.1.lt
          obtain ⟨-, -, g3⟩ := k5.whole len_rowZ
          have hyl := Rw.len hyk tv
          have hyc := hrow5.cell1 hyk
          have h6 := k5.put_all (l := y.vals tv) (by rw [len_rowZ, hyl])
          have hlt4 := H4.out.1.lt
          have hfin : ∃ tv', Blk (putRow w5 ⟨wr.heap.size, 0, none⟩ (y.vals tv)) wr.heap.size 74 (y.vals tv').toArray ∧ Below wr.heap.size wr (putRow w5 ⟨wr.heap.size, 0, none⟩ (y.vals tv)) ∧ RowR (wr.heap.size < ·) (putRow w5 ⟨wr.heap.size, 0, none⟩ (y.vals tv)) y tv' :=
            ⟨tv, h6, Below.put (H4.out.2.trans (hb5.mono H4.out.2.size)) (Nat.le_refl _) _, (hrow5.keep (by simp) (fun b hb _ => putRow_other _ _ _ _ (by simp; omega))).mono (fun b _ h => by omega)⟩
          have HFin := Lib.hid hfin
          clear hfin h6 k5 hrow5 hb5
          go_wp2_with fail
          go_meet
          exact HFin.out
        · have hyr : y = rw0 := by rw [HRN.out.2.2.2.2, List.getElem?_eq_none (by omega)]
          go_wp2_with fail
          go_meet
          exact ⟨.slice none 0 0, by rw [hyr, rw0_vals]; exact H4.out.1, H4.out.2, by rw [hyr]; exact rowR_nil _ _ _ rfl⟩
      case rest =>
        obtain ⟨tv, hc1, hc2, hc3⟩ := hcut
        have hyl := Rw.len hyk tv
        have hyc := hc3.cell1 hyk
        have hb2 := HRN.out.1.b2.below hc2 (by omega)
        have c0 : wc.cell? ⟨w.heap.size + 1 + 1, 0, none⟩ = some v := hb2.cell 0
        obtain ⟨z1, z2, -⟩ := hc1.whole hyl
        have hown : wc.ownsRow (w.heap.size + 1 + 1 + 1) 74 57 v k (flatP ps) := by
          rw [← HRN.out.2.1]
          exact own_block HRN.out.2.2.2.1.1 (fun q hq => hc2.block q (HRN.out.2.2.2.1.1.lt q hq).2)
        have HO := Lib.hid hown
        have hszc : w.heap.size + 1 + 1 + 1 ≤ wc.heap.size := Nat.le_trans hsz hc2.size
        have HB2 := Lib.hid hb2
        have HC := Lib.hid (And.intro hc2 hc3)
        clear hc1 hc2 hc3 hown hb2 q0
        go_wp2_with (at_builtin; refine wpList_lies app_rrow (by rfl) (.tmp 32) (.tmp 34) (by rfl) (w.heap.size + 1 + 1 + 1) _ _ _ (by rfl) (HO.out.alloc _) ⟨wc.heap.size, 0, none⟩ 1 1 (y.vals tv) (by rfl) (by simp [hyl]) (hasRow_new wc _ _ 0 57 (by simp [hyl])) ((rowOf_new wc _ _ 0 57 (by simp [hyl])).trans (List.take_of_length_le (by simp [hyl]))) hyc (by omega) (by omega) (by simp; omega) ?_; intro gg cp w7 hown1 hgrow hlie; have hnb := own_ne HO.out (b := w.heap.size + 1 + 1) (by omega); have hb7 := (hgrow.block _ (by simp; omega) hnb).trans (HB2.out.alloc _); have c7 := Blk.cell hb7 0; have z7 := Blk.frozen hb7 0; simp at c7; have H8 := Lib.hid (And.intro hown1 (And.intro hgrow hlie)); clear hown1 hgrow hlie hnb hb7)
        exact ⟨⟨k + 1, _, by omega, by go_num, NR.step HRN.out.1 HRN.out.2.1 HRN.out.2.2.1 HRN.out.2.2.2.1 (HC.out.1.alloc HC.out.1.size _) hyk HRN.out.2.2.2.2 ((HC.out.2.mono (fun b _ h => Nat.le_of_lt h)).below ((Below.refl _ _).alloc (Nat.le_refl _) _)) H8.out.1 H8.out.2.1 H8.out.2.2⟩, by simp [intOf]; omega⟩
    · have hkN : k = N := by omega
      subst hkN
      obtain ⟨ps, p1, p2, p3⟩ := hr.own
      obtain ⟨va, vcap, rfl, -⟩ := p3.rd
      clear p1 p2 p3
      obtain ⟨hw, hc⟩ := hr.end_ (fillO_end k l)
      have f1 := hr.b1.frozen 0
      have f2 := hr.b1.cell 0
      have f3 := hr.b2.cell 0
      simp at f2 f3
      have H := Lib.hid (And.intro hw hc)
      clear hw hc hr
      go_wp2_with fail
      try simp only [Exit.inBlock, Exit.then]
      first | refine bodyPost_ret (ret_row (n := 1) rfl (by kernel_rfl) _ _ _ rfl ?_) rfl ?_ | refine bodyPost_end (ret_row (n := 1) rfl (by kernel_rfl) _ _ _ rfl ?_) rfl ?_
      · exact (row1 H.out.2).1
      · rw [(row1 H.out.2).2]; exact H.out.1

theorem rnorm_any (S : Nat → Prop) (n : Int) (a : Option Addr) (len cap : Nat) (l : List Rw) (w : World) (hrd : RdRs S w a len l) (hm1 : len ≤ cap) (hm2 : cap ≤ maxLen) :
    Calls Try.prog 26 #[.int .i64 n, .agg #[.slice a len cap]] w (WordPost (normW n l) w) := by
  by_cases h : n < 0 ∨ 16 < n
  · have e : normW n l = [] := by unfold normW; rw [if_neg (by simp [mayN]; omega)]
    rw [e]
    exact rnorm_no n h a len cap w
  · obtain ⟨N, rfl⟩ : ∃ N : Nat, n = N := ⟨n.toNat, by omega⟩
    have e : normW N l = fillR N l := by unfold normW; rw [if_pos (by simp [mayN]; omega)]; rfl
    rw [e]
    exact rnorm_yes S N (by omega) a len cap l w hrd hm1 hm2
end Go.Proofs.Ytopakilglnpinaa
