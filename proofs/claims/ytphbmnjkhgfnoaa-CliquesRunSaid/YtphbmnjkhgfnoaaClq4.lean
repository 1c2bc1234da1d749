/-
  The document's clique: a tick, walked.
-/
import Derived.Test.YtphbmnjkhgfnoaaClq3
namespace Go.Proofs.Ytphbmnjkhgfnoaa
open Go.RowKit

set_option maxRecDepth 100000 in
set_option maxHeartbeats 8000000 in
theorem rcq_step (W : World) (S : Nat → Prop) (g : Nat) (n c : Int) (v : Value) (bs : List Bool) (a : Option Addr) (len cap : Nat) (l : List Hd) (w : World) (hn : 4 ≤ n) (hn2 : n ≤ 16) (hg : RcRel W g n v bs w) (hbs : bs.length ≤ 1000000) (hW : W.heap.size ≤ w.heap.size)
    (hrd : RdHs S w a len l) (hlen : len ≤ 100000000) :
    Calls Try.prog 33 #[.pointer (some ⟨g, 0, none⟩), .slice a len cap, .int .i64 c] w (RcPost W g n v (bs ++ [evenF n l c]) w) := by
  obtain ⟨hb, hown⟩ := hg
  have hne := own_not hown hb (by decide)
  have hc0 : w.cell? ⟨g, 0, none⟩ = some (.int .i64 n) := hb.cell 0
  have hc1 : w.cell? ⟨g, 1, none⟩ = some v := hb.cell 1
  have hf : ∀ i, w.frozen? ⟨g, i, none⟩ = false := hb.frozen
  have hgl := hb.lt
  have hev : ∀ w', w'.heap = w.heap → Calls Try.prog 31 #[.int .i64 n, .slice a len cap, .int .i64 c] w' fun e w'' => e = .returned (.bool (evenF n l c)) ∧ w' = w'' := fun w' hw => by
    refine reven_any S n c a len cap l w' (by omega) (by omega) ?_ hlen
    exact hrd.keep (by rw [hw]; exact Nat.le_refl _) (fun b _ _ => by rw [hw])
  have HE := Lib.hid hev
  have HO := Lib.hid hown
  have HB := Lib.hid hb
  generalize evenF n l c = ev at *
  obtain ⟨bs', hbs'⟩ : ∃ bs', bs' = bs ++ [ev] := ⟨_, rfl⟩
  have hlb : bs'.length = bs.length + 1 := by rw [hbs']; simp
  rw [← hbs']
  have HBS := Lib.hid hbs'
  have HLB := Lib.hid hlb
  have hlb0 : bs'.length ≤ bs.length + 1 := by omega
  have hlb1 : bs.length + 1 ≤ bs'.length := by omega
  clear hev hown hb hrd hbs' hlb
  go_enter Try.func33, Try.ntmps33
  go_wp2
  go_region_law (first
    | (refine step_app app_bool (by rfl) (.tmp 12) (.tmp 20) (by rfl) W.heap.size _ _ _ (by rfl) ((HO.out.alloc _).drew) ⟨w.heap.size, 0, none⟩ 1 1 [.bool ev] (by rfl) (by simp)
            (hasRow_new w _ _ 0 1 (by simp)) ((rowOf_new w _ _ 0 1 (by simp)).trans rfl) (by simp [cell1]) (by omega) (by omega) (by simp; omega) ?_; intro gg cap' w1 hown1 hgrow; have HB1 : Hid (Blk w1 g 132 #[.int .i64 n, v]) := Lib.hid ((hgrow.block g (by simp; omega) (fun h => hne h.symm)).trans ((HB.out.alloc _).drew)); have d0 : w1.cell? ⟨g, 0, none⟩ = some (.int .i64 n) := HB1.out.cell 0; have d1 : w1.cell? ⟨g, 1, none⟩ = some v := HB1.out.cell 1; have d2 : ∀ i, w1.frozen? ⟨g, i, none⟩ = false := HB1.out.frozen)
    | (go_simp; go_at_call 31; refine (HE.out w.drew rfl).mono ?_; rintro e w' ⟨rfl, rfl⟩))
  all_goals
    have HX : Hid (RcRel W g n (.slice (some ⟨gg, 0, none⟩) (bs.length + 1) cap') bs' (w1.setCell ⟨g, 1, none⟩ (.slice (some ⟨gg, 0, none⟩) (bs.length + 1) cap')) ∧ Chg (fun b => b = g ∨ some b = v.ownBlock) w (w1.setCell ⟨g, 1, none⟩ (.slice (some ⟨gg, 0, none⟩) (bs.length + 1) cap'))) := by
      have hn1 := own_not hown1 HB1.out (by decide)
      have hsz : w.heap.size + 1 ≤ w1.heap.size := by have := hgrow.size; simpa using this
      have hch : Chg (fun b => b = g ∨ some b = v.ownBlock) w w1 :=
        ⟨hgrow.os, hgrow.tape, hgrow.output, by omega, fun k hk hs => (hgrow.block k (by simp; omega) (fun h => hs (Or.inr h))).trans (Below.heap_alloc _ _ _ hk)⟩
      refine ⟨⟨HB1.out.set_ 1 _, ?_⟩, ?_⟩
      · refine own_block ?_ (fun k hk => Below.heap_setCell _ _ _ _ (fun h => hn1 (by rw [hk, h])))
        have := hown1
        rw [HBS.out]
        simpa using this
      · exact hch.setCell (p := ⟨g, 1, none⟩) (Or.inl (Or.inl rfl)) _
    generalize (w1.setCell ⟨g, 1, none⟩ (.slice (some ⟨gg, 0, none⟩) (bs.length + 1) cap')) = w2 at *
    clear hgrow hown1 HB1 d0 d1 d2 hc0 hc1 hf HB HO HE
    have FIN : Hid (∀ wr : World, wr.heap = w2.heap → Chg (fun _ => False) w2 wr → (∃ v', RcRel W g n v' bs' wr) ∧ Chg (fun b => b = g ∨ some b = v.ownBlock) w wr) := Lib.hid (fun wr hh hc =>
      ⟨⟨_, (show wr.heap[g]? = _ from by rw [hh]; exact HX.out.1.1), own_block HX.out.1.2 (fun k _ => by rw [hh])⟩, HX.out.2.trans (hc.mono (fun _ _ h => h.elim))⟩)
    go_wp2
    go_loopw [7] (fun i wr => ∃ k : Nat, k ≤ 2 * n.toNat ∧ i = .int .i64 k ∧ wr.heap = w2.heap ∧ Chg (fun _ => False) w2 wr ∧ (0 < k → k ≤ bs'.length) ∧ ∀ d, d < k → bs'[bs'.length - 1 - d]? = some true) (fun i _ => 2 * n.toNat - (intOf i).toNat)
    case atStart => exact ⟨0, by omega, rfl, rfl, Chg.refl _ _, by omega, fun d hd => by omega⟩
    case round =>
      obtain ⟨k, hk, rfl, hwr, hcw, hkl, hev⟩ := hrel
      have hc0 : wr.cell? ⟨g, 0, none⟩ = some (.int .i64 n) := (World.cell?_of_block (by rw [hwr])).trans (HX.out.1.1.cell 0)
      have hc1 : wr.cell? ⟨g, 1, none⟩ = some (.slice (some ⟨gg, 0, none⟩) (bs.length + 1) cap') := (World.cell?_of_block (by rw [hwr])).trans (HX.out.1.1.cell 1)
      by_cases hlt : k < 2 * n.toNat
      · by_cases hin : k < bs'.length
        · have hv : bs'[bs'.length - 1 - k]? = some (bs'[bs'.length - 1 - k]'(by omega)) := List.getElem?_eq_getElem _
          generalize bs'[bs'.length - 1 - k]'(by omega) = q at hv
          have hcq : wr.cell? ⟨gg, bs.length - k, none⟩ = some (.bool q) := by
            have h1 := HX.out.1.2.cells (g := gg) rfl (bs'.length - 1 - k) (.bool q) (by rw [List.getElem?_map, hv]; rfl)
            rw [add_at, Nat.zero_add] at h1
            rw [show bs.length - k = bs'.length - 1 - k from by omega]
            exact (World.cell?_of_block (by rw [hwr])).trans h1
          have hge : decide ((bs.length : Int) + 1 ≤ (k : Int)) = false := by simp; omega
          have hcast : ((bs.length : Int) + 1 - 1 - (k : Int)) = ((bs.length - k : Nat) : Int) := by omega
          have hcast2 : ((bs.length : Int) - (k : Int)) = ((bs.length - k : Nat) : Int) := by omega
          have hnat : bs.length - k < bs.length + 1 := by omega
          have HK := Lib.hid (And.intro hwr (And.intro hcw (And.intro hkl hev)))
          have HV := Lib.hid hv
          clear hwr hcw hkl hev hv
          cases q with
          | true =>
            go_wp2
            go_quiet (fail)
            go_wp2
            refine ⟨⟨k + 1, by omega, by go_num, HK.out.1, HK.out.2.1.drewN _, fun _ => by omega, fun d hd => ?_⟩, by simp [intOf]; omega⟩
            by_cases hdk : d = k
            · rw [hdk]; exact HV.out
            · exact HK.out.2.2.2 d (by omega)
          | false =>
            go_wp2
            go_quiet (fail)
            go_wp2
            go_ret
            exact ⟨by rw [allEven_no hlt (.inr HV.out)]; rfl, FIN.out _ HK.out.1 (HK.out.2.1.drewN _)⟩
        · have hge : decide ((bs.length : Int) + 1 ≤ (k : Int)) = true := by simp; omega
          have HK := Lib.hid (And.intro hwr (And.intro hcw (And.intro hkl hev)))
          clear hwr hcw hkl hev
          go_wp2
          go_quiet (fail)
          go_wp2
          go_ret
          exact ⟨by rw [allEven_no hlt (.inl (by omega))]; rfl, FIN.out _ HK.out.1 (HK.out.2.1.drewN _)⟩
      · have hk2 : k = 2 * n.toNat := by omega
        have HK := Lib.hid (And.intro hwr (And.intro hcw (And.intro hkl hev)))
        clear hwr hcw hkl hev
        go_wp2
        go_ret
        exact ⟨by rw [allEven_yes (by have := HK.out.2.2.1 (by omega); omega) (fun d hd => HK.out.2.2.2 d (by omega))]; rfl, FIN.out _ HK.out.1 HK.out.2.1⟩
end Go.Proofs.Ytphbmnjkhgfnoaa
