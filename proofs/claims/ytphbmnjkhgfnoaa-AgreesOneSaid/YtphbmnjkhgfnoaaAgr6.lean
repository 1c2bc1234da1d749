/-
  sennitref15.Table.
-/
import Derived.Test.YtphbmnjkhgfnoaaAgr5
import Derived.Deep.RegionLaw
namespace Go.Proofs.Ytphbmnjkhgfnoaa
open Go.RowKit
set_option linter.unusedVariables false
set_option linter.unusedSimpArgs false

/-- a vector that was appended in new memory -/
def RVecPost (L : List Hd) (w : World) (e : Ending) (w' : World) : Prop :=
  (∃ a cap, e = .returned (.slice a L.length cap) ∧ RdHs (w.heap.size ≤ ·) w' a L.length L) ∧ Below w.heap.size w w'
structure OV (w : World) (L : List Hd) (k : Nat) (v : Value) (wr : World) : Prop where
  own : wr.ownsRow w.heap.size 127 56 v k ((L.take k).flatMap Hd.vals)
  bel : Below w.heap.size w wr
theorem OV.start (w : World) (L : List Hd) : OV w L 0 (.slice none 0 0) w := ⟨by simpa using World.ownsRow_nil _ _ _ _, Below.refl _ _⟩
theorem OV.step {w : World} {L : List Hd} {k : Nat} {v v' : Value} {wr wm w1 : World} (h : OV w L k v wr) (hm : Below wr.heap.size wr wm) (hg : wm.grownBy w1 v.ownBlock) {y : Hd} (hy : L[k]? = some y)
    (ho : w1.ownsRow w.heap.size 127 56 v' (k + 1) ((L.take k).flatMap Hd.vals ++ y.vals)) : OV w L (k + 1) v' w1 := by
  refine ⟨?_, (h.bel.trans (hm.mono h.bel.size)).grown hg (by have := hm.size; have := h.bel.size; omega) (fun q hq => by have := (h.own.lt q hq).1; omega)⟩
  rw [List.take_add_one, hy, List.flatMap_append]
  simpa using ho
theorem OV.post {w : World} {L : List Hd} {v : Value} {wr : World} (h : OV w L L.length v wr) (hL : ∀ x ∈ L, x.ok) : RVecPost L w (.returned v) wr := by
  obtain ⟨ra, rcap, rfl, ho1, ho2, ho3⟩ := RdHs.of_own h.own (fun y hy => hL y (List.mem_of_mem_take hy))
  rw [List.take_length] at ho1
  exact ⟨⟨_, _, rfl, ho1⟩, h.bel⟩

set_option maxRecDepth 100000 in
set_option maxHeartbeats 8000000 in
theorem rtable_any (S : Nat → Prop) (a : Option Addr) (len cap : Nat) (l : List Rw) (w : World) (hrd : RdRs S w a len l) (hm1 : len ≤ cap) (hm2 : cap ≤ maxLen) (hsm : len ≤ 100000) :
    Calls Try.prog 20 #[.slice a len cap] w (RVecPost (tabL l) w) := by
  have hll : l.length = len := hrd.1
  have hTo := tabL_ok hrd.2.1
  have hTl : len = (tabL l).length := by simp [tabL, hll]
  have hat : ∀ (k : Nat) (r : Rw), l[k]? = some r → (tabL l)[k]? = some ⟨r.is, r.c⟩ := fun k r hk => by simp [tabL, hk]
  generalize tabL l = L at hTo hTl hat ⊢
  have HH := Lib.hid (And.intro hrd (And.intro hTo (And.intro hTl hat)))
  clear hrd hTo hTl hat
  unfold maxLen at hm2
  go_enter Try.func20, Try.ntmps20
  go_wp2_with fail
  go_loopw [3, 4] (fun v i wr => ∃ k : Nat, k ≤ len ∧ i = .int .i64 k ∧ OV w L k v wr) (fun _ i _ => len - (intOf i).toNat)
  case atStart => exact ⟨0, by omega, rfl, OV.start _ _⟩
  case round =>
    obtain ⟨k, hk, rfl, hr⟩ := hrel
    by_cases hlt : k < len
    · obtain ⟨b, off, x, m, cp, r, rfl, hS, hbw, hv, hok, hrl, hrc1, hr1, hr2, hr3, hr4, hr5, hr6, hr7⟩ := HH.out.1.at_ k hlt
      have hy := HH.out.2.2.2 k r hv
      obtain ⟨is, c, t⟩ := r
      simp only at hr1 hr2 hr3 hr4 hy hrl hrc1
      have hrow := row_part hr1 hr2 1 55 (by omega)
      have hce : ((Value.bool is :: (c ++ [Value.slice x m cp])).drop 1).take 55 = c := by simp [← hrl]
      rw [hce] at hrow
      have d := row_below hr.bel (p := ⟨b, off + k * 57 + 1, none⟩) hbw 55
      have d3 := d.1.trans hrow.1
      have d4 := d.2.trans hrow.2
      have d5 : wr.cell? ⟨b, off + k * 57, none⟩ = some (.bool is) := (hr.bel.cell (p := ⟨b, off + k * 57, none⟩) hbw).trans hr3
      have hbr : b < wr.heap.size := Nat.lt_of_lt_of_le hbw hr.bel.size
      have hwr := hr.bel.size
      have HO := Lib.hid hr
      have HV := Lib.hid hy
      have hspl : ∀ (z l : List Value) (o : Nat), spl z o l = z.take o ++ l ++ z.drop (o + l.length) := fun _ _ _ => rfl
      have hfold : ∀ (cs l : List Value) (o j : Nat), o + j + l.length ≤ cs.length → List.foldl (fun cs x => cs.setIfInBounds (o + x.snd) x.fst) cs.toArray (l.zipIdx j) = (spl cs (o + j) l).toArray := fun cs l o j h => foldl_set l cs.toArray o j (by simpa using h)
      clear d hrow hr1 hr2 hr3 hr4 hr5 hr6 hr7 hv hok hr hy hce
      go_wp2
      go_region_law (first
        | (refine step_app app_rheld (by rfl) (.tmp 11) (.tmp 23) (by rfl) w.heap.size _ _ _ (by rfl) ((HO.out.own.alloc _).drew) ⟨wr.heap.size, 0, none⟩ 1 1 (.bool is :: c) (by rfl) (by simp [hrl])
            (hasRow_new wr _ _ 0 56 (by simp [hrl])) ((rowOf_new wr _ _ 0 56 (by simp [hrl])).trans (List.take_of_length_le (by simp [hrl]))) (by simp [hrc1, cell1]) (by omega) (by omega) (by simp; omega) ?_; intro gg cpp w7 hown1 hgrow; have H8 := Lib.hid (And.intro hown1 hgrow); clear hown1 hgrow))
      all_goals go_wp2
      all_goals exact ⟨⟨k + 1, by omega, by go_num, OV.step HO.out ((Below.refl _ _).alloc (Nat.le_refl _) _).drew H8.out.2 HV.out H8.out.1⟩, by simp [intOf]; omega⟩
    · have hkl : k = len := by omega
      subst hkl
      have H := Lib.hid hr
      clear hr
      go_wp2_with fail
      go_ret
      have h1 := H.out
      rw [HH.out.2.2.1] at h1
      exact h1.post HH.out.2.1
end Go.Proofs.Ytphbmnjkhgfnoaa
