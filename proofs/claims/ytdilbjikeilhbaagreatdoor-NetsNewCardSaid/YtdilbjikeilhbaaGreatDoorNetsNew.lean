/-
  NetsNew: for every setup the call returns true, and the setup reads behind it as it did. Its conditions: the package variables sennit/rings.signs, sennit/modes.edges and sennit/windows.roles lie as the program's text lays them; the card ties that to the text.
-/
import Derived.Test.YtdilbjikeilhbaaGreatDoorGn38
import Derived.Test.YtdilbjikeilhbaaGreatDoorGn51
import Derived.Test.YtdilbjikeilhbaaGreatDoorGn52
import Derived.Test.YtdilbjikeilhbaaGreatDoorGn53
import Derived.Test.YtdilbjikeilhbaaGreatDoorCards
import Derived.Test.YtdilbjikeilhbaaGreatDoorTie
import Derived.ProofKit
import Derived.OpenShut
import Derived.ShutString
import Derived.ChangeOld
import Derived.LaidMore
import Derived.SevenTiedAt
import Derived.Stop.Joined
namespace Go.Proofs.YtdilbjikeilhbaaGreatDoor.netsNew
open Go.ChangeShapes Go.WideShapes Go.ChangeAt Go.RowKit Go.WideElems
set_option linter.unusedVariables false
set_option linter.unusedSimpArgs false
theorem own : ownKnob Tryz.prog.godebug = none := by kernel_rfl
theorem laidOut : laidOutB Tryz.prog = true := by kernel_rfl
def laidL : List (String × DataW Unit) := [("sennit/rings.signs", Rows.laid_sennit_rings_signs), ("sennit/modes.edges", Rows.laid_sennit_modes_edges), ("sennit/windows.roles", Rows.laid_sennit_windows_roles)]
theorem gSigns : Tryz.prog.globalNamed "sennit/rings.signs" = some 0 := by kernel_rfl
theorem tSigns : (Tryz.prog.globals[0]?).map (·.type) = some 48 := by kernel_rfl
/-- the heap that the program's start leaves meets the condition -/
theorem door_met (os : Os) (args : Array Value) : laidMetH Tryz.prog laidL ((World.doorLaid Tryz.prog 400 os).forCall (fun _ _ => 0) ⟨#[], args, []⟩).memory :=
  laidMetH_of_parts3 (fuel := 8) (laidMet_of_run' 8 (by kernel_rfl) (by kernel_rfl)) (by kernel_rfl) (by kernel_rfl)
set_option maxRecDepth 100000 in
/-- what the condition gives the walks: the two cells -/
theorem of_laid {W : World} (h : laidMetH Tryz.prog laidL W) : SgW W := by
  rw [MakeChecks.laidMetH_plain _ _ _ (by kernel_rfl)] at h
  obtain ⟨ps, ⟨g1, t1, cs1, f1, p1, q1, hg1, ht1, hv1, hd1, _, _⟩, _, _⟩ := h
  obtain rfl := Option.some.inj (gSigns.symm.trans hg1)
  obtain rfl := Option.some.inj (tSigns.symm.trans ht1)
  obtain ⟨xs, m1, rfl, hx1, hlen, hn3, hel⟩ := DataW.trod_array Tryz.underlying48 hd1
  have c3 : Tryz.prog.cellsOf 3 = 1 := by kernel_rfl
  have h0 := hel 0 (by decide)
  have h1 := hel 1 (by decide)
  simp only [Rows.laid_sennit_rings_signs, Prod.mk.injEq, DataW.agg.injEq] at hx1
  match xs, hn3, hx1, h0, h1 with
  | [x0, x1], _, hx1, h0, h1 =>
    simp only [List.map_cons, List.map_nil, List.cons.injEq] at hx1
    obtain ⟨k, e1, e2, _⟩ := DataW.trod_int Tryz.underlying3 (show DataW.trod _ Tryz.prog W 0 _ false m1 3 _ = some x0 from h0)
    obtain ⟨k', e1', e2', _⟩ := DataW.trod_int Tryz.underlying3 (show DataW.trod _ Tryz.prog W 0 _ false m1 3 _ = some x1 from h1)
    have hk : k = 1 := by rw [e2] at hx1; simpa using hx1.1.1.symm
    have hk' : k' = -1 := by rw [e2'] at hx1; simpa using hx1.1.2.1.symm
    subst hk hk'
    have v0 := World.var?_cell hg1 hv1 0
    have v1 := World.var?_cell hg1 hv1 1
    obtain ⟨l1⟩ := cs1
    rw [c3] at e1 e1'
    have c88 : Tryz.prog.cellsOf 48 = 2 := by kernel_rfl
    replace hlen : l1.length = 2 := hlen.trans c88
    match l1, hlen, e1, e1', v0, v1 with
    | [c0, c1], _, e1, e1', v0, v1 =>
      simp at e1 e1'
      subst e1 e1'
      exact ⟨by simpa using v0, by simpa using v1⟩
set_option maxRecDepth 100000 in
set_option maxHeartbeats 2000000 in
theorem lifted (os : Os) (started : os.Started) (H : Type) (enc : TypeId × Value → H) :
    ReturnsInHanded {} Tryz.checked os 3 .any (fun w args => (Rows.netsNewSpec.pre enc Tryz.prog Tryz.f3 [] false w args ∧ laidMetH Tryz.prog laidL w) ∧ sizedMet enc Tryz.prog Tryz.f3 (OpenSpec.ofChange Rows.netsNewSpec) false w args)
      (Rows.netsNewSpec.post enc Tryz.prog Tryz.f3 false true false false) := by
  refine returnsInHanded_of_change_and (C := Tryz.checked) (X := fun w _ => laidMetH Tryz.prog laidL w) (fun _ _ _ hh h => h.of_heap hh) own started (by kernel_rfl) Tryz.func3
    (ChangeSpec.witness_shaped (enc := enc) (C := Tryz.checked) (os := os) (X := fun w _ => laidMetH Tryz.prog laidL w) false (World.doorLaid Tryz.prog 400 os) #[.agg #[.int .i64 0, .slice none 0 0, .slice none 0 0, .int .i64 0, .slice none 0 0, .slice none 0 0, .int .i64 0, .int .i64 0, .int .i64 0, .slice none 0 0, .int .i64 0, .int .i64 0, .slice none 0 0]] 8 rfl (World.shaped_of_RefB (by kernel_rfl) (by kernel_rfl)) (by kernel_rfl) (by kernel_rfl) (by kernel_rfl) (door_met os _)) ?_
  intro W base args ds gs before hval0 hW _ _ hL _
  have hval : ∀ (j : Nat) t v, Tryz.f3.params[j]? = some t → args[j]? = some v → Value.okWide Tryz.prog W .any base t v := hval0
  have hW' := hW
  obtain ⟨p, q, hA0, hV, rfl, hfz, hnd⟩ := hW
  have hA : DataW.TrodAll enc Tryz.prog W 0 (fun _ => true) true Tryz.f3.params.toList args.toList ds p := hA0
  rw [Tryz.params3] at hA hval
  obtain ⟨v0, d0, rfl, rfl, h0⟩ := trodAll_one hA
  obtain ⟨rfl, rfl⟩ := trodVars_none hV
  have k0 := h0
  have lt0 : ∀ x ∈ p, x.block < W.heap.size := by obtain ⟨m, hm⟩ := k0; exact DataW.trod_lt m _ _ _ hm
  obtain ⟨A, c, ea, en, ec, nd, lk, sa, sn, sc, X, L, rfl, hcf, hX, hL5, hT⟩ := set_open h0 (okWide_struct Tryz.underlying31 (hval 0 31 v0 rfl rfl))
  clear hA0 hval0
  refine (netsNew_any _ A c W hcf (of_laid hL) _ ea en ec X hX nd lk _ sa sn sc L hL5 hT).mono fun e W' ⟨he, bel⟩ => ?_
  subst he
  exact ⟨_, rfl, _, _, _, [], _, [], hW', trodAll_mk1 (shut_bool Tryz.underlying4 _), (trodAll_cons_mk (Below.trod laidOut (by kernel_rfl) (of_decide_eq_true (by kernel_rfl)) k0 bel lt0) trodAll_mk0), rfl, bel.frame _, fun h => by cases h⟩

theorem over : Rows.NetsNewSaid :=
  OpenClaim.holds_of_wide 3 Tryz.f3 rfl rfl rfl rfl rfl rfl rfl ⟨rfl, rfl, rfl, rfl, rfl⟩ rfl rfl rfl rfl rfl (by kernel_rfl) Tryz.func3 closedN
    (of_decide_eq_true (by kernel_rfl)) (by unfold Func.isWrapper; first | (rw [if_pos (by decide +kernel)]; kernel_rfl) | (rw [if_neg (by decide +kernel)]; exact ⟨rfl, rfl⟩))
    (fun os started H enc _ => lifted os started H enc)

theorem proved : Rows.NetsNewCardSaid :=
  Claim7.holds_tied_plain_at .later [] [.data, .data, .data] true (true, "b336f3e2e7a183094b16e9450958cae1de47c613dce7ca9399484cdd3e9eee4b") true
    over (fun _ h => by cases h) jc1 (fun _ h => by cases h) netsNew_row_tie rfl ⟨rfl, rfl⟩ jc2 rfl
    (fun f fn hf hfn => by
      obtain rfl : f = 3 := Option.some.inj (jc3.symm.trans hf) |>.symm
      obtain rfl : fn = Tryz.f3 := (Option.some.inj (Tryz.func3.symm.trans hfn)).symm
      exact ⟨jc4, fun j t ht => by
        rw [Tryz.params3] at ht
        have hm : t ∈ [31] := by simpa using Array.mem_of_getElem? ht
        exact (show Tryz.pinned.checked.prog.wantsStandIn t = false by simpa using List.all_eq_true.1 jc5 t hm)⟩)
    jc6
#print axioms proved
end Go.Proofs.YtdilbjikeilhbaaGreatDoor.netsNew
