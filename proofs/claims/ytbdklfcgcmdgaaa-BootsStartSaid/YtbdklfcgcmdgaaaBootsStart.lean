/-
  BootsStart: for every input the call returns true, and each argument reads behind it as it did. No condition.
-/
import Derived.Test.YtbdklfcgcmdgaaaGb54
import Derived.Test.YtbdklfcgcmdgaaaGb55
import Derived.ProofKit
import Derived.OpenShut
import Derived.ShutString
import Derived.ChangeOld
namespace Go.Proofs.Ytbdklfcgcmdgaaa.bootsStart
open Go.ChangeShapes Go.WideShapes Go.ChangeAt Go.RowKit
open Go.ChangeMaps (open_string shut_string)
set_option linter.unusedVariables false
set_option linter.unusedSimpArgs false
theorem own : ownKnob Try.prog.godebug = none := by kernel_rfl
theorem laidOut : laidOutB Try.prog = true := by kernel_rfl

set_option maxRecDepth 100000 in
set_option maxHeartbeats 2000000 in
theorem lifted (os : Os) (started : os.Started) (H : Type) (enc : TypeId × Value → H) :
    ReturnsInHanded {} Try.checked os 10 .any (Rows.bootsStartSpec.pre6 enc Try.prog Try.f10 Rows.bootsStartRow.domain false) (Rows.bootsStartSpec.post enc Try.prog Try.f10 false true false false) := by
  refine returnsInHanded_of_change_sized (C := Try.checked) own started (by kernel_rfl) Try.func10
    (ChangeSpec.witness6 (enc := enc) (C := Try.checked) false ⟨#[], #[.agg #[.int .u8 0, .slice none 0 0, .slice none 0 0], .agg #[.bool false, .int .u8 0, .int .u8 0, .slice none 0 0], .slice none 0 0], []⟩ 8 (by kernel_rfl) (by kernel_rfl) (by kernel_rfl) (by kernel_rfl)) ?_
  intro W base args ds gs before hval0 hW hcnd hsz0 _
  have hval : ∀ (j : Nat) t v, Try.f10.params[j]? = some t → args[j]? = some v → Value.okWide Try.prog W .any base t v := hval0
  have hW' := hW
  obtain ⟨p, q, hA0, hV, rfl, hfz, hnd⟩ := hW
  have hA : DataW.TrodAll enc Try.prog W 0 (fun _ => true) true Try.f10.params.toList args.toList ds p := hA0
  rw [Try.params10] at hA hval
  obtain ⟨v0, vs0, d0, ds0, p0, q0, hargs, rfl, rfl, h0, r0⟩ := trodAll_cons hA
  obtain ⟨v1, vs1, d1, ds1, p1, q1, rfl, rfl, rfl, h1, r1⟩ := trodAll_cons r0
  obtain ⟨v2, vs2, d2, ds2, p2, q2, rfl, rfl, rfl, h2, r2⟩ := trodAll_cons r1
  obtain ⟨rfl, rfl, rfl⟩ := trodAll_nil r2
  obtain rfl : args = #[v0, v1, v2] := by cases args; simp_all
  obtain ⟨rfl, rfl⟩ := trodVars_none hV
  have k0 := h0
  have lt0 : ∀ x ∈ p0, x.block < W.heap.size := by obtain ⟨m, hm⟩ := k0; exact DataW.trod_lt m _ _ _ hm
  obtain ⟨p9, pa, pn, pc, ba, bn, bc, Ps, Bs, rfl, hp9, hPs, hBs⟩ := starting_open h0 (okWide_struct Try.underlying120 (hval 0 120 v0 rfl rfl))
  have k1 := h1
  have lt1 : ∀ x ∈ p1, x.block < W.heap.size := by obtain ⟨m, hm⟩ := k1; exact DataW.trod_lt m _ _ _ hm
  have hw1 : (d1.weights Try.prog 88).all (· ≤ reachBytes) = true := List.all_eq_true.2 fun q hq => List.all_eq_true.1 hsz0 q (DataW.weights_mem_each (j := 1) (by rw [Try.params10]; rfl) rfl q hq)
  obtain ⟨F1, u1, rfl, hin⟩ := fault_open h1 (okWide_struct Try.underlying88 (hval 1 88 v1 rfl rfl)) hw1
  obtain ⟨⟨fa, fn, fc, rfl, q1, q2, q3, q4⟩, q5, q6, q7⟩ := hin
  have k2 := h2
  have lt2 : ∀ x ∈ p2, x.block < W.heap.size := by obtain ⟨m, hm⟩ := k2; exact DataW.trod_lt m _ _ _ hm
  obtain ⟨a2, len2, cap2, rfl⟩ := okWide_slice Try.underlying108 (hval 2 108 v2 rfl rfl)
  obtain ⟨C2, hrc, hc1, hc2⟩ : ∃ l, RdCs (· < W.heap.size) W a2 len2 l ∧ len2 ≤ cap2 ∧ cap2 ≤ maxLen := by obtain ⟨fuel, hf⟩ := h2; exact RdCs.open_ Try.underlying108 (by kernel_rfl) (by kernel_rfl) (by simpa [Value.cells] using hf)
  clear hA0 hval0
  refine (bootsStart_any p9 hp9 (4 + (p9 % 13).toNat) (by have := Int.emod_nonneg p9 (by decide : (13 : Int) ≠ 0); omega) pa pn pc Ps ba bn bc Bs F1 fa fn fc a2 len2 cap2 C2 W q1 q2 q3 q4 q5 ⟨q6, q7⟩ (fun a ha => (q1.2.1 a ha).2.2) hPs hBs hrc hc1 hc2).mono fun e W' ⟨he, bel⟩ => ?_
  subst he
  exact ⟨_, rfl, _, _, _, [], _, [], hW', trodAll_mk1 (shut_bool Try.underlying4 _), (trodAll_cons_mk (Below.trod laidOut (by kernel_rfl) (of_decide_eq_true (by kernel_rfl)) k0 bel lt0) (trodAll_cons_mk (Below.trod laidOut (by kernel_rfl) (of_decide_eq_true (by kernel_rfl)) k1 bel lt1) (trodAll_cons_mk (Below.trod laidOut (by kernel_rfl) (of_decide_eq_true (by kernel_rfl)) k2 bel lt2) trodAll_mk0))), rfl, bel.frame _, fun h => by cases h⟩

theorem over : Rows.bootsStartRow.holds Try.pinned (OpenSpec.ofChange Rows.bootsStartSpec) :=
  OpenClaim.holds_of_wide 10 Try.f10 rfl rfl rfl rfl rfl rfl rfl ⟨rfl, rfl, rfl, rfl, rfl⟩ rfl rfl rfl rfl rfl (by kernel_rfl) Try.func10 (by kernel_rfl)
    (of_decide_eq_true (by kernel_rfl)) (by unfold Func.isWrapper; first | (rw [if_pos (by decide +kernel)]; kernel_rfl) | (rw [if_neg (by decide +kernel)]; exact ⟨rfl, rfl⟩))
    (fun os started H enc _ => lifted os started H enc)

theorem proved : Rows.BootsStartSaid := over
#print axioms proved
end Go.Proofs.Ytbdklfcgcmdgaaa.bootsStart
