
/-
  A vector of ages; the clique's examples.
-/
import Derived.Test.YtlfpchkoeipcdaaClq2
namespace Go.Proofs.Ytlfpchkoeipcdaa
open Go.RowKit
set_option linter.unusedVariables false
set_option linter.unusedSimpArgs false

set_option maxRecDepth 100000 in
set_option maxHeartbeats 400000 in
theorem vector_any (a : Option Addr) (len cap : Nat) (ns : List Int) (w : World) (hrd : Rd1 w a len (ns.map (Value.int .i64))) (hns : ∀ n ∈ ns, -9223372036854775808 ≤ n ∧ n ≤ 9223372036854775807) (hlen : len ≤ 1000) :
    Calls Try.prog 20 #[.slice a len cap] w (NewHs w (ns.map hdAge)) := by
  have HR := Lib.hid hrd
  have HN := Lib.hid hns
  clear hrd hns
  have hlr := len_cellR
  have hcc := cellR_cell1
  have HO := Lib.hid (OwnHs.nil w 46 w (Below.refl _ _))
  go_enter Try.func20, Try.ntmps20
  go_wp2
  go_loopw [3, 4] (fun v i wr => ∃ k : Nat, k ≤ len ∧ i = .int .i64 k ∧ OwnHs w 46 v ((ns.map hdAge).take k) wr) (fun _ i _ => len - (intOf i).toNat)
  case atStart => exact ⟨0, by omega, rfl, HO.out⟩
  case round =>
    obtain ⟨k, hk, rfl, ho⟩ := hrel
    have hln : ns.length = len := by simpa using HR.out.1
    by_cases hlt : k < len
    · have hv : ns[k]? = some (ns[k]'(by omega)) := List.getElem?_eq_getElem _
      generalize hq : ns[k]'(by omega) = q at hv
      obtain ⟨b, off, rfl, hc⟩ := HR.out.2 k (.int .i64 q) (by rw [List.getElem?_map, hv]; rfl)
      have hbw := World.block_lt_of_cell? w _ hc
      have hbl := ho.2.2
      have g3 : wr.cell? ⟨b, off + k, none⟩ = some (.int .i64 q) := (hbl.cell (p := ⟨b, off + k, none⟩) hbw).trans hc
      have hqb := HN.out q (List.mem_of_getElem? hv)
      have HO := Lib.hid ho
      have HV := Lib.hid hv
      have hbase := hbl.size
      have hl1 : ((ns.map hdAge).take k).length = k := by rw [List.length_take, List.length_map]; omega
      have HL1 := Lib.hid hl1
      clear ho hbl hc hq hv hln hl1
      go_wp2_with (at_builtin; refine wpList_app app_held (by rfl) (.tmp 11) (.tmp 18) (by rfl) w.heap.size _ _ _ (by rfl) (HO.out.1.alloc _) ⟨wr.heap.size, 0, none⟩ 1 1 (.bool true :: .int .i64 q :: cellR) (by rfl) (by simp [hlr]) (hasRow_new wr _ _ 0 56 (by simp [hlr])) ((rowOf_new wr _ _ 0 56 (by simp [hlr])).trans (List.take_of_length_le (by simp [hlr]))) (by simp [hcc, cell1]) (by rw [HL1.out]; omega) (by simp; omega) ?_; intro v1 w1 hown1 hgrow)
      have HG := Lib.hid (And.intro hown1 hgrow)
      clear hown1 hgrow
      go_wp2
      refine ⟨⟨k + 1, by omega, by go_num, ?_⟩, by simp [intOf]; omega⟩
      rw [List.take_add_one, List.getElem?_map, HV.out]
      exact HO.out.push (hdAge q) (hdAge_ok hqb.1 hqb.2) rfl HG.out.1 (HO.out.2.2.alloc hbase _) HG.out.2
    · have : k = len := by omega
      subst this
      rw [List.take_of_length_le (by rw [List.length_map]; omega)] at ho
      have HO := Lib.hid ho
      clear ho
      go_wp2
      go_ret
      exact HO.out.new
end Go.Proofs.Ytlfpchkoeipcdaa
