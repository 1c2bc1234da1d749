/-
  sennitlaw17.view, walked.
-/
import Derived.Test.YtlfpchkoeipcdaaCmt1
import Derived.Test.YtlfpchkoeipcdaaClq6
import Derived.Deep.CutBlock
import Derived.Deep.CutRange
namespace Go.Proofs.Ytlfpchkoeipcdaa
open Go.RowKit
set_option linter.unusedVariables false
set_option linter.unusedSimpArgs false

theorem VwR.put {w : World} {n bad : Nat} {S : List Int} {wr : World} (h : VwR w n bad S wr) {k : Nat} (hk : k < n) {x : Hd} (hx : x.ok) (hs : k = bad ∨ (x.is = true ∧ ageL x.c = saidS S k)) :
    canPut wr ⟨w.heap.size + 1, k * 56, none⟩ 56 = true ∧ VwR w n bad S (putRow wr ⟨w.heap.size + 1, k * 56, none⟩ x.vals) := by
  obtain ⟨⟨L, hb, hok, hsy⟩, hB⟩ := h
  have hl := len_flatH hok
  rw [hsy.1] at hl
  have hin : k * 56 + 56 ≤ n * 56 := by
    have : (k + 1) * 56 ≤ n * 56 := Nat.mul_le_mul_right _ (by omega)
    omega
  refine ⟨?_, ⟨⟨L.set k x, ?_, ok_set hok k hx, says_set hsy hs⟩, Below.put hB (p := ⟨w.heap.size + 1, k * 56, none⟩) (Nat.le_succ _) _⟩⟩
  · rw [hb.rules.2.2.2.2, hl]; simp; omega
  · have h2 := hb.put (k * 56) x.vals
    have hset := flatH_set hok (k := k) (by rw [hsy.1]; exact hk) x hx
    rw [← hset]
    exact h2

set_option maxRecDepth 100000 in
set_option maxHeartbeats 4000000 in
theorem view_any (n bad : Nat) (hn : n ≤ 16) (hb : bad < n) (S : List Int) (hS : ∀ x ∈ S, -9223372036854775808 ≤ x ∧ x ≤ 9223372036854775807) (sa : Option Addr) (slen scap : Nat) (hs0 : 0 < slen) (hs1 : slen ≤ 40) (gone : Int) (hg : 0 ≤ gone ∧ gone ≤ 65535) (of : Hd) (hof : of.ok) (w : World) (hrd : Rd1 w sa slen (S.map (Value.int .i64))) :
    Calls Try.prog 10 #[.int .i64 n, .int .i64 bad, .slice sa slen scap, .int .u16 gone, .agg of.vals.toArray] w (ViewPost n bad (saidS S) w) := by
  have hSl : S.length = slen := by have := hrd.1; simpa using this
  have hofl := Hd.vals_len hof
  have hofc := hd_cell1' hof
  have hn1 : n ≤ 1048576 := by omega
  have hbx : Blk (w.alloc (.cells of.vals.toArray 46)) w.heap.size 46 of.vals.toArray := Blk.new _ _ _
  have hst : VwR w n bad S ((w.alloc (.cells of.vals.toArray 46)).alloc (.cells (zrep heldZ n).toArray 46)) := by
    refine ⟨⟨List.replicate n hd0, ?_, fun x hx => by rw [List.eq_of_mem_replicate hx]; exact hd0_ok, says_rep _ _ _⟩, ((Below.refl _ _).alloc (Nat.le_refl _) _).alloc (by simp) _⟩
    rw [← flatH_rep]
    have := Blk.new (w.alloc (.cells of.vals.toArray 46)) 46 (zrep heldZ n).toArray
    simpa using this
  have hb0 : Blk ((w.alloc (.cells of.vals.toArray 46)).alloc (.cells (zrep heldZ n).toArray 46)) w.heap.size 46 of.vals.toArray := hbx.alloc _
  have HR := Lib.hid (And.intro hrd (And.intro hSl hS))
  clear hrd hSl hS hbx
  go_enter Try.func10, Try.ntmps10
  go_upto_block 0 with fail
  generalize ((w.alloc (.cells of.vals.toArray 46)).alloc (.cells (zrep heldZ n).toArray 46)) = w1 at hst hb0 ⊢
  have HS := Lib.hid (And.intro hst hb0)
  clear hst hb0
  go_wp2_with fail
  go_loopw [12] (fun i wr => ∃ k : Nat, k ≤ n ∧ i = .int .i64 k ∧ VwR w n bad S wr ∧ Blk wr w.heap.size 46 of.vals.toArray) (fun i _ => n - (intOf i).toNat)
  case atStart => exact ⟨0, by omega, rfl, HS.out.1, HS.out.2⟩
  case round =>
    obtain ⟨k, hk, rfl, hr, hbo⟩ := hrel
    by_cases hlt : k < n
    · obtain ⟨j, hj⟩ : ∃ j, j = k % slen := ⟨_, rfl⟩
      have hjl : j < slen := by rw [hj]; exact Nat.mod_lt _ hs0
      obtain ⟨x, hx⟩ : ∃ x, S[j]? = some x := ⟨_, List.getElem?_eq_getElem (by rw [HR.out.2.1]; exact hjl)⟩
      obtain ⟨b, off, rfl, hc⟩ := HR.out.1.2 j (.int .i64 x) (by rw [List.getElem?_map, hx]; rfl)
      have hbw := World.block_lt_of_cell? w _ hc
      have g0 : wr.cell? ⟨b, off + j, none⟩ = some (.int .i64 x) := (hr.bel.cell (p := ⟨b, off + j, none⟩) hbw).trans hc
      have hxr := HR.out.2.2 x (List.mem_of_getElem? hx)
      have hsx : saidS S k = x := by
        unfold saidS
        rw [HR.out.2.1, ← hj, List.getD_eq_getElem?_getD, hx]; rfl
      have hmod : ((k : Int) % (slen : Int)) = (j : Int) := by omega
      obtain ⟨hcp, hput⟩ := hr.put hlt (hdAge_ok hxr.1 hxr.2) (.inr ⟨rfl, by rw [hsx]; rfl⟩)
      have hbo2 : Blk (putRow wr ⟨w.heap.size + 1, k * 56, none⟩ (hdAge x).vals) w.heap.size 46 of.vals.toArray := (putRow_other _ _ _ _ (by simp)).trans hbo
      have hlr := len_cellR
      have hcc := cellR_cell1
      have HK := Lib.hid (And.intro hr (And.intro hbo (And.intro hput hbo2)))
      clear hr hbo hput hbo2 hx hc hsx hj
      go_wp2_with fail
      all_goals first
        | exact ⟨⟨k + 1, by omega, by go_num, HK.out.2.2.1, HK.out.2.2.2⟩, by simp [intOf]; omega⟩
        | exact ⟨⟨k + 1, by omega, by go_num, HK.out.1, HK.out.2.1⟩, by simp [intOf]; omega⟩
        | exact ⟨⟨bad + 1, by omega, by go_num, HK.out.1, HK.out.2.1⟩, by simp [intOf]; omega⟩
    · obtain ⟨r1, r2, -⟩ := hbo.whole hofl
      obtain ⟨hcp, ⟨⟨L, q1, q2, q3⟩, q4⟩⟩ := hr.put hb hof (.inl rfl)
      have HF : Hid (ViewPost n bad (saidS S) w (.returned (.slice (some ⟨w.heap.size + 1, 0, none⟩) n n)) (putRow wr ⟨w.heap.size + 1, bad * 56, none⟩ of.vals)) := Lib.hid ⟨_, L, rfl, q1, by omega, q2, q3, q4⟩
      clear hr hbo q1 q2 q3 q4
      go_wp2_with fail
      go_ret
      exact HF.out
end Go.Proofs.Ytlfpchkoeipcdaa
