/-
  sennitref15.Agree, walked. sennitlaw15.said; the examples' vectors. sennitlaw15.said, walked. sennitlaw13.SameAll, Left, LeftWord.
-/
import Derived.Test.YtbdklfcgcmdgaaaGb39
import Derived.Deep.QuietTactic
import Derived.BigQuiet
import Derived.Test.YtbdklfcgcmdgaaaGb33
import Derived.Test.YtbdklfcgcmdgaaaGb19
namespace Go.Proofs.Ytbdklfcgcmdgaaa
open Go.RowKit
set_option linter.unusedVariables false
set_option linter.unusedSimpArgs false

end Go.Proofs.Ytbdklfcgcmdgaaa
namespace Go.Proofs.Ytbdklfcgcmdgaaa
open Go.RowKit
set_option linter.unusedVariables false
set_option linter.unusedSimpArgs false

theorem rdRs_ps {S : Nat → Prop} {w : World} {g : Nat} {t : TypeId} {ps : List (Rw × Value)} (hb : Blk w g t (flatP ps).toArray) (h : ∀ p ∈ ps, p.1.ok ∧ RowR S w p.1 p.2) : RdRs (fun b => b = g ∨ S b) w (some ⟨g, 0, none⟩) ps.length (ps.map Prod.fst) := by
  refine ⟨by simp, fun r hr => ?_, fun k r hk => ?_⟩
  · obtain ⟨p, hp, rfl⟩ := List.mem_map.1 hr
    exact (h p hp).1
  · rw [List.getElem?_map, Option.map_eq_some_iff] at hk
    obtain ⟨p, hk, rfl⟩ := hk
    obtain ⟨hpo, x, m, c2, hpv, h5, h6, h7⟩ := h p (List.mem_of_getElem? hk)
    have hlen := Rw.len hpo p.2
    have hrow := row_of_cells (w := w) (p := ⟨g, 0 + k * 57, none⟩) (l := p.1.vals p.2) (fun j u hu => by
      have hj : j < 57 := by rw [← hlen]; exact (List.getElem?_eq_some_iff.1 hu).1
      rw [add_at, hb.cell, show 0 + k * 57 + j = k * 57 + j from by omega]
      have := flatP_at (fun p hp => (h p hp).1) hk hj
      simp only [List.getElem?_toArray]
      rw [this, hu])
    rw [hlen, hpv] at hrow
    exact ⟨g, 0, x, m, c2, rfl, .inl rfl, hb.lt, hrow.1, hrow.2, h5.mono (fun b _ h => .inr h), h6, h7⟩
section
variable (ρ : Operand → Value) (d : Option Tmp) (x y u v : Operand) (ty : TypeId) (s : String) (af : Array Edge) (g : Option (Nat × Bool)) (w : World)
@[go_sem ↓] theorem bk_row02 (h1 : lenC (ρ x) 1 = true) (h3 : lenC (ρ u) 1 = true) : (execOp ρ { dst := d, op := .build 54 #[(0, x), (2, u)], type := ty, pos := s, after := af, guard := g }).run Try.prog w = .ok (.value (.agg (cellsL (ρ x) ++ (cellZ ++ cellsL (ρ u))).toArray)) w := by
  have hl : (cellsL (ρ x)).length = 1 := by simpa [lenC] using h1
  have hl3 : (cellsL (ρ u)).length = 1 := by simpa [lenC] using h3
  have hz := len_cellZ
  refine exec_build ρ d _ ty s af g w ?_
  rw [built_of bt_row, fill_lay]
  · simp [lay, spl, rowZ, hl, hl3, hz, List.take_append, List.drop_append, List.take_of_length_le, List.drop_of_length_le]
  · simp [hl, hl3, len_rowZ]
    exact ⟨⟨_, _, ⟨rfl, rfl⟩, rfl, by omega⟩, ⟨_, _, ⟨rfl, rfl⟩, rfl, by omega⟩⟩
@[go_sem ↓] theorem bs_row2A (h : lenC (ρ x) 57 = true) (h' : lenC (ρ y) 57 = true) :
    (execOp ρ { dst := d, op := .buildSlice 32 2 #[(0, x), (1, y)], type := ty, pos := s, after := af, guard := g }).run Try.prog w = .ok (.value (.slice (some ⟨w.heap.size, 0, none⟩) 2 2)) (w.alloc (.cells (cellsL (ρ x) ++ cellsL (ρ y)).toArray 54)) := by
  have := exec_bslice (n := 57) Try.underlying32 (by kernel_rfl) ρ d 2 [x, y] #[(0, x), (1, y)] ty s af g w (by simp [iparts]) rfl (by omega) (by omega) (by simp [h, h'])
  simpa using this
@[go_sem ↓] theorem bs_row4 (h : lenC (ρ x) 57 = true) (h' : lenC (ρ y) 57 = true) (h2 : lenC (ρ u) 57 = true) (h3 : lenC (ρ v) 57 = true) :
    (execOp ρ { dst := d, op := .buildSlice 32 4 #[(0, x), (1, y), (2, u), (3, v)], type := ty, pos := s, after := af, guard := g }).run Try.prog w = .ok (.value (.slice (some ⟨w.heap.size, 0, none⟩) 4 4)) (w.alloc (.cells (cellsL (ρ x) ++ (cellsL (ρ y) ++ (cellsL (ρ u) ++ cellsL (ρ v)))).toArray 54)) := by
  have := exec_bslice (n := 57) Try.underlying32 (by kernel_rfl) ρ d 4 [x, y, u, v] #[(0, x), (1, y), (2, u), (3, v)] ty s af g w (by simp [iparts]) rfl (by omega) (by omega) (by simp [h, h', h2, h3])
  simpa using this
end
/-- a row whose table has a cell of an age at its first place -/
def sdH (age : Int) : Hd := ⟨true, .int .i64 age :: cellR⟩
def sdR (age : Int) : Rw := ⟨true, cellZ, [sdH age, hd0, hd0, hd0]⟩
theorem sdH_ok {age : Int} (h0 : 0 ≤ age) (h1 : age ≤ 100) : (sdH age).ok := by
  refine cellR_ok age ?_
  have e1 : IntKind.i64.min = -9223372036854775808 := by rfl
  have e2 : IntKind.i64.max = 9223372036854775807 := by rfl
  simp [Lit.wf, e1, e2]; omega
theorem sdR_ok {age : Int} (h0 : 0 ≤ age) (h1 : age ≤ 100) : (sdR age).ok := ⟨cellZ_ok, fun x hx => by
  simp [sdR] at hx
  rcases hx with rfl | rfl
  · exact sdH_ok h0 h1
  · exact hd0_ok⟩
def rws (a b c d : Int) : List Rw := [sdR a, sdR b, sdR c, sdR d]
theorem hasC_rws0 (a b c d : Int) (k : Nat) : hasC (rws a b c d) k 0 = ([a, b, c, d][k]?).map fun x => .int .i64 x :: cellR := by
  match k with
  | 0 | 1 | 2 | 3 => rfl
  | k + 4 => simp [hasC, rws]
theorem hasC_rwss (a b c d : Int) (k s : Nat) (hs : 0 < s) : hasC (rws a b c d) k s = none := by
  have e : ∀ x : Int, (match [sdH x, hd0, hd0, hd0][s]? with | some h => if h.is then some h.c else none | none => (none : Option (List Value))) = none := fun x => by
    match s with
    | 1 | 2 | 3 => rfl
    | s + 4 => rfl
  match k with
  | 0 => exact e a
  | 1 => exact e b
  | 2 => exact e c
  | 3 => exact e d
  | k + 4 => rfl
theorem cnt_rwss (a b c d : Int) (s : Nat) (hs : 0 < s) (x : List Value) : ∀ k, cntL s (rws a b c d) k x = 0
  | 0 => rfl
  | k + 1 => by
    show cntL s (rws a b c d) k x + _ = _
    rw [cnt_rwss a b c d s hs x k, if_neg (fun h => by have := h.2; rw [hasC_rwss a b c d k s hs] at this; cases this)]
open Classical in
theorem cnt_rws0 (a b c d : Int) (x : List Value) : cntL 0 (rws a b c d) 4 x = (if Value.int .i64 b :: cellR = x then 1 else 0) + (if Value.int .i64 c :: cellR = x then 1 else 0) + (if Value.int .i64 d :: cellR = x then 1 else 0) := by
  simp [cntL, hasC_rws0]
theorem agreeL_rws (a b c d : Int) (h : Hd) (hp : MostP 4 0 (rws a b c d) 4 h) : agreeL 4 (rws a b c d) = [h, hd0, hd0, hd0] := by
  have e0 := hp.eq (by omega) (by omega)
  have es : ∀ s, 0 < s → s < 4 → mostH 4 s (rws a b c d) 4 = hd0 := fun s h0 h4 => (MostP.eq h4 (by omega) (.inr ⟨rfl, fun x => by rw [cnt_rwss a b c d s h0 x]; omega⟩)).symm
  unfold agreeL
  rw [if_pos (by omega)]
  have hr : List.range (Int.toNat 4) = [0, 1, 2, 3] := rfl
  have hm : min (Int.toNat 4) (rws a b c d).length = 4 := rfl
  rw [hr, hm]
  show [mostH 4 0 (rws a b c d) 4, mostH 4 1 (rws a b c d) 4, mostH 4 2 (rws a b c d) 4, mostH 4 3 (rws a b c d) 4] = _
  rw [← e0, es 1 (by omega) (by omega), es 2 (by omega) (by omega), es 3 (by omega) (by omega)]
theorem agr_a : agreeL 4 (rws 9 5 5 5) = [sdH 5, hd0, hd0, hd0] := agreeL_rws _ _ _ _ _ (.inl ⟨_, rfl, sdH_ok (by omega) (by omega), by rw [cnt_rws0]; simp⟩)
theorem agr_b : agreeL 4 (rws 9 5 6 5) = [sdH 5, hd0, hd0, hd0] := agreeL_rws _ _ _ _ _ (.inl ⟨_, rfl, sdH_ok (by omega) (by omega), by rw [cnt_rws0]; simp⟩)
theorem agr_c : agreeL 4 (rws 9 5 6 7) = [hd0, hd0, hd0, hd0] := agreeL_rws _ _ _ _ _ (.inr ⟨rfl, fun x => by
  rw [cnt_rws0]
  by_cases h5 : Value.int .i64 5 :: cellR = x
  · subst h5; simp
  · by_cases h6 : Value.int .i64 6 :: cellR = x
    · subst h6; simp
    · rw [if_neg h5, if_neg h6]; split <;> omega⟩)
end Go.Proofs.Ytbdklfcgcmdgaaa
namespace Go.Proofs.Ytbdklfcgcmdgaaa
open Go.RowKit
set_option linter.unusedVariables false
set_option linter.unusedSimpArgs false

set_option maxRecDepth 100000 in
set_option maxHeartbeats 2000000 in
theorem said4_any (age : Int) (h0 : 0 ≤ age) (h1 : age ≤ 100) (w : World) :
    Calls Try.prog 63 #[.int .i64 4, .int .i64 0, .int .i64 age] w (RowPost (sdR age) w) := by
  have hok := sdR_ok h0 h1
  have hho := sdH_ok h0 h1
  have hhl := Hd.vals_len hho
  have hhc := Hd.cell1 hho
  have hm4 : madeOk (.int .i64 4) (.int .i64 4) = true := by decide
  have hv4 : lenV (.int .i64 4) = 4 := by decide
  have HK := Lib.hid (And.intro hok hho)
  clear hok hho
  go_enter Try.func63, Try.ntmps63
  go_upto_region 2 with fail
  have b0 : Blk (((w.alloc (.cells rowZ.toArray 54)).alloc (.cells (zrep heldZ 4).toArray 114)).alloc (.cells (Value.bool true :: (cellZ ++ [Value.slice (some ⟨w.heap.size + 1, 0, none⟩) 4 4])).toArray 54)) w.heap.size 54 rowZ.toArray := ((Blk.new _ _ _).alloc _).alloc _
  have b1 : Blk (((w.alloc (.cells rowZ.toArray 54)).alloc (.cells (zrep heldZ 4).toArray 114)).alloc (.cells (Value.bool true :: (cellZ ++ [Value.slice (some ⟨w.heap.size + 1, 0, none⟩) 4 4])).toArray 54)) (w.heap.size + 1) 114 (zrep heldZ 4).toArray := (new1 _ _ _ _).alloc _
  have b2 : Blk (((w.alloc (.cells rowZ.toArray 54)).alloc (.cells (zrep heldZ 4).toArray 114)).alloc (.cells (Value.bool true :: (cellZ ++ [Value.slice (some ⟨w.heap.size + 1, 0, none⟩) 4 4])).toArray 54)) (w.heap.size + 1 + 1) 54 (Value.bool true :: (cellZ ++ [Value.slice (some ⟨w.heap.size + 1, 0, none⟩) 4 4])).toArray := new2 _ _ _ _ _
  have bB : Below w.heap.size w (((w.alloc (.cells rowZ.toArray 54)).alloc (.cells (zrep heldZ 4).toArray 114)).alloc (.cells (Value.bool true :: (cellZ ++ [Value.slice (some ⟨w.heap.size + 1, 0, none⟩) 4 4])).toArray 54)) := (((Below.refl _ _).alloc (Nat.le_refl _) _).alloc (by simp) _).alloc (by simp; omega) _
  generalize (((w.alloc (.cells rowZ.toArray 54)).alloc (.cells (zrep heldZ 4).toArray 114)).alloc (.cells (Value.bool true :: (cellZ ++ [Value.slice (some ⟨w.heap.size + 1, 0, none⟩) 4 4])).toArray 54)) = w0 at b0 b1 b2 bB ⊢
  have hzc := len_cellZ
  have hrl : (Value.bool true :: (cellZ ++ [Value.slice (some ⟨w.heap.size + 1, 0, none⟩) 4 4])).length = 57 := by simp [hzc]
  have hrc : (Value.bool true :: (cellZ ++ [Value.slice (some ⟨w.heap.size + 1, 0, none⟩) 4 4])).all cell1 = true := by
    have := cellZ_cell1
    simp [List.all_append, cell1] at this ⊢; exact this
  have f56 : w0.cell? ⟨w.heap.size + 1 + 1, 56, none⟩ = some (.slice (some ⟨w.heap.size + 1, 0, none⟩) 4 4) := by rw [b2.cell]; simp [List.getElem?_append, hzc]
  have b1' : Blk w0 (w.heap.size + 1) 114 (flatH (List.replicate 4 hd0)).toArray := by rw [← flatH_rep]; exact b1
  have hro : ∀ x ∈ List.replicate 4 hd0, x.ok := fun x hx => by rw [List.eq_of_mem_replicate hx]; exact hd0_ok
  have hp1 : canPut w0 ⟨w.heap.size + 1, 0, none⟩ 56 = true := by
    obtain ⟨-, -, -, -, h5⟩ := b1'.rules
    rw [h5, len_flatH hro]; simp
  have hb1n : Blk (putRow w0 ⟨w.heap.size + 1, 0, none⟩ (sdH age).vals) (w.heap.size + 1) 114 (flatH [sdH age, hd0, hd0, hd0]).toArray := by
    have h2 := b1'.put 0 (sdH age).vals
    have h3 := flatH_set hro (k := 0) (by simp) (sdH age) HK.out.2
    have h4 : (List.replicate 4 hd0).set 0 (sdH age) = [sdH age, hd0, hd0, hd0] := rfl
    rw [h4] at h3
    rw [← h3]; exact h2
  have hpo : ∀ (l : List Value) (b : Nat), b ≠ w.heap.size + 1 → (putRow w0 ⟨w.heap.size + 1, 0, none⟩ l).heap[b]? = w0.heap[b]? := fun l b hb => putRow_other _ _ _ _ hb
  have b0n : Blk (putRow w0 ⟨w.heap.size + 1, 0, none⟩ (sdH age).vals) w.heap.size 54 rowZ.toArray := (hpo _ _ (by omega)).trans b0
  have b2n : Blk (putRow w0 ⟨w.heap.size + 1, 0, none⟩ (sdH age).vals) (w.heap.size + 1 + 1) 54 (Value.bool true :: (cellZ ++ [Value.slice (some ⟨w.heap.size + 1, 0, none⟩) 4 4])).toArray := (hpo _ _ (by omega)).trans b2
  have bBn := Below.put bB (p := ⟨w.heap.size + 1, 0, none⟩) (Nat.le_succ _) (sdH age).vals
  have hvals : (sdH age).vals = Value.bool true :: Value.int .i64 age :: cellR := rfl
  generalize hw1 : putRow w0 ⟨w.heap.size + 1, 0, none⟩ (sdH age).vals = w1 at hb1n b0n b2n bBn
  rw [hvals] at hw1 hhc hhl
  obtain ⟨q1, q2, -⟩ := b2n.whole (n := 57) hrl
  obtain ⟨-, -, q3⟩ := b0n.whole (n := 57) len_rowZ
  obtain ⟨p1, p2, -⟩ := (b0n.put_all (l := Value.bool true :: (cellZ ++ [Value.slice (some ⟨w.heap.size + 1, 0, none⟩) 4 4])) (by rw [len_rowZ, hrl])).whole (n := 57) hrl
  have hfin : RowPost (sdR age) w (.returned (.agg ((sdR age).vals (.slice (some ⟨w.heap.size + 1, 0, none⟩) 4 4)).toArray)) (putRow w1 ⟨w.heap.size, 0, none⟩ (Value.bool true :: (cellZ ++ [Value.slice (some ⟨w.heap.size + 1, 0, none⟩) 4 4]))) := by
    refine ⟨_, rfl, ⟨_, 4, 4, rfl, ?_, Nat.le_refl _, by simp [maxLen]⟩, Below.put bBn (p := ⟨w.heap.size, 0, none⟩) (Nat.le_refl _) _⟩
    have h3 : Blk (putRow w1 ⟨w.heap.size, 0, none⟩ (Value.bool true :: (cellZ ++ [Value.slice (some ⟨w.heap.size + 1, 0, none⟩) 4 4]))) (w.heap.size + 1) 114 (flatH [sdH age, hd0, hd0, hd0] ++ []).toArray := by
      rw [List.append_nil]
      exact (putRow_other _ _ _ _ (by show w.heap.size + 1 ≠ _; simp)).trans hb1n
    exact (RdHs.of_blk h3 HK.out.1.2).mono (fun b _ h => by omega)
  have HP := Lib.hid (And.intro p1 (And.intro p2 hfin))
  clear b0 b1 b2 bB b1' hro hb1n hpo b0n b2n bBn p1 p2 hfin hvals
  go_wp2_with fail
  try simp only [Exit.inBlock, Exit.then]
  first | refine bodyPost_ret (ret_row (n := 57) rfl (by kernel_rfl) _ _ _ rfl ?_) rfl ?_ | refine bodyPost_end (ret_row (n := 57) rfl (by kernel_rfl) _ _ _ rfl ?_) rfl ?_
  · exact HP.out.1
  · rw [HP.out.2.1]; exact HP.out.2.2
end Go.Proofs.Ytbdklfcgcmdgaaa
namespace Go.Proofs.Ytbdklfcgcmdgaaa
open Go.RowKit
set_option linter.unusedVariables false
set_option linter.unusedSimpArgs false

open Classical in
set_option maxRecDepth 100000 in
set_option maxHeartbeats 4000000 in
theorem sameAll_any (S S' : Nat → Prop) (a a' : Option Addr) (len cap len' cap' : Nat) (l l' : List Rw) (w : World) (hrd : RdRs S w a len l) (hm1 : len ≤ cap) (hm2 : cap ≤ maxLen) (hrd' : RdRs S' w a' len' l') (hm1' : len' ≤ cap') (hm2' : cap' ≤ maxLen)
    (hbt : ∀ r ∈ l, r.t.length ≤ 100000) :
    Calls Try.prog 21 #[.slice a len cap, .slice a' len' cap'] w fun e w' => e = .returned (.bool (decide (l = l'))) ∧ Below w.heap.size w w' := by
  obtain ⟨q, hq⟩ : ∃ q, q = decide (l = l') := ⟨_, rfl⟩
  rw [← hq]
  have HQ := Lib.hid hq
  have hll : l.length = len := hrd.1
  have hll' : l'.length = len' := hrd'.1
  unfold maxLen at hm2 hm2'
  have HR := Lib.hid (And.intro hrd (And.intro hrd' hbt))
  clear hrd hrd' hbt hq
  go_enter Try.func21, Try.ntmps21
  by_cases hne : len = len'
  · subst hne
    go_wp2_with fail
    go_loopw [5] (fun i wr => ∃ k : Nat, k ≤ len ∧ i = .int .i64 k ∧ l.take k = l'.take k ∧ Below w.heap.size w wr) (fun i _ => len - (intOf i).toNat)
    case atStart => exact ⟨0, by omega, rfl, rfl, Below.refl _ _⟩
    case round =>
      obtain ⟨k, hk, rfl, htk, hB⟩ := hrel
      by_cases hlt : k < len
      · obtain ⟨b, off, x, m, cp, r, rfl, hS, hbw, hv, hok, hrl, hrc1, hr1, hr2, hr3, hr4, hr5, hr6, hr7⟩ := HR.out.1.at_ k hlt
        obtain ⟨b', off', x', m', cp', r', rfl, hS', hbw', hv', hok', hrl', hrc1', hr1', hr2', hr3', hr4', hr5', hr6', hr7'⟩ := HR.out.2.1.at_ k hlt
        have d := row_below hB (p := ⟨b, off + k * 57, none⟩) hbw 57
        have d1 := d.1.trans hr1
        have d2 : rowOf wr ⟨b, off + k * 57, none⟩ 57 = r.vals (.slice x m cp) := d.2.trans hr2
        have hrow : RowR S wr r (.slice x m cp) := ⟨x, m, cp, rfl, hr5.below hB (fun _ _ h => h), hr6, hr7⟩
        have hrow' : RowR S' wr r' (.slice x' m' cp') := ⟨x', m', cp', rfl, hr5'.below hB (fun _ _ h => h), hr6', hr7'⟩
        have HF : Hid (∀ w' : World, Below wr.heap.size wr w' → hasRow w' ⟨b', off' + k * 57, none⟩ 57 = true ∧ rowOf w' ⟨b', off' + k * 57, none⟩ 57 = r'.vals (.slice x' m' cp') ∧ RowR S' w' r' (.slice x' m' cp')) := Lib.hid fun w' h' => by
          have d := row_below (hB.trans (h'.mono hB.size)) (p := ⟨b', off' + k * 57, none⟩) hbw' 57
          exact ⟨d.1.trans hr1', d.2.trans hr2', hrow'.below h'⟩
        obtain ⟨e1, e2, -⟩ := HF.out wr (Below.refl _ _)
        have HC := Lib.hid (fun (w' : World) (h' : Below wr.heap.size wr w') => other_any S r hok (.slice x m cp) w' (hrow.below h') (HR.out.2.2 r (List.mem_of_getElem? hv)))
        have HK := Lib.hid (And.intro hB (And.intro htk (And.intro hv (And.intro hv' (And.intro hok hok')))))
        clear d hr1 hr2 hr3 hr4 hr5 hr6 hr7 hrow hB htk hv hrl hrc1 hr1' hr2' hr3' hr4' hr5' hr6' hr7' hrow' hv' hrl' hrc1'
        have hdec : decide (r = r') = true ∨ (decide (r = r') = false ∧ q = false) := by
          by_cases hrr : r = r'
          · exact .inl (by simp [hrr])
          · refine .inr ⟨by simp [hrr], ?_⟩
            rw [HQ.out, decide_eq_false_iff_not]
            rintro rfl
            have := HK.out.2.2.1.symm.trans HK.out.2.2.2.1
            exact hrr (by injection this)
        obtain ⟨dd, hdd⟩ : ∃ dd, dd = decide (r = r') := ⟨_, rfl⟩
        have HD := Lib.hid hdd
        rw [← hdd] at hdec
        clear hdd
        rcases hdec with hdt | ⟨hdt, hqf⟩
        · have hrr : Hid (r = r') := Lib.hid (by have := HD.out; rw [hdt] at this; simpa using this.symm)
          go_wp2
          go_region_law (first
            | (go_simp; go_at_call 24; refine (HC.out _ (Below.refl _ _).drew).mono ?_; rintro e w1 ⟨tv1, rfl, hrow1, hb1⟩; obtain ⟨g1, g2, g3⟩ := HF.out w1 ((Below.refl _ _).drew.trans hb1); have H1 := Lib.hid (And.intro ((Below.refl _ _).drew.trans hb1) (And.intro hrow1 g3)); clear hrow1 hb1 g3)
            | (go_simp; go_at_call 56; refine (rsame_any _ _ r r' hok hok' tv1 _ w1 H1.out.2.1 H1.out.2.2).mono ?_; rintro e w2 ⟨rfl, hb2⟩; rw [← HD.out]; have H2 := Lib.hid hb2; clear hb2))
          all_goals go_wp2
          all_goals exact ⟨⟨k + 1, by omega, by go_num, take_eq_succ HK.out.2.1 HK.out.2.2.1 (hrr.out ▸ HK.out.2.2.2.1), (HK.out.1.trans (H1.out.1.mono HK.out.1.size)).trans (H2.out.mono (Nat.le_trans HK.out.1.size H1.out.1.size))⟩, by simp [intOf]; omega⟩
        · have HQF := Lib.hid hqf
          clear hqf
          go_wp2
          go_region_law (first
            | (go_simp; go_at_call 24; refine (HC.out _ (Below.refl _ _).drew).mono ?_; rintro e w1 ⟨tv1, rfl, hrow1, hb1⟩; obtain ⟨g1, g2, g3⟩ := HF.out w1 ((Below.refl _ _).drew.trans hb1); have H1 := Lib.hid (And.intro ((Below.refl _ _).drew.trans hb1) (And.intro hrow1 g3)); clear hrow1 hb1 g3)
            | (go_simp; go_at_call 56; refine (rsame_any _ _ r r' hok hok' tv1 _ w1 H1.out.2.1 H1.out.2.2).mono ?_; rintro e w2 ⟨rfl, hb2⟩; rw [← HD.out]; have H2 := Lib.hid hb2; clear hb2))
          all_goals go_wp2
          all_goals go_ret
          all_goals exact ⟨by rw [HQF.out]; rfl, (HK.out.1.trans (H1.out.1.mono HK.out.1.size)).trans (H2.out.mono (Nat.le_trans HK.out.1.size H1.out.1.size))⟩
      · have hkl : k = len := by omega
        subst hkl
        rw [List.take_of_length_le (by omega), List.take_of_length_le (by omega)] at htk
        have hqt : q = true := by rw [HQ.out, htk]; simp
        have H := Lib.hid (And.intro hqt hB)
        clear hqt hB htk
        go_wp2
        go_ret
        exact ⟨by rw [H.out.1]; rfl, H.out.2⟩
  · have hqf : q = false := by
      rw [HQ.out, decide_eq_false_iff_not]
      rintro rfl
      omega
    have H := Lib.hid hqf
    have hne2 : ((len : Int) != (len' : Int)) = true := by simp; omega
    clear hqf
    go_wp2_with fail
    go_ret
    exact ⟨by rw [H.out]; rfl, Below.refl _ _⟩
end Go.Proofs.Ytbdklfcgcmdgaaa
