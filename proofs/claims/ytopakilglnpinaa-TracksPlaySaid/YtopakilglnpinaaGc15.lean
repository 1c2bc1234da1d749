/-
  sennitlaw13.Other: a row as the document has it.
-/
import Derived.Test.YtopakilglnpinaaGc14
import Derived.Deep.RegionLaw
namespace Go.Proofs.Ytopakilglnpinaa
open Go.RowKit
set_option linter.unusedVariables false
set_option linter.unusedSimpArgs false

@[go_sem] theorem bd_rheldP (ρ : Operand → Value) (d : Option Tmp) (x y : Operand) (ty : TypeId) (s : String) (af : Array Edge) (g : Option (Nat × Bool)) (w : World) (h1 : lenC (ρ x) 1 = true) (h2 : lenC (ρ y) 55 = true) : (execOp ρ { dst := d, op := .build 107 #[(0, x), (1, y)], type := ty, pos := s, after := af, guard := g }).run Try.prog w = .ok (.value (.agg (cellsL (ρ x) ++ cellsL (ρ y)).toArray)) w := bd_rheld ρ d x y ty s af g w h1 h2
/-- the same row, its table in new memory -/
def RowPost (r : Rw) (w : World) (e : Ending) (w' : World) : Prop := ∃ tv, e = .returned (.agg (r.vals tv).toArray) ∧ RowR (w.heap.size ≤ ·) w' r tv ∧ Below w.heap.size w w'

structure OP (w : World) (rv c : List Value) (is : Bool) (l : List Hd) (k : Nat) (v : Value) (wr : World) : Prop where
  b0 : Blk wr w.heap.size 54 rv.toArray
  b1 : Blk wr (w.heap.size + 1) 74 rowZ.toArray
  b2 : Blk wr (w.heap.size + 1 + 1) 74 (Value.bool is :: (c ++ [v])).toArray
  own : wr.ownsRow (w.heap.size + 1 + 1 + 1) 107 56 v k ((l.take k).flatMap Hd.vals)
  sz : w.heap.size + 1 + 1 + 1 ≤ wr.heap.size
  bel : Below w.heap.size w wr
theorem OP.start (w : World) (rv c : List Value) (is : Bool) (l : List Hd) : OP w rv c is l 0 (.slice none 0 0) (((w.alloc (.cells rv.toArray 54)).alloc (.cells rowZ.toArray 74)).alloc (.cells (Value.bool is :: (c ++ [.slice none 0 0])).toArray 74)) :=
  ⟨((Blk.new _ _ _).alloc _).alloc _, (new1 _ _ _ _).alloc _, new2 _ _ _ _ _, by simpa using World.ownsRow_nil _ _ _ _, by simp, (((Below.refl _ _).alloc (Nat.le_refl _) _).alloc (by simp) _).alloc (by simp; omega) _⟩

theorem OP.step {w : World} {rv c : List Value} (hcl : c.length = 55) {is : Bool} {l : List Hd} {k : Nat} {v v' : Value} {wr wm w1 : World} (h : OP w rv c is l k v wr) (hm : Below wr.heap.size wr wm) (hg : wm.grownBy w1 v.ownBlock)
    {y : Hd} (hy : l[k]? = some y) (ho : w1.ownsRow (w.heap.size + 1 + 1 + 1) 107 56 v' (k + 1) ((l.take k).flatMap Hd.vals ++ y.vals)) :
    OP w rv c is l (k + 1) v' (w1.setCell ⟨w.heap.size + 1 + 1, 56, none⟩ v') := by
  have hne : ∀ b, b < w.heap.size + 1 + 1 + 1 → some b ≠ v.ownBlock := fun b hb => own_ne h.own hb
  have hs := h.sz
  have hmk : ∀ (b : Nat) (t : TypeId) (cs : Array Value), b < w.heap.size + 1 + 1 + 1 → Blk wr b t cs → Blk w1 b t cs := fun b t cs hb hk => by
    have h1 := hk.below hm hk.lt
    exact (hg.block b h1.lt (hne b hb)).trans h1
  have hb2 := (hmk _ _ _ (by omega) h.b2).set_ 56 v'
  have e : (Value.bool is :: (c ++ [v])).toArray.setIfInBounds 56 v' = (Value.bool is :: (c ++ [v'])).toArray := by
    simp [List.set_append, hcl]
  rw [e] at hb2
  have hB1 : Below w.heap.size w w1 := (h.bel.trans (hm.mono (by omega))).grown hg (by have := hm.size; omega) (fun q hq => by have := (h.own.lt q hq).1; omega)
  refine ⟨(hmk _ _ _ (by omega) h.b0).far (by first | (simp; done) | (simp; omega)) _, (hmk _ _ _ (by omega) h.b1).far (by first | (simp; done) | (simp; omega)) _, hb2, ?_, ?_, hB1.setCell (by simp; omega) _⟩
  · rw [List.take_add_one, hy, List.flatMap_append]
    refine own_block (by simpa using ho) (fun q hq => Below.heap_setCell _ _ _ _ ?_)
    have := (ho.lt q hq).1
    simp; omega
  · have := hm.size; have := hg.size; simp; omega

set_option maxRecDepth 100000 in
set_option maxHeartbeats 8000000 in
theorem other_any (S : Nat → Prop) (r : Rw) (hr : r.ok) (tv : Value) (w : World) (ht : RowR S w r tv) (hlen : r.t.length ≤ 100000) :
    Calls Try.prog 16 #[.agg (r.vals tv).toArray] w (RowPost r w) := by
  obtain ⟨x, m, cap, rfl, t1, t2, t3⟩ := ht
  obtain ⟨is, c, t⟩ := r
  have hcl : c.length = 55 := (okL_len hr.1).trans len_cellK
  have hc1 := okL_cell1 hr.1
  have hml : t.length = m := t1.1
  unfold maxLen at t3
  have HT := Lib.hid t1
  have HK := Lib.hid hr
  have hst := OP.start w (Value.bool is :: (c ++ [.slice x m cap])) c is t
  have htk : List.take 55 (c ++ [Value.slice x m cap]) = c := by rw [← hcl, List.take_left]
  clear t1 hr
  simp only at hlen
  simp only [Rw.vals]
  have hvl : (Value.bool is :: (c ++ [Value.slice x m cap])).length = 57 := by simp [hcl]
  have hspl : ∀ (z l : List Value) (o : Nat), spl z o l = z.take o ++ l ++ z.drop (o + l.length) := fun _ _ _ => rfl
  have hfold : ∀ (cs l : List Value) (o j : Nat), o + j + l.length ≤ cs.length → List.foldl (fun cs x => cs.setIfInBounds (o + x.snd) x.fst) cs.toArray (l.zipIdx j) = (spl cs (o + j) l).toArray := fun cs l o j h => foldl_set l cs.toArray o j (by simpa using h)
  go_enter Try.func16, Try.ntmps16
  go_wp2_with fail
  generalize (((w.alloc (.cells (Value.bool is :: (c ++ [Value.slice x m cap])).toArray 54)).alloc (.cells rowZ.toArray 74)).alloc (.cells (Value.bool is :: (c ++ [Value.slice none 0 0])).toArray 74)) = w0 at hst ⊢
  have H0 := Lib.hid hst
  clear hst htk
  go_loopw [4] (fun i wr => ∃ (k : Nat) (v : Value), k ≤ m ∧ i = .int .i64 k ∧ OP w (Value.bool is :: (c ++ [Value.slice x m cap])) c is t k v wr) (fun i _ => m - (intOf i).toNat)
  case atStart => exact ⟨0, _, by omega, rfl, H0.out⟩
  case round =>
    obtain ⟨k, v, hk, rfl, hr⟩ := hrel
    have f56 : wr.cell? ⟨w.heap.size, 56, none⟩ = some (.slice x m cap) := by rw [hr.b0.cell]; simp [List.getElem?_append, hcl]
    by_cases hlt : k < m
    · obtain ⟨b, off, ih, n, rr, rfl, hS, hbw, hv, hok, hrl, hrc1, hr1, hr2, hr3, hr4, hr5, -⟩ := HT.out.at_ k hlt
      have d := row_below hr.bel (p := ⟨b, off + k * 56 + 1, none⟩) hbw 55
      have d3 := d.1.trans hr3
      have d4 := d.2.trans hr4
      have d5 : wr.cell? ⟨b, off + k * 56, none⟩ = some (.bool ih) := (hr.bel.cell (p := ⟨b, off + k * 56, none⟩) hbw).trans hr5
      have c56 : wr.cell? ⟨w.heap.size + 1 + 1, 56, none⟩ = some v := by rw [hr.b2.cell]; simp [List.getElem?_append, hcl]
      have hwr := hr.sz
      have hl2 : w.heap.size + 1 + 1 < wr.heap.size := by omega
      have hl0 : w.heap.size < wr.heap.size := by omega
      have hbr : b < wr.heap.size := Nat.lt_of_lt_of_le hbw hr.bel.size
      have HO := Lib.hid hr
      have HV := Lib.hid hv
      have HOK := Lib.hid hok
      clear d hr1 hr2 hr3 hr4 hr5 hv hok hr
      go_wp2
      go_region_law (first
        | (refine step_app app_rheld (by rfl) (.tmp 18) (.tmp 32) (by rfl) (w.heap.size + 1 + 1 + 1) _ _ _ (by rfl) ((HO.out.own.alloc _).drew) ⟨wr.heap.size, 0, none⟩ 1 1 (.bool ih :: .int .i64 n :: rr) (by rfl) (by simp [hrl])
            (hasRow_new wr _ _ 0 56 (by simp [hrl])) ((rowOf_new wr _ _ 0 56 (by simp [hrl])).trans (List.take_of_length_le (by simp [hrl]))) (by simp [hrc1, cell1]) (by omega) (by omega) (by simp; omega) ?_; intro gg cp w7 hown1 hgrow; have hnb := own_ne HO.out.own (b := w.heap.size + 1 + 1) (by omega); have hb7 := (hgrow.block _ (by simp; omega) hnb).trans ((HO.out.b2.alloc _).drew); have c7 := Blk.cell hb7 56; have z7 := Blk.frozen hb7 56; simp [List.getElem?_append, hcl] at c7; have H8 := Lib.hid (And.intro hown1 hgrow); clear hown1 hgrow hnb hb7))
      all_goals go_wp2
      all_goals exact ⟨⟨k + 1, _, by omega, by go_num, OP.step hcl HO.out ((Below.refl _ _).alloc (Nat.le_refl _) _).drew H8.out.2 HV.out H8.out.1⟩, by simp [intOf]; omega⟩
    · have hkm : k = m := by omega
      subst hkm
      obtain ⟨ra, rcap, rfl, ho1, ho2, ho3⟩ := RdHs.of_own hr.own (fun y hy => HK.out.2 y (List.mem_of_mem_take hy))
      rw [List.take_of_length_le (by omega)] at ho1
      have hvl2 : (Value.bool is :: (c ++ [Value.slice ra k rcap])).length = 57 := by simp [hcl]
      obtain ⟨q1, q2, -⟩ := hr.b2.whole (n := 57) hvl2
      obtain ⟨-, -, q3⟩ := hr.b1.whole len_rowZ
      obtain ⟨p1, p2, -⟩ := (hr.b1.put_all (l := Value.bool is :: (c ++ [Value.slice ra k rcap])) (by rw [len_rowZ, hvl2])).whole hvl2
      have hfin : RowPost ⟨is, c, t⟩ w (.returned (.agg (Value.bool is :: (c ++ [Value.slice ra k rcap])).toArray)) (putRow wr ⟨w.heap.size + 1, 0, none⟩ (Value.bool is :: (c ++ [Value.slice ra k rcap]))) :=
        ⟨.slice ra k rcap, rfl, ⟨_, _, _, rfl, (ho1.keep (by simp) (fun b hb _ => putRow_other _ _ _ _ (by simp; omega))).mono (fun b _ h => by omega), ho2, ho3⟩, Below.put hr.bel (by simp) _⟩
      have H := Lib.hid (And.intro p1 (And.intro p2 hfin))
      clear p1 p2 hfin hr ho1 ho2 ho3
      go_wp2_with fail
      try simp only [Exit.inBlock, Exit.then]
      first | refine bodyPost_ret (ret_row (n := 57) rfl (by kernel_rfl) _ _ _ rfl ?_) rfl ?_ | refine bodyPost_end (ret_row (n := 57) rfl (by kernel_rfl) _ _ _ rfl ?_) rfl ?_
      · exact H.out.1
      · rw [H.out.2.1]; exact H.out.2.2
end Go.Proofs.Ytopakilglnpinaa
