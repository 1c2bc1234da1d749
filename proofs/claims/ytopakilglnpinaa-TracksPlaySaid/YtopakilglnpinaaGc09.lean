/-
  sennitref13.Plain. words.Norm.
-/
import Derived.Test.YtopakilglnpinaaGc08
import Derived.Test.YtopakilglnpinaaGc06
import Derived.Deep.CutRange
namespace Go.Proofs.Ytopakilglnpinaa
open Go.RowKit
set_option linter.unusedVariables false
set_option linter.unusedSimpArgs false

theorem fillH_snoc (k : Nat) (l : List Hd) : fillH (k + 1) l = fillH k l ++ [match l[k]? with | some h => h.nrm | none => hd0] := by
  unfold fillH
  by_cases h : k < l.length
  · have e1 : k + 1 - l.length = 0 := by omega
    have e2 : k - l.length = 0 := by omega
    rw [e1, e2, List.take_add_one, List.getElem?_eq_getElem h]
    simp only [Option.toList_some, List.map_append, List.map_cons, List.map_nil, List.replicate_zero, List.append_nil]
  · have e1 : k + 1 - l.length = (k - l.length) + 1 := by omega
    rw [e1, List.take_of_length_le (by omega), List.take_of_length_le (by omega), List.getElem?_eq_none (by omega), List.replicate_succ']
    simp

structure RP (w : World) (rv c : List Value) (t : List Hd) (k : Nat) (v : Value) (wr : World) : Prop where
  b0 : Blk wr w.heap.size 74 rv.toArray
  b1 : Blk wr (w.heap.size + 1) 74 rowZ.toArray
  b2 : Blk wr (w.heap.size + 1 + 1) 74 (Value.bool true :: (c ++ [v])).toArray
  own : wr.ownsRow (w.heap.size + 1 + 1 + 1) 107 56 v k ((fillH k t).flatMap Hd.vals)
  sz : w.heap.size + 1 + 1 + 1 ≤ wr.heap.size
  bel : Below w.heap.size w wr

theorem new2 (w : World) (A B : Obj) (z : List Value) (t : TypeId) : Blk (((w.alloc A).alloc B).alloc (.cells z.toArray t)) (w.heap.size + 1 + 1) t z.toArray := by
  have := Blk.new ((w.alloc A).alloc B) t z.toArray
  have e : ((w.alloc A).alloc B).heap.size = w.heap.size + 1 + 1 := by simp
  rwa [e] at this
theorem new1 (w : World) (A : Obj) (z : List Value) (t : TypeId) : Blk ((w.alloc A).alloc (.cells z.toArray t)) (w.heap.size + 1) t z.toArray := by
  have := Blk.new (w.alloc A) t z.toArray
  have e : (w.alloc A).heap.size = w.heap.size + 1 := by simp
  rwa [e] at this

/-- the three rows as the walk begins -/
structure R3 (w : World) (rv : List Value) (wr : World) : Prop where
  b0 : Blk wr w.heap.size 74 rv.toArray
  b1 : Blk wr (w.heap.size + 1) 74 rowZ.toArray
  b2 : Blk wr (w.heap.size + 1 + 1) 74 rowZ.toArray
  sz : w.heap.size + 1 + 1 + 1 = wr.heap.size
  bel : Below w.heap.size w wr
theorem R3.start (w : World) (rv : List Value) : R3 w rv (((w.alloc (.cells rv.toArray 74)).alloc (.cells rowZ.toArray 74)).alloc (.cells rowZ.toArray 74)) :=
  ⟨((Blk.new _ _ _).alloc _).alloc _, (new1 _ _ _ _).alloc _, new2 _ _ _ _ _, by simp, (((Below.refl _ _).alloc (Nat.le_refl _) _).alloc (by simp) _).alloc (by simp; omega) _⟩
/-- where nothing is there -/
theorem R3.end_ {w : World} {rv : List Value} {wr : World} (h : R3 w rv wr) : hasRow wr ⟨w.heap.size + 1 + 1, 0, none⟩ 57 = true ∧ rowOf wr ⟨w.heap.size + 1 + 1, 0, none⟩ 57 = rowZ ∧ canPut wr ⟨w.heap.size + 1, 0, none⟩ 57 = true ∧
    hasRow (putRow wr ⟨w.heap.size + 1, 0, none⟩ rowZ) ⟨w.heap.size + 1, 0, none⟩ 57 = true ∧ rowOf (putRow wr ⟨w.heap.size + 1, 0, none⟩ rowZ) ⟨w.heap.size + 1, 0, none⟩ 57 = rowZ ∧ Below w.heap.size w (putRow wr ⟨w.heap.size + 1, 0, none⟩ rowZ) := by
  obtain ⟨q1, q2, -⟩ := h.b2.whole len_rowZ
  obtain ⟨-, -, q3⟩ := h.b1.whole len_rowZ
  obtain ⟨p1, p2, -⟩ := (h.b1.put_all rfl).whole len_rowZ
  exact ⟨q1, q2, q3, p1, p2, Below.put h.bel (by simp) _⟩

set_option maxRecDepth 100000 in
set_option maxHeartbeats 1000000 in
/-- the row is not there, or the size is none -/
theorem rplain_no (n : Int) (is : Bool) (c : List Value) (t : List Hd) (tv : Value) (hc : c.length = 55) (htv : lenC tv 1 = true) (hbad : (is && mayN n) = false) (w : World) :
    Calls Try.prog 32 #[.int .i64 n, .agg (Value.bool is :: (c ++ [tv])).toArray] w (PlainPost n ⟨is, c, t⟩ w) := by
  have HP : Hid (Rw.plain n ⟨is, c, t⟩ = rw0) := Lib.hid (by unfold Rw.plain; rw [if_neg (by simp only; rw [hbad]; simp)])
  have HS := Lib.hid (R3.start w (Value.bool is :: (c ++ [tv])))
  go_enter Try.func32, Try.ntmps32
  go_upto_region 2 with fail
  generalize (((w.alloc (.cells (Value.bool is :: (c ++ [tv])).toArray 74)).alloc (.cells rowZ.toArray 74)).alloc (.cells rowZ.toArray 74)) = w0 at HS ⊢
  have f0 : w0.cell? ⟨w.heap.size, 0, none⟩ = some (.bool is) := by rw [HS.out.b0.cell]; rfl
  obtain ⟨q1, q2, q3, p1, p2, p3⟩ := HS.out.end_
  have HE := Lib.hid (And.intro p1 (And.intro p2 p3))
  have hb : n < 0 ∨ 16 < n ∨ is = false := by
    cases is
    · simp
    · simp [mayN] at hbad ⊢; omega
  clear p1 p2 p3 hbad HS
  by_cases h1 : n < 0
  · clear hb
    go_wp2_with fail
    try simp only [Exit.inBlock, Exit.then]
    first | refine bodyPost_ret (ret_row (n := 57) rfl (by kernel_rfl) _ _ _ rfl ?_) rfl ?_ | refine bodyPost_end (ret_row (n := 57) rfl (by kernel_rfl) _ _ _ rfl ?_) rfl ?_
    · exact HE.out.1
    · exact ⟨.slice none 0 0, by rw [HE.out.2.1, HP.out]; rfl, by rw [HP.out]; exact rowR_nil _ _ _ rfl, HE.out.2.2⟩
  · by_cases h2 : 16 < n
    · clear hb
      go_wp2_with fail
      try simp only [Exit.inBlock, Exit.then]
      first | refine bodyPost_ret (ret_row (n := 57) rfl (by kernel_rfl) _ _ _ rfl ?_) rfl ?_ | refine bodyPost_end (ret_row (n := 57) rfl (by kernel_rfl) _ _ _ rfl ?_) rfl ?_
      · exact HE.out.1
      · exact ⟨.slice none 0 0, by rw [HE.out.2.1, HP.out]; rfl, by rw [HP.out]; exact rowR_nil _ _ _ rfl, HE.out.2.2⟩
    · have his : is = false := by rcases hb with h | h | h; exact absurd h h1; exact absurd h h2; exact h
      subst his
      go_wp2_with fail
      try simp only [Exit.inBlock, Exit.then]
      first | refine bodyPost_ret (ret_row (n := 57) rfl (by kernel_rfl) _ _ _ rfl ?_) rfl ?_ | refine bodyPost_end (ret_row (n := 57) rfl (by kernel_rfl) _ _ _ rfl ?_) rfl ?_
      · exact HE.out.1
      · exact ⟨.slice none 0 0, by rw [HE.out.2.1, HP.out]; rfl, by rw [HP.out]; exact rowR_nil _ _ _ rfl, HE.out.2.2⟩

theorem RP.step {w : World} {rv c : List Value} (hcl : c.length = 55) {t : List Hd} (ht : ∀ x ∈ t, x.ok) {k : Nat} {v v' : Value} {wr wm w1 : World} (h : RP w rv c t k v wr) (hm : Below wr.heap.size wr wm) (hg : wm.grownBy w1 v.ownBlock)
    {y : Hd} (hy : y = match t[k]? with | some h => h.nrm | none => hd0)
    (ho : w1.ownsRow (w.heap.size + 1 + 1 + 1) 107 56 v' (k + 1) ((fillH k t).flatMap Hd.vals ++ y.vals)) :
    RP w rv c t (k + 1) v' (w1.setCell ⟨w.heap.size + 1 + 1, 56, none⟩ v') := by
  have hne : ∀ b, b < w.heap.size + 1 + 1 + 1 → some b ≠ v.ownBlock := fun b hb => own_ne h.own hb
  have hs := h.sz
  have hmk : ∀ (b : Nat) (t : TypeId) (cs : Array Value), b < w.heap.size + 1 + 1 + 1 → Blk wr b t cs → Blk w1 b t cs := fun b t cs hb hk => by
    have h1 := hk.below hm hk.lt
    exact (hg.block b h1.lt (hne b hb)).trans h1
  have hb2 := (hmk _ _ _ (by omega) h.b2).set_ 56 v'
  have e : (Value.bool true :: (c ++ [v])).toArray.setIfInBounds 56 v' = (Value.bool true :: (c ++ [v'])).toArray := by
    simp [List.set_append, hcl]
  rw [e] at hb2
  have hB1 : Below w.heap.size w w1 := (h.bel.trans (hm.mono (by omega))).grown hg (by have := hm.size; omega) (fun q hq => by have := (h.own.lt q hq).1; omega)
  refine ⟨(hmk _ _ _ (by omega) h.b0).far (by first | (simp; done) | (simp; omega)) _, (hmk _ _ _ (by omega) h.b1).far (by first | (simp; done) | (simp; omega)) _, hb2, ?_, ?_, hB1.setCell (by simp; omega) _⟩
  · rw [fillH_snoc, ← hy, List.flatMap_append]
    refine own_block (by simpa using ho) (fun q hq => Below.heap_setCell _ _ _ _ ?_)
    have := (ho.lt q hq).1
    simp; omega
  · have := hm.size; have := hg.size; simp; omega

theorem own_shape {w : World} {base : Nat} {e : TypeId} {size : Nat} {v : Value} {n : Nat} {xs : List Value} (h : w.ownsRow base e size v n xs) (hn : 0 < n) : ∃ g cap, v = .slice (some ⟨g, 0, none⟩) n cap := by
  rcases h.2 with ⟨_, rfl⟩ | ⟨g, cap, cur, rfl, _⟩
  · omega
  · exact ⟨g, cap, rfl⟩

set_option maxRecDepth 100000 in
set_option maxHeartbeats 2000000 in
theorem rplain_yes (S : Nat → Prop) (N : Nat) (hN : N ≤ 16) (c : List Value) (t : List Hd) (hr : Rw.ok ⟨true, c, t⟩) (x : Option Addr) (m cap : Nat) (w : World) (ht : RdHs S w x m t) (hmc : m ≤ cap) (hcm : cap ≤ maxLen) :
    Calls Try.prog 32 #[.int .i64 N, .agg (Value.bool true :: (c ++ [.slice x m cap])).toArray] w (PlainPost N ⟨true, c, t⟩ w) := by
  have HP : Hid (Rw.plain N ⟨true, c, t⟩ = ⟨true, nrm c, fillH N t⟩) := Lib.hid (by unfold Rw.plain; rw [if_pos (by simp [mayN]; omega)]; rfl)
  have HS := Lib.hid (R3.start w (Value.bool true :: (c ++ [.slice x m cap])))
  have hcl : c.length = 55 := (okL_len hr.1).trans len_cellK
  have hnl : (nrm c).length = 55 := (okL_len (nrm_ok hr.1)).trans len_cellK
  have hn1 := okL_cell1 (nrm_ok hr.1)
  have HK := Lib.hid hr
  have HT := Lib.hid (And.intro ht (And.intro hmc hcm))
  clear hr ht hmc
  go_enter Try.func32, Try.ntmps32
  go_upto_region 2 with fail
  generalize (((w.alloc (.cells (Value.bool true :: (c ++ [Value.slice x m cap])).toArray 74)).alloc (.cells rowZ.toArray 74)).alloc (.cells rowZ.toArray 74)) = w0 at HS ⊢
  have f0 : w0.cell? ⟨w.heap.size, 0, none⟩ = some (.bool true) := by rw [HS.out.b0.cell]; rfl
  have f1 : w0.cell? ⟨w.heap.size + 1 + 1, 0, none⟩ = some (.bool false) := by rw [HS.out.b2.cell]; rfl
  have f2 := HS.out.b2.frozen 0
  go_upto_region 5 with fail
  have hb2 : Blk (w0.setCell ⟨w.heap.size + 1 + 1, 0, none⟩ (.bool true)) (w.heap.size + 1 + 1) 74 (Value.bool true :: (cellZ ++ [Value.slice none 0 0])).toArray := HS.out.b2.set_ 0 (.bool true)
  have hs1 : R3 w (Value.bool true :: (c ++ [Value.slice x m cap])) w0 := HS.out
  have hc1 : Chg (· = w.heap.size + 1 + 1) w0 (w0.setCell ⟨w.heap.size + 1 + 1, 0, none⟩ (.bool true)) := (Chg.refl _ _).set_at 0 _
  generalize w0.setCell ⟨w.heap.size + 1 + 1, 0, none⟩ (.bool true) = w1 at hb2 hc1 ⊢
  have hb0 : Blk w1 w.heap.size 74 (Value.bool true :: (c ++ [Value.slice x m cap])).toArray := hs1.b0.chg hc1 (by omega)
  have hb1 : Blk w1 (w.heap.size + 1) 74 rowZ.toArray := hs1.b1.chg hc1 (by omega)
  have hB1 : Below w.heap.size w w1 := hs1.bel.trans (hc1.below (by have := hs1.sz; omega) (fun q hq => by omega))
  have hsz1 : w.heap.size + 1 + 1 + 1 ≤ w1.heap.size := by have := hs1.sz; have := hc1.size; omega
  have H1 := Lib.hid (And.intro hb0 (And.intro hb1 (And.intro hb2 hB1)))
  obtain ⟨-, -, r3, r4, -⟩ := hb0.rules
  have hvl : (Value.bool true :: (c ++ [Value.slice x m cap])).length = 57 := by simp [hcl]
  have g1 : hasRow w1 ⟨w.heap.size, 1, none⟩ 55 = true := by rw [r3, hvl]; rfl
  have g2 : rowOf w1 ⟨w.heap.size, 1, none⟩ 55 = c := by rw [r4 _ _ (by omega)]; simp [← hcl]
  clear hb0 hb1 hb2 hs1 hc1 f0 f1 f2 HS hB1 r3 r4 hvl
  go_wp2_with fail
  refine (rcellL_any c HK.out.1 _).mono ?_
  rintro e w2 ⟨rfl, hbl⟩
  clear g1 g2
  have hk2 := H1.out.2.2.1.below hbl (by omega)
  have g3 : canPut w2 ⟨w.heap.size + 1 + 1, 1, none⟩ 55 = true := by
    obtain ⟨-, -, -, -, h5⟩ := hk2.rules
    rw [h5]; simp [len_cellZ]
  have hk3 := hk2.put 1 (nrm c)
  have e3 : (Value.bool true :: (cellZ ++ [Value.slice none 0 0])).take 1 ++ nrm c ++ (Value.bool true :: (cellZ ++ [Value.slice none 0 0])).drop (1 + (nrm c).length) = Value.bool true :: (nrm c ++ [Value.slice none 0 0]) := by
    rw [hnl]; simp [len_cellZ, List.drop_append]
  rw [e3] at hk3
  have hrp : RP w (Value.bool true :: (c ++ [Value.slice x m cap])) (nrm c) t 0 (.slice none 0 0) (putRow w2 ⟨w.heap.size + 1 + 1, 1, none⟩ (nrm c)) := by
    refine ⟨(H1.out.1.below hbl H1.out.1.lt).far_put (by simp; omega) _, (H1.out.2.1.below hbl H1.out.2.1.lt).far_put (by simp) _, hk3, ?_, ?_, Below.put (H1.out.2.2.2.trans (hbl.mono (by omega))) (by simp; omega) _⟩
    · have : (fillH 0 t).flatMap Hd.vals = [] := by simp [fillH]
      rw [this]; exact World.ownsRow_nil _ _ _ _
    · have := hbl.size; simp; omega
  have HRP := Lib.hid hrp
  clear hrp hk3 e3 hk2 hbl H1
  go_wp2_with fail
  generalize putRow w2 ⟨w.heap.size + 1 + 1, 1, none⟩ (nrm c) = w3 at HRP ⊢
  clear g3
  go_loopw [6] (fun i wr => ∃ (k : Nat) (v : Value), k ≤ N ∧ i = .int .i64 k ∧ RP w (Value.bool true :: (c ++ [Value.slice x m cap])) (nrm c) t k v wr) (fun i _ => N - (intOf i).toNat)
  case atStart => exact ⟨0, _, by omega, rfl, HRP.out⟩
  case round =>
    obtain ⟨k, v, hk, rfl, hr⟩ := hrel
    by_cases hlt : k < N
    · obtain ⟨y, hy⟩ : ∃ y, y = (match t[k]? with | some h => h.nrm | none => hd0) := ⟨_, rfl⟩
      obtain ⟨bb, hbb⟩ : ∃ b, b = (match t[k]? with | some h => h.is | none => false) := ⟨_, rfl⟩
      have htl : t.length = m := HT.out.1.1
      have HR := Lib.hid hr
      have HY := Lib.hid hy
      have HBB := Lib.hid hbb
      have f56 : ∀ w' : World, Below wr.heap.size wr w' → w'.cell? ⟨w.heap.size, 56, none⟩ = some (.slice x m cap) := fun w' h => by
        rw [(hr.b0.below h hr.b0.lt).cell]; simp [List.getElem?_append, hcl]
      have HF56 := Lib.hid f56
      have hsz := hr.sz
      clear hr hy hbb f56
      have p56 := HF56.out wr (Below.refl _ _)
      go_upto_region 10 with fail
      have hst : Blk (wr.alloc (.cells heldZ.toArray 107)) wr.heap.size 107 heldZ.toArray ∧ Below wr.heap.size wr (wr.alloc (.cells heldZ.toArray 107)) := ⟨Blk.new _ _ _, (Below.refl _ _).alloc (Nat.le_refl _) _⟩
      generalize wr.alloc (.cells heldZ.toArray 107) = w4 at hst ⊢
      have H4 := Lib.hid hst
      clear hst p56
      have q56 := HF56.out w4 H4.out.2
      go_cut [44] from 26 to 59 (fun s44 wx => s44 = .bool bb ∧ w4 = wx)
      case first =>
        by_cases hkm : k < m
        · obtain ⟨b, off, is, n, r, rfl, hS, hbw, hv, hok, hrl, hrc1, hr1, hr2, hr3, hr4, hr5, -⟩ := HT.out.1.at_ k hkm
          have d5 : w4.cell? ⟨b, off + k * 56, none⟩ = some (.bool is) := ((HR.out.bel.trans (H4.out.2.mono (by omega))).cell (p := ⟨b, off + k * 56, none⟩) hbw).trans hr5
          have e : bb = is := by rw [HBB.out, hv]
          clear hr1 hr2 hr3 hr4 hr5 hv hok hrc1
          go_wp2_with fail
          go_meet
          exact ⟨by rw [e], rfl⟩
        · have e : bb = false := by rw [HBB.out, List.getElem?_eq_none (by omega)]
          go_wp2_with fail
          go_meet
          exact ⟨by rw [e], rfl⟩
      case rest =>
        obtain ⟨rfl, rfl⟩ := hcut
        go_upto_if 44 with fail
        go_cut [] from 26 to 59 (fun wx => Blk wx wr.heap.size 107 y.vals.toArray ∧ Below wr.heap.size wr wx)
        case first =>
          cases bb with
          | false =>
            go_wp2_with fail
            go_meet
            have e : y = hd0 := by
              rw [HY.out]
              have := HBB.out
              split
              · rename_i h hh
                rw [hh] at this
                unfold Hd.nrm
                rw [if_neg (by simp only at this; rw [← this]; simp)]
              · rfl
            rw [e]; exact H4.out
          | true =>
            have hkm : k < m := by
              rcases Nat.lt_or_ge k m with h | h
              · exact h
              · have := HBB.out
                rw [List.getElem?_eq_none (by omega)] at this
                cases this
            obtain ⟨b, off, is, n, r, rfl, hS, hbw, hv, hok, hrl, hrc1, hr1, hr2, hr3, hr4, hr5, -⟩ := HT.out.1.at_ k hkm
            have his : is = true := by have := HBB.out; rw [hv] at this; exact this.symm
            subst his
            have hyv : y = ⟨true, nrm (.int .i64 n :: r)⟩ := by rw [HY.out, hv]; rfl
            have k1 : w4.cell? ⟨wr.heap.size, 0, none⟩ = some (.bool false) := by rw [H4.out.1.cell]; rfl
            have k2 := H4.out.1.frozen 0
            go_upto_region 12 with fail
            have hb5 : Blk (w4.setCell ⟨wr.heap.size, 0, none⟩ (.bool true)) wr.heap.size 107 (Value.bool true :: cellZ).toArray := H4.out.1.set_ 0 (.bool true)
            have hB5 : Below wr.heap.size wr (w4.setCell ⟨wr.heap.size, 0, none⟩ (.bool true)) := H4.out.2.setCell (by simp) _
            generalize w4.setCell ⟨wr.heap.size, 0, none⟩ (.bool true) = w5 at hb5 hB5 ⊢
            have H5 := Lib.hid (And.intro hb5 hB5)
            clear k1 k2 hb5 hB5 q56
            have d := row_below (HR.out.bel.trans (H5.out.2.mono (by omega))) (p := ⟨b, off + k * 56 + 1, none⟩) hbw 55
            have d3 := d.1.trans hr3
            have d4 := d.2.trans hr4
            have s56 := HF56.out w5 H5.out.2
            have HOK := Lib.hid hok
            have hyl : (nrm (.int .i64 n :: r)).length = 55 := (okL_len (nrm_ok hok)).trans len_cellK
            have hyc := okL_cell1 (nrm_ok hok)
            clear d hr1 hr2 hr3 hr4 hr5 hv hok hrc1
            go_wp2_with fail
            refine (rcellL_any _ HOK.out _).mono ?_
            rintro e w6 ⟨rfl, hb6⟩
            have hk6 := H5.out.1.below hb6 H5.out.1.lt
            have k6 : canPut w6 ⟨wr.heap.size, 1, none⟩ 55 = true := by
              obtain ⟨-, -, -, -, h5⟩ := hk6.rules
              rw [h5]; simp [len_cellZ]
            have hk7 := hk6.put 1 (nrm (.int .i64 n :: r))
            have e7 : (Value.bool true :: cellZ).take 1 ++ nrm (.int .i64 n :: r) ++ (Value.bool true :: cellZ).drop (1 + (nrm (.int .i64 n :: r)).length) = Value.bool true :: nrm (.int .i64 n :: r) := by
              rw [hyl]; simp [len_cellZ, List.drop_of_length_le]
            rw [e7] at hk7
            have H7 := Lib.hid (And.intro hk7 (Below.put (H5.out.2.trans (hb6.mono H5.out.2.size)) (p := ⟨wr.heap.size, 1, none⟩) (Nat.le_refl _) (nrm (.int .i64 n :: r))))
            clear hk6 hk7 e7 hb6 d3 d4 s56
            go_wp2_with fail
            go_meet
            rw [hyv]; exact H7.out
        case rest =>
          have HW := Lib.hid hcut
          have hyk : y.ok := by
            rw [HY.out]; split
            · rename_i h hh; exact Hd.nrm_ok (HK.out.2 h (List.mem_of_getElem? hh))
            · exact hd0_ok
          have hyl := Hd.vals_len hyk
          have hyc := Hd.cell1 hyk
          have hb2 := HR.out.b2.below hcut.2 (by omega)
          have c56 : wc.cell? ⟨w.heap.size + 1 + 1, 56, none⟩ = some v := by rw [hb2.cell]; simp [List.getElem?_append, hnl]
          obtain ⟨z1, z2, -⟩ := hcut.1.whole hyl
          have hown : wc.ownsRow (w.heap.size + 1 + 1 + 1) 107 56 v k ((fillH k t).flatMap Hd.vals) := own_block HR.out.own (fun q hq => hcut.2.block q (HR.out.own.lt q hq).2)
          have HO := Lib.hid hown
          have hszc : w.heap.size + 1 + 1 + 1 ≤ wc.heap.size := Nat.le_trans hsz hcut.2.size
          have hb2' := Lib.hid hb2
          clear hcut hown hb2 q56
          go_wp2_with (at_builtin; refine wpList_app app_rheld (by rfl) (.tmp 55) (.tmp 57) (by rfl) (w.heap.size + 1 + 1 + 1) _ _ _ (by rfl) (HO.out.alloc _) ⟨wc.heap.size, 0, none⟩ 1 1 y.vals (by rfl) (by simp [hyl]) (hasRow_new wc _ _ 0 56 (by simp [hyl])) ((rowOf_new wc _ _ 0 56 (by simp [hyl])).trans (List.take_of_length_le (by simp [hyl]))) hyc (by omega) (by simp; omega) ?_; intro v1 w7 hown1 hgrow; obtain ⟨gg, cp, rfl⟩ := own_shape hown1 (by omega); have hnb := own_ne HO.out (b := w.heap.size + 1 + 1) (by omega); have hb7 := (hgrow.block _ (by simp; omega) hnb).trans (hb2'.out.alloc _); have c7 := Blk.cell hb7 56; have z7 := Blk.frozen hb7 56; simp [List.getElem?_append, hnl] at c7; have H8 := Lib.hid (And.intro hown1 hgrow); clear hown1 hgrow hnb hb7)
          refine ⟨⟨k + 1, _, by omega, by go_num, RP.step hnl HK.out.2 HR.out (HW.out.2.alloc HW.out.2.size _) H8.out.2 HY.out H8.out.1⟩, by simp [intOf]; omega⟩
    · have hkN : k = N := by omega
      subst hkN
      obtain ⟨ra, rcap, rfl, ho1, ho2, ho3⟩ := RdHs.of_own hr.own (fillH_ok HK.out.2)
      have hvl : (Value.bool true :: (nrm c ++ [Value.slice ra k rcap])).length = 57 := by simp [hnl]
      obtain ⟨q1, q2, -⟩ := hr.b2.whole (n := 57) hvl
      obtain ⟨-, -, q3⟩ := hr.b1.whole len_rowZ
      obtain ⟨p1, p2, -⟩ := (hr.b1.put_all (l := Value.bool true :: (nrm c ++ [Value.slice ra k rcap])) (by rw [len_rowZ, hvl])).whole hvl
      have hfin : RdHs (w.heap.size ≤ ·) (putRow wr ⟨w.heap.size + 1, 0, none⟩ (Value.bool true :: (nrm c ++ [Value.slice ra k rcap]))) ra k (fillH k t) :=
        (ho1.keep (by simp) (fun b hb _ => putRow_other _ _ _ _ (by simp; omega))).mono (fun b _ h => by omega)
      have H := Lib.hid (And.intro p1 (And.intro p2 (And.intro hfin (And.intro ho2 (And.intro ho3 (Below.put hr.bel (p := ⟨w.heap.size + 1, 0, none⟩) (by simp) (Value.bool true :: (nrm c ++ [Value.slice ra k rcap]))))))))
      clear p1 p2 hfin hr ho1 ho2 ho3
      go_wp2_with fail
      try simp only [Exit.inBlock, Exit.then]
      first | refine bodyPost_ret (ret_row (n := 57) rfl (by kernel_rfl) _ _ _ rfl ?_) rfl ?_ | refine bodyPost_end (ret_row (n := 57) rfl (by kernel_rfl) _ _ _ rfl ?_) rfl ?_
      · exact H.out.1
      · exact ⟨.slice ra k rcap, by rw [H.out.2.1, HP.out]; rfl, by rw [HP.out]; exact ⟨_, _, _, rfl, H.out.2.2.1, H.out.2.2.2.1, H.out.2.2.2.2.1⟩, H.out.2.2.2.2.2⟩

theorem rplain_any (S : Nat → Prop) (n : Int) (r : Rw) (hr : r.ok) (tv : Value) (w : World) (ht : RowR S w r tv) :
    Calls Try.prog 32 #[.int .i64 n, .agg (r.vals tv).toArray] w (PlainPost n r w) := by
  obtain ⟨x, m, cap, rfl, ht1, ht2, ht3⟩ := ht
  obtain ⟨is, c, t⟩ := r
  cases hb : (is && mayN n) with
  | false => exact rplain_no n is c t _ ((okL_len hr.1).trans len_cellK) rfl hb w
  | true =>
    rw [Bool.and_eq_true] at hb
    obtain ⟨rfl, hm⟩ := hb
    have hn : 0 ≤ n ∧ n ≤ 16 := by simpa [mayN] using hm
    obtain ⟨N, rfl⟩ : ∃ N : Nat, n = N := ⟨n.toNat, by omega⟩
    exact rplain_yes S N (by omega) c t hr x m cap w ht1 ht2 ht3
end Go.Proofs.Ytopakilglnpinaa
namespace Go.Proofs.Ytopakilglnpinaa
open Go.RowKit
set_option linter.unusedVariables false
set_option linter.unusedSimpArgs false

theorem row1 {w : World} {p : Addr} {v : Value} (h : w.cell? p = some v) : hasRow w p 1 = true ∧ rowOf w p 1 = [v] := by
  have h0 : p.add 0 = p := by obtain ⟨b, o, sp⟩ := p; unfold Addr.add; split <;> simp_all
  simp [hasRow, rowOf, h0, h]

/-- a word, in new memory -/
def WordPost (l : List Rw) (w : World) (e : Ending) (w' : World) : Prop :=
  ∃ a cap, e = .returned (.agg #[.slice a l.length cap]) ∧ RdRs (w.heap.size ≤ ·) w' a l.length l ∧ l.length ≤ cap ∧ cap ≤ maxLen ∧ Below w.heap.size w w'
/-- the tables' room may be written -/
def NormRoom (S : Nat → Prop) (w : World) (a : Option Addr) (len : Nat) : Prop :=
  ∀ k, k < len → ∃ b off cur tv, a = some ⟨b, off, none⟩ ∧ S b ∧ w.heap[b]? = some (.cells cur 54 (0, 0)) ∧ w.cell? ⟨b, off + k * 57 + 56, none⟩ = some tv ∧ RoomV S w tv
def NormPost (l : List Rw) (w : World) (e : Ending) (w' : World) : Prop :=
  ∃ a cap, e = .returned (.agg #[.slice a l.length cap]) ∧ RdRs (w.heap.size ≤ ·) w' a l.length l ∧ l.length ≤ cap ∧ cap ≤ maxLen ∧ Below w.heap.size w w' ∧ NormRoom (w.heap.size ≤ ·) w' a l.length
theorem normPost_nil {w w' : World} (h : Below w.heap.size w w') : NormPost [] w (.returned (.agg #[.slice none 0 0])) w' := ⟨none, 0, rfl, ⟨rfl, by simp, by simp⟩, Nat.le_refl _, by simp, h, fun k hk => by simp at hk⟩
theorem wordPost_nil {w w' : World} (h : Below w.heap.size w w') : WordPost [] w (.returned (.agg #[.slice none 0 0])) w' := ⟨none, 0, rfl, ⟨rfl, by simp, by simp⟩, Nat.le_refl _, by simp, h⟩
theorem rdRs_nil (S : Nat → Prop) (w : World) : RdRs S w none 0 [] := ⟨rfl, by simp, by simp⟩

set_option maxRecDepth 100000 in
set_option maxHeartbeats 1000000 in
theorem norm_any (S : Nat → Prop) (n : Int) (a : Option Addr) (len cap : Nat) (l : List Rw) (w : World) (hrd : RdRs S w a len l) (hm1 : len ≤ cap) (hm2 : cap ≤ maxLen) :
    Calls Try.prog 35 #[.int .i64 n, .agg #[.slice a len cap]] w (NormPost (normW n l) w) := by
  have hmf : ∀ (fn : Fn) (first cap : Array Value) (w : World), (Instr.makeFunc fn first cap).run Try.prog w = .ok (.func fn first cap) w := fun _ _ _ _ => rfl
  have HR := Lib.hid hrd
  clear hrd
  cases hm : mayN n with
  | false =>
    have e : normW n l = [] := by unfold normW; rw [hm]; rfl
    rw [e]
    go_enter Try.func35, Try.ntmps35
    go_wp2_with fail
    refine (may_any n _).mono ?_
    rintro e w' ⟨rfl, rfl⟩
    rw [hm]
    go_wp2_with fail
    have hc : (((w.alloc (.cells #[.int .i64 n] 3)).alloc (.cells #[.slice a len cap] 34)).alloc (.cells #[.slice none 0 0] 34)).cell? ⟨w.heap.size + 1 + 1, 0, none⟩ = some (.slice none 0 0) := (new2 w _ _ [.slice none 0 0] _).cell 0
    try simp only [Exit.inBlock, Exit.then]
    first | refine bodyPost_ret (ret_row (n := 1) rfl (by kernel_rfl) _ _ _ rfl ?_) rfl ?_ | refine bodyPost_end (ret_row (n := 1) rfl (by kernel_rfl) _ _ _ rfl ?_) rfl ?_
    · exact (row1 hc).1
    · rw [(row1 hc).2]
      exact normPost_nil ((((Below.refl _ _).alloc (Nat.le_refl _) _).alloc (by simp) _).alloc (by simp; omega) _)
  | true =>
    have hn : 0 ≤ n ∧ n ≤ 16 := by simpa [mayN] using hm
    obtain ⟨N, rfl⟩ : ∃ N : Nat, n = N := ⟨n.toNat, by omega⟩
    have e : normW N l = fillR N l := by unfold normW; rw [hm]; rfl
    rw [e]
    go_enter Try.func35, Try.ntmps35
    go_wp2_with fail
    refine (may_any N _).mono ?_
    rintro e w' ⟨rfl, rfl⟩
    rw [hm]
    go_wp2_with fail
    have hB : Below w.heap.size w (((w.alloc (.cells #[.int .i64 N] 3)).alloc (.cells #[.slice a len cap] 34)).alloc (.cells #[.slice none 0 0] 34)) := (((Below.refl _ _).alloc (Nat.le_refl _) _).alloc (by simp) _).alloc (by simp; omega) _
    have h0 : (((w.alloc (.cells #[.int .i64 N] 3)).alloc (.cells #[.slice a len cap] 34)).alloc (.cells #[.slice none 0 0] 34)).cell? ⟨w.heap.size, 0, none⟩ = some (.int .i64 N) :=
      (((Blk.new w 3 #[Value.int .i64 N]).alloc _).alloc _).cell 0
    have h2 : Blk (((w.alloc (.cells #[.int .i64 N] 3)).alloc (.cells #[.slice a len cap] 34)).alloc (.cells #[.slice none 0 0] 34)) (w.heap.size + 1 + 1) 34 #[.slice none 0 0] := new2 w _ _ [.slice none 0 0] _
    have hsz : (((w.alloc (.cells #[.int .i64 N] 3)).alloc (.cells #[.slice a len cap] 34)).alloc (.cells #[.slice none 0 0] 34)).heap.size = w.heap.size + 1 + 1 + 1 := by simp
    generalize (((w.alloc (.cells #[.int .i64 N] 3)).alloc (.cells #[.slice a len cap] 34)).alloc (.cells #[.slice none 0 0] 34)) = w0 at hB h0 h2 hsz ⊢
    refine (fillr_any S N (by omega) w.heap.size a len cap l w0 h0 (by omega) (HR.out.below hB (fun _ _ h => h)) hm1 hm2).mono ?_
    rintro e w1 ⟨rfl, hrows, hb1⟩
    have k2 := h2.below hb1 h2.lt
    have c2 := k2.cell 0
    have z2 := k2.frozen 0
    simp at c2
    have hfin : NormPost (fillR N l) w (.returned (.agg #[.slice (some ⟨w0.heap.size, 0, none⟩) N N])) (w1.setCell ⟨w.heap.size + 1 + 1, 0, none⟩ (.slice (some ⟨w0.heap.size, 0, none⟩) N N)) := by
      have hrd := (hrows.rd (fillR_ok HR.out.2.1)).mono (S' := (w.heap.size + 1 + 1 < ·)) (fun b _ h => by omega)
      rw [fillR_len] at hrd
      refine ⟨_, N, by rw [fillR_len], ?_, by rw [fillR_len]; exact Nat.le_refl _, by simp only [maxLen]; omega, (hB.trans (hb1.mono (by omega))).setCell (by simp; omega) _, fun k hk => ?_⟩
      rotate_left
      · rw [fillR_len] at hk
        obtain ⟨cur, tv, m1, m2, m3⟩ := hrows.room (fillR_ok HR.out.2.1) (List.getElem?_eq_getElem (by rw [fillR_len]; exact hk))
        have hc := (Chg.refl (· = w.heap.size + 1 + 1) w1).set_at 0 (.slice (some ⟨w0.heap.size, 0, none⟩) N N)
        refine ⟨w0.heap.size, 0, cur, tv, rfl, by omega, (hc.block _ hrows.lt (by omega)).trans m1, ?_, (m3.keep (fun b hb hlt => hc.block b hlt (by omega))).mono (fun b _ h => by omega)⟩
        rw [Nat.zero_add]
        exact (hc.cell (p := ⟨w0.heap.size, k * 57 + 56, none⟩) hrows.lt (by simp; omega)).trans m2
      rw [fillR_len]
      exact (hrd.chg ((Chg.refl (· = w.heap.size + 1 + 1) w1).set_at 0 _) (fun b _ h h' => by omega)).mono (fun b _ h => by omega)
    have hc : (w1.setCell ⟨w.heap.size + 1 + 1, 0, none⟩ (.slice (some ⟨w0.heap.size, 0, none⟩) N N)).cell? ⟨w.heap.size + 1 + 1, 0, none⟩ = some (.slice (some ⟨w0.heap.size, 0, none⟩) N N) := (k2.set_ 0 _).cell 0
    have HF := Lib.hid (And.intro hc hfin)
    clear hrows hb1 hfin k2 hB h0 h2 hc hsz
    go_wp2_with fail
    try simp only [Exit.inBlock, Exit.then]
    first | refine bodyPost_ret (ret_row (n := 1) rfl (by kernel_rfl) _ _ _ rfl ?_) rfl ?_ | refine bodyPost_end (ret_row (n := 1) rfl (by kernel_rfl) _ _ _ rfl ?_) rfl ?_
    · exact (row1 HF.out.1).1
    · rw [(row1 HF.out.1).2]; exact HF.out.2
end Go.Proofs.Ytopakilglnpinaa
