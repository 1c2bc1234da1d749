/-
  sennitlaw13.Twin: a row whose table has room behind it that bears a mark.
-/
import Derived.Test.YtopakilglnpinaaGc16
import Derived.Test.YtopakilglnpinaaGc27
namespace Go.Proofs.Ytopakilglnpinaa
open Go.RowKit
set_option linter.unusedVariables false
set_option linter.unusedSimpArgs false

def mkH : Hd := ⟨false, .int .i64 (-77) :: cellR⟩
theorem mkH_ok : mkH.ok := cellR_ok _ (by decide)
theorem mkH_vals : mkH.vals = .bool false :: .int .i64 (-77) :: cellR := rfl
theorem len_mkH : mkH.vals.length = 56 := Hd.vals_len mkH_ok
/-- a row whose table has two marks behind its end -/
def TwR (S : Nat → Prop) (w : World) (r : Rw) (tv : Value) : Prop := ∃ x cap, tv = .slice x r.t.length cap ∧ RdHs S w x (r.t.length + 2) (r.t ++ [mkH, mkH]) ∧ r.t.length + 2 ≤ cap ∧ cap ≤ maxLen ∧ RoomV S w tv
theorem TwR.row {S : Nat → Prop} {w : World} {r : Rw} {tv : Value} (h : TwR S w r tv) : RowR S w r tv := by
  obtain ⟨x, cap, rfl, h1, h2, h3, -⟩ := h
  exact ⟨x, r.t.length, cap, rfl, h1.pre, by omega, h3⟩
theorem TwR.room {S : Nat → Prop} {w : World} {r : Rw} {tv : Value} (h : TwR S w r tv) : RoomV S w tv := by
  obtain ⟨x, cap, rfl, h1, h2, h3, h4⟩ := h
  exact h4
theorem TwR.keep {S : Nat → Prop} {w w' : World} {r : Rw} {tv : Value} (h : TwR S w r tv) (hs : w.heap.size ≤ w'.heap.size) (hk : ∀ b, S b → b < w.heap.size → w'.heap[b]? = w.heap[b]?) : TwR S w' r tv := by
  obtain ⟨x, cap, rfl, h1, h2, h3, h4⟩ := h
  exact ⟨x, cap, rfl, h1.keep hs hk, h2, h3, h4.keep hk⟩
theorem TwR.mono {S S' : Nat → Prop} {w : World} {r : Rw} {tv : Value} (h : TwR S w r tv) (hs : ∀ b, b < w.heap.size → S b → S' b) : TwR S' w r tv := by
  obtain ⟨x, cap, rfl, h1, h2, h3, h4⟩ := h
  exact ⟨x, cap, rfl, h1.mono hs, h2, h3, h4.mono hs⟩
theorem TwR.below {S : Nat → Prop} {w w' : World} {r : Rw} {tv : Value} (h : TwR S w r tv) (hb : Below w.heap.size w w') : TwR S w' r tv := h.keep hb.size fun b _ hlt => hb.block b hlt
def TwinPost (r : Rw) (w : World) (e : Ending) (w' : World) : Prop := ∃ tv, e = .returned (.agg (r.vals tv).toArray) ∧ TwR (w.heap.size ≤ ·) w' r tv ∧ Below w.heap.size w w'

theorem own_room {w : World} {m : Nat} (hm : m ≤ 1048576) (z : List Value) (hz : z.length = 56) : (w.alloc (.cells (zrep z m).toArray 90)).ownsRow w.heap.size 90 56 (.slice (some ⟨w.heap.size, 0, none⟩) 0 m) 0 [] :=
  ⟨rfl, .inr ⟨w.heap.size, m, _, rfl, Nat.le_refl _, heap_alloc_new w _, Nat.zero_le _, by simp only [maxLen]; omega, by simp [len_zrep, hz], by simp⟩⟩

/-- the walk's world: the row boxed, the result's place, the table of the call's own -/
structure TP (w : World) (rv : List Value) (v : Value) (n : Nat) (l : List Hd) (wr : World) : Prop where
  b0 : Blk wr w.heap.size 54 rv.toArray
  b1 : Blk wr (w.heap.size + 1) 54 rowZ.toArray
  own : wr.ownsRow (w.heap.size + 1 + 1) 90 56 v n (flatH l)
  sz : w.heap.size + 1 + 1 ≤ wr.heap.size
  bel : Below w.heap.size w wr
theorem TP.start (w : World) (rv : List Value) (m : Nat) (hm : m ≤ 1048576) :
    TP w rv (.slice (some ⟨w.heap.size + 1 + 1, 0, none⟩) 0 m) 0 [] (((w.alloc (.cells rv.toArray 54)).alloc (.cells rowZ.toArray 54)).alloc (.cells (zrep heldZ m).toArray 90)) := by
  have h := own_room (w := (w.alloc (.cells rv.toArray 54)).alloc (.cells rowZ.toArray 54)) hm heldZ len_heldZ
  have e : ((w.alloc (.cells rv.toArray 54)).alloc (.cells rowZ.toArray 54)).heap.size = w.heap.size + 1 + 1 := by simp
  rw [e] at h
  exact ⟨((Blk.new _ _ _).alloc _).alloc _, (new1 _ _ _ _).alloc _, h, by simp, (((Below.refl _ _).alloc (Nat.le_refl _) _).alloc (by simp) _).alloc (by simp; omega) _⟩
theorem TP.grow {w : World} {rv : List Value} {v v' : Value} {n n' : Nat} {l l' : List Hd} {wr wm w1 : World} (h : TP w rv v n l wr) (hm : Below wr.heap.size wr wm) (hg : wm.grownBy w1 v.ownBlock)
    (ho : w1.ownsRow (w.heap.size + 1 + 1) 90 56 v' n' (flatH l')) : TP w rv v' n' l' w1 := by
  have hne : ∀ b, b < w.heap.size + 1 + 1 → some b ≠ v.ownBlock := fun b hb => own_ne h.own hb
  have hs := h.sz
  have hms := hm.size
  have hgs := hg.size
  have hmk : ∀ (b : Nat) (t : TypeId) (cs : Array Value), b < w.heap.size + 1 + 1 → Blk wr b t cs → Blk w1 b t cs := fun b t cs hb hk => by
    have h1 := hk.below hm hk.lt
    exact (hg.block b h1.lt (hne b hb)).trans h1
  exact ⟨hmk _ _ _ (by omega) h.b0, hmk _ _ _ (by omega) h.b1, ho, by omega, (h.bel.trans (hm.mono (by omega))).grown hg (by omega) (fun q hq => by have := (h.own.lt q hq).1; omega)⟩

theorem own_le {w : World} {base : Nat} {e : TypeId} {size : Nat} {a : Option Addr} {n cap k : Nat} {xs : List Value} (h : w.ownsRow base e size (.slice a n cap) k xs) : k ≤ cap ∧ cap ≤ maxLen := by
  rcases h.2 with ⟨he, rfl⟩ | ⟨g, cp, cur, he, _, _, h1, h2, _⟩
  · cases he; exact ⟨Nat.le_refl _, by simp⟩
  · cases he; exact ⟨h1, h2⟩
theorem room_own {w : World} {base : Nat} {a : Option Addr} {n cap k : Nat} {xs : List Value} (h : w.ownsRow base 90 56 (.slice a n cap) k xs) : RoomV (base ≤ ·) w (.slice a n cap) := fun x m cp e j hj => by
  cases e
  rcases h.2 with ⟨he, rfl⟩ | ⟨g, cp, cur, he, hb, hg, h1, h2, h3, -⟩
  · cases he; omega
  · cases he
    have : (j + 1) * 56 ≤ cur.size := by rw [h3]; exact Nat.mul_le_mul_right _ hj
    exact ⟨g, 0, cur, rfl, hb, hg, by omega⟩
theorem RoomV.len_ {S : Nat → Prop} {w : World} {x : Option Addr} {m m' cap : Nat} (h : RoomV S w (.slice x m cap)) : RoomV S w (.slice x m' cap) := fun x1 m1 c1 e k hk => by
  cases e
  exact h x m cap rfl k hk
theorem TP.fin {w : World} {is : Bool} {c : List Value} (hcl : c.length = 55) {u0 : Value} {t : List Hd} {a : Option Addr} {n m cap : Nat} {w7 : World} (h : TP w (Value.bool is :: (c ++ [u0])) (.slice a n cap) n (t ++ [mkH, mkH]) w7)
    (hok : ∀ y ∈ t, y.ok) (hm : t.length = m) (hn : n = m + 2) :
    Blk (w7.setCell ⟨w.heap.size, 56, none⟩ (.slice a m cap)) w.heap.size 54 (Value.bool is :: (c ++ [Value.slice a m cap])).toArray ∧ Blk (w7.setCell ⟨w.heap.size, 56, none⟩ (.slice a m cap)) (w.heap.size + 1) 54 rowZ.toArray ∧
      TwinPost ⟨is, c, t⟩ w (.returned (.agg (Value.bool is :: (c ++ [Value.slice a m cap])).toArray)) (putRow (w7.setCell ⟨w.heap.size, 56, none⟩ (.slice a m cap)) ⟨w.heap.size + 1, 0, none⟩ (Value.bool is :: (c ++ [Value.slice a m cap]))) := by
  subst hm
  subst hn
  have hb := h.b0.set_ 56 (.slice a t.length cap)
  have e : (Value.bool is :: (c ++ [u0])).toArray.setIfInBounds 56 (.slice a t.length cap) = (Value.bool is :: (c ++ [Value.slice a t.length cap])).toArray := by
    simp [List.set_append, hcl]
  rw [e] at hb
  have hl := own_le h.own
  have hok2 : ∀ y ∈ t ++ [mkH, mkH], y.ok := fun y hy => by
    rcases List.mem_append.1 hy with hy | hy
    · exact hok y hy
    · have : y = mkH := by simpa using hy
      rw [this]; exact mkH_ok
  refine ⟨hb, h.b1.far (by simp) _, .slice a t.length cap, rfl, ⟨a, cap, rfl, ?_, hl.1, hl.2, ?_⟩, Below.put (h.bel.setCell (by simp) _) (by simp) _⟩
  rotate_left
  · refine (((room_own h.own).len_ (m' := t.length)).keep fun b hb _ => ?_).mono fun b _ hb => by omega
    rw [putRow_other _ _ _ _ (by simp; omega)]
    exact Below.heap_setCell _ _ _ _ (by simp; omega)
  have ho := h.own
  unfold flatH at ho
  obtain ⟨a', c', he, h1, -⟩ := RdHs.of_own ho hok2
  cases he
  refine (h1.keep (by simp) (fun b hb' _ => ?_)).mono (fun b _ hb => by omega)
  rw [putRow_other _ _ _ _ (by simp; omega)]
  exact Below.heap_setCell _ _ _ _ (by simp; omega)

set_option maxRecDepth 100000 in
set_option maxHeartbeats 4000000 in
theorem twin_any (S : Nat → Prop) (r : Rw) (hr : r.ok) (tv : Value) (w : World) (ht : RowR S w r tv) (hlen : r.t.length ≤ 100000) :
    Calls Try.prog 9 #[.agg (r.vals tv).toArray] w (TwinPost r w) := by
  obtain ⟨x, m, cap, rfl, t1, t2, t3⟩ := ht
  obtain ⟨is, c, t⟩ := r
  have hcl : c.length = 55 := (okL_len hr.1).trans len_cellK
  have hc1 := okL_cell1 hr.1
  have hml : t.length = m := t1.1
  unfold maxLen at t3
  have HT := Lib.hid t1
  have HK := Lib.hid hr
  have HM := Lib.hid hml
  simp only at hlen
  rw [hml] at hlen
  obtain ⟨M, hM⟩ : ∃ M, M = m + 2 := ⟨_, rfl⟩
  have hM1 : M ≤ 1048576 := by omega
  have e2 : ((m : Int) + 2) = (M : Int) := by omega
  have HMM := Lib.hid hM
  have hst := TP.start w (Value.bool is :: (c ++ [.slice x m cap])) M hM1
  clear hM
  clear t1 hr hml
  simp only [Rw.vals]
  have hvl : (Value.bool is :: (c ++ [Value.slice x m cap])).length = 57 := by simp [hcl]
  go_enter Try.func9, Try.ntmps9
  go_upto_region 2 with fail
  generalize (((w.alloc (.cells (Value.bool is :: (c ++ [Value.slice x m cap])).toArray 54)).alloc (.cells rowZ.toArray 54)).alloc (.cells (zrep heldZ M).toArray 90)) = w0 at hst ⊢
  have f56 : w0.cell? ⟨w.heap.size, 56, none⟩ = some (.slice x m cap) := by rw [hst.b0.cell]; simp [List.getElem?_append, hcl]
  have hsz0 := hst.sz
  have H0 := Lib.hid (And.intro hst (RdHs.below HT.out hst.bel (fun _ _ h => h)))
  clear hst
  have hm6 : 0 + m ≤ 1000000000 := by omega
  have hcr := cellR_cell1
  go_wp2_with (at_builtin; refine wpList_appH app_held (by rfl) (.tmp 10) (.tmp 12) (by rfl) (w.heap.size + 1 + 1) _ _ _ (by rfl) H0.out.1.own x m cap t (by rfl) H0.out.2 hm6 hsz0 ?_; intro v1 w1 hown1 hg1 hv1; rw [Nat.zero_add] at hown1 hv1; have H1 := Lib.hid (H0.out.1.grow (l' := t) (Below.refl _ _) hg1 (by simpa [flatH] using hown1)); obtain ⟨x1, c1, rfl⟩ := hv1; clear hown1 hg1 f56)
  go_upto_region 4 with fail
  have hmk1 : (Value.bool false :: Value.int IntKind.i64 (-77) :: cellR).all cell1 = true := by simp [hcr, cell1]
  have hml := len_mkH
  simp only [mkH_vals] at hml
  have hmkv := mkH_vals
  generalize (Value.bool false :: Value.int IntKind.i64 (-77) :: cellR) = mkl at hml hmk1 hmkv ⊢
  have HMK := Lib.hid hmkv
  clear hmkv
  obtain ⟨w2, hw2⟩ : ∃ w2, w2 = w1.alloc (.cells mkl.toArray 90) := ⟨_, rfl⟩
  have k2 : Blk w2 w1.heap.size 90 mkl.toArray := by rw [hw2]; exact Blk.new w1 _ _
  have hB2 : Below w1.heap.size w1 w2 := by rw [hw2]; exact (Below.refl _ _).alloc (Nat.le_refl _) _
  have hs2 : w2.heap.size = w1.heap.size + 1 := by rw [hw2]; simp
  rw [← hw2]
  clear hw2
  have f56 : w2.cell? ⟨w.heap.size, 56, none⟩ = some (.slice x m cap) := by rw [(H1.out.b0.below hB2 H1.out.b0.lt).cell]; simp [List.getElem?_append, hcl]
  have g56 : w2.frozen? ⟨w.heap.size, 56, none⟩ = false := (H1.out.b0.below hB2 H1.out.b0.lt).frozen 56
  obtain ⟨q1, q2, -⟩ := k2.whole (n := 56) hml
  have hsz1 := H1.out.sz
  have hown : w2.ownsRow (w.heap.size + 1 + 1) 90 56 (.slice x1 m c1) m (flatH t) := own_block H1.out.own (fun q hq => hB2.block q (H1.out.own.lt q hq).2)
  have HO := Lib.hid hown
  have HB := Lib.hid hB2
  have hlt2 : w1.heap.size < w2.heap.size := by omega
  have hlt0 : w.heap.size < w2.heap.size := by omega
  clear k2 hB2 hown hs2 e2 hm6 hsz0 hM1
  go_region_law (first
    | (refine step_app app_held (by rfl) (.tmp 16) (.tmp 19) (by rfl) (w.heap.size + 1 + 1) _ _ _ (by rfl) ((HO.out.alloc _).drew) ⟨w2.heap.size, 0, none⟩ 2 2 (mkl ++ mkl) (by rfl) (by simp [hml])
        (hasRow_new w2 _ _ 0 112 (by simp [hml])) ((rowOf_new w2 _ _ 0 112 (by simp [hml])).trans (List.take_of_length_le (by simp [hml]))) (by simp [hmk1]) (by omega) (by omega) (by simp; omega) ?_; intro gg cp w7 hown1 hgrow; have H7 := Lib.hid (H1.out.grow (l' := t ++ [mkH, mkH]) (HB.out.alloc HB.out.size _).drew hgrow (by simpa [flatH, HMK.out] using hown1)); have f56 : w7.cell? ⟨w.heap.size, 56, none⟩ = some (.slice x m cap) := (by rw [H7.out.b0.cell]; simp [List.getElem?_append, hcl]); have g56 := H7.out.b0.frozen 56; have hmc : m ≤ cp := Nat.le_trans (Nat.le_add_right m 2) (own_le H7.out.own).1; clear hown1 hgrow))
  all_goals
    obtain ⟨k0, k1, hfin⟩ := H7.out.fin hcl HK.out.2 HM.out rfl
    have hvl2 : (Value.bool is :: (c ++ [Value.slice (some ⟨gg, 0, none⟩) m cp])).length = 57 := by simp [hcl]
    obtain ⟨r1, r2, -⟩ := k0.whole hvl2
    obtain ⟨-, -, r3⟩ := k1.whole len_rowZ
    obtain ⟨p1, p2, -⟩ := (k1.put_all (l := Value.bool is :: (c ++ [Value.slice (some ⟨gg, 0, none⟩) m cp])) (by rw [len_rowZ, hvl2])).whole hvl2
    have HF := Lib.hid (And.intro p1 (And.intro p2 hfin))
    clear k0 k1 hfin p1 p2
    go_wp2_with fail
    try simp only [Exit.inBlock, Exit.then]
    first | refine bodyPost_ret (ret_row (n := 57) rfl (by kernel_rfl) _ _ _ rfl ?_) rfl ?_ | refine bodyPost_end (ret_row (n := 57) rfl (by kernel_rfl) _ _ _ rfl ?_) rfl ?_
    · exact HF.out.1
    · rw [HF.out.2.1]; exact HF.out.2.2
end Go.Proofs.Ytopakilglnpinaa
