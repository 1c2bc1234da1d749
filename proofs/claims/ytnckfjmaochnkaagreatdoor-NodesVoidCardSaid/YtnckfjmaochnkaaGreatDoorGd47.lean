/-
  Nodes (chapter 30): a look at a node; the plain facts of the chapter's example.
-/
import Derived.Test.YtnckfjmaochnkaaGreatDoorGd46
namespace Go.Proofs.YtnckfjmaochnkaaGreatDoor
open Go.RowKit
set_option linter.unusedVariables false
set_option linter.unusedSimpArgs false

set_option maxRecDepth 100000 in
set_option maxHeartbeats 1000000 in
theorem nlook_any {S I : Nat → Prop} {A : CfA} {qt : Nat} {K : NdK} {w0 w : World} {P : NP} {D : NPd} {x : NdS} (h : NdX S I A qt K w0 P D x w) (hs : K.seen.length = 50) (hk : x.k.okL) (hka : (lookV x.k).all cell1 = true) :
    Calls Tryz.prog 8 #[.pointer (some ⟨P.nb, 0, none⟩)] w (AggP (lookV x.k) w) := by
  have hb := balN (Below.refl w.heap.size w) (.cells (lookV lk0).toArray 57)
  have hz := Blk.new w 57 (lookV lk0).toArray
  have hx := h.below hb
  have hl := lookV_len hk
  obtain ⟨r1, r2⟩ := hx.row hs hk 0 63 (by omega)
  rw [List.drop_zero, List.take_of_length_le (by omega)] at r2
  replace r1 : hasRow (w.alloc (.cells (lookV lk0).toArray 57)) ⟨P.nb, 57, none⟩ 63 = true := r1
  replace r2 : rowOf (w.alloc (.cells (lookV lk0).toArray 57)) ⟨P.nb, 57, none⟩ 63 = lookV x.k := r2
  obtain ⟨-, -, -, -, -, -, -, c123, -⟩ := hx.cells hs hk
  obtain ⟨-, -, p3⟩ := hz.whole (n := 63) rfl
  obtain ⟨q1, q2, -⟩ := (hz.put_all (l := lookV x.k) (by rw [hl]; rfl)).whole hl
  have HE := Lib.hid (And.intro q1 (And.intro q2 (Below.put hb (p := ⟨w.heap.size, 0, none⟩) (Nat.le_refl _) (lookV x.k))))
  clear hx hb hz q1 q2 h hk
  go_enter Tryz.func8, Tryz.ntmps8
  go_upto_region 1 with fail
  generalize w.alloc (.cells (lookV lk0).toArray 57) = w1 at *
  obtain ⟨lv, hlv⟩ : ∃ lv, Hid (lv = lookV x.k) := ⟨_, Lib.hid rfl⟩
  rw [← hlv.out] at r2 hl hka HE ⊢
  go_wp2_with fail
  (try simp only [Exit.inBlock, Exit.then])
  first | refine bodyPost_ret (ret_rowB (n := 63) rfl ag_look _ _ _ rfl ?_) rfl ?_ | refine bodyPost_end (ret_rowB (n := 63) rfl ag_look _ _ _ rfl ?_) rfl ?_
  · exact HE.out.1
  · rw [HE.out.2.1]
    exact ⟨by rw [hlv.out], HE.out.2.2⟩
/-- the same node, the world at hand taken as the first -/
def INew (I : Nat → Prop) (D : NPd) (b : Nat) : Prop := I b ∨ D.SL b ∨ D.v.ownBlock = some b
theorem NdX.rebase {S I : Nat → Prop} {A : CfA} {qt : Nat} {K : NdK} {w0 w : World} {P : NP} {D : NPd} {x : NdS} (h : NdX S I A qt K w0 P D x w) : NdX S (INew I D) A qt K w P D x w := by
  have hsz := h.c.size
  have ho := h.own
  refine ⟨h.net, h.nd, h.pw, h.lane, h.ck, h.cq, h.rg, h.cg, ⟨.inl ho.inb, .inl ho.ipb, .inl ho.ickb, .inl ho.icqb, .inl ho.irg, .inl ho.icg, fun b hb => .inl (.inr (.inl hb)), fun b hb => .inl (.inr (.inr hb)), fun b hb => ⟨by have := (ho.sp b hb).1; omega, ?_⟩, fun b hb => ?_, ho.al⟩, Chg.refl _ _⟩
  · have h1 := ho.sp b hb
    rintro (e | e | e)
    · exact h1.2 e
    · rcases ho.ol b e with e | e
      · exact h1.2 e
      · omega
    · rcases ho.ov b e with e | e
      · exact h1.2 e
      · omega
  · rcases hb with e | e | e
    · have := ho.il b e; omega
    · exact h.lane.lt b e
    · exact (h.ck.2.lt b e).2
theorem Free.rebase {I : Nat → Prop} {D : NPd} {w : World} {b : Nat} (h : Free I D w b) : Free (INew I D) D w b := ⟨h.1, by
  rintro (e | e | e)
  · exact h.2.1 e
  · exact h.2.2.1 e
  · exact h.2.2.2 e, h.2.2⟩
/-! ### the chapter's example -/
def liveN : Cfg := ⟨4, [0, 2], [0, 1], 120, [0, 0, 0, 0], [], 3, 3, 3⟩
def noIns (_ : Nat) : List Rw := []
theorem live_held : tkH (NdK.new liveN 1) (NdS.new liveN 1) noIns = tab 4 fun _ => rw0 := by
  unfold tkH
  exact tab_ext (by rw [tab_len]; rfl) fun k hk => by
    show (tab 4 _)[k]? = _
    rw [tab_at (show k < 4 from hk)]
    exact congrArg some (held_new 4 1 (by omega) noIns k).symm
theorem live_agree : tkA (NdK.new liveN 1) (NdS.new liveN 1) noIns = List.replicate 4 hd0 := by
  unfold tkA
  rw [live_held]
  exact agree_none
theorem live_common : tkC (NdK.new liveN 1) (NdS.new liveN 1) noIns = -1 := by
  unfold tkC
  rw [live_agree]
  exact common_none
theorem live_q : tkQ (NdK.new liveN 1) (NdS.new liveN 1) = (2, 0, 0) := by decide
theorem live_age : tkAge (NdK.new liveN 1) (NdS.new liveN 1) noIns = 0 := by
  unfold tkAge
  rw [live_common, live_q]
  exact own_zero
theorem live_w : tkW (NdK.new liveN 1) (NdS.new liveN 1) noIns = lastN 8 ([] ++ [0]) := by
  unfold tkW
  rw [live_age]
  rfl
theorem live_sure : tkSure (NdK.new liveN 1) (NdS.new liveN 1) noIns = false := by
  unfold tkSure tkL
  rw [live_agree, live_common]
  show (cqOn 0 8 (evenF 4 (List.replicate 4 hd0) (-1)) == 8) = false
  rw [even_none]
  decide
theorem live_ref : RefOk liveN where
  n := by decide
  p := by decide
  pr := by
    intro i a h
    have e : halvesL 4 [0] = [0, 1] := by decide
    have e2 : halvesL 4 [] = [] := rfl
    match i, h with
    | 0, h => simp [liveN] at h; subst h; simp [liveN, e2]
    | 1, h => simp [liveN] at h; subst h; simp [liveN, e, show stepE 4 2 = 3 from by decide]
    | n + 2, h => simp [liveN] at h
  s := by decide
  si := by decide
  sc := by decide
  lo := by decide
  bl := by decide
  b := by decide
  t := by decide
  st := by intro s hs; cases hs
  mi := by decide
  go := by decide
  fr := by decide
theorem live_ok : NdOk (NdK.new liveN 1) (NdS.new liveN 1) := by
  refine { hok := live_ref, hn := rfl, h4 := by decide, h16 := by decide, hs := rfl, hV := len_firstV _, hVa := all_firstV _, hVk := by decide, hk := ⟨rfl, len_firstV _, rfl⟩, hL := rfl, hT := by decide, q1 := .inl rfl, b0 := by decide, b1 := by decide, l0 := by decide, l1 := by decide, c0 := by decide, c1 := by decide, hw := by simp [NdS.new], hwl := by simp [NdS.new], g0 := by decide, g1 := by decide, hr := rfl }
theorem side_nilN (n me way q s : Nat) : sideM n me way [] [] q s = rw0 := by
  unfold sideM
  repeat' split
  all_goals rfl
theorem said_pastN {L : LaneM} (hb : L.b = true) (own : Rw) (j q s : Nat) : (L.said own).past j q s = if j = (L.T - 1) % (L.n + 1) ∧ q % 2 = 0 ∧ s = L.me then own.plain L.n else L.past j q s := by
  unfold LaneM.said
  rw [if_pos hb]
theorem said_outN {L : LaneM} (own : Rw) (q : Nat) (hq : q % 2 = 0) (hb : L.b = true) (hn : L.n = 4) (hm : L.me = 1) (hT : L.T = 1) (hp : ∀ q s, L.past 0 q s = rw0) : (L.said own).out q = tab 4 fun s => if s = 1 then own.plain 4 else rw0 := by
  have hn' : (L.said own).n = 4 := by unfold LaneM.said; rw [if_pos hb]; exact hn
  have hT' : (L.said own).T = 1 := by unfold LaneM.said; rw [if_pos hb]; exact hT
  unfold LaneM.out
  rw [hn', hT']
  refine tab_ext (tab_len _ _) fun k hk => ?_
  rw [tab_at hk]
  congr 1
  rw [said_pastN hb, hn, hm, hT]
  by_cases h1 : k = 1
  · rw [if_pos h1, if_pos ⟨rfl, hq, h1⟩]
    rfl
  · rw [if_neg h1, if_neg (fun h => h1 h.2.2)]
    exact hp q k
theorem live_out (q : Nat) (hq : q % 2 = 0) : (tkX (NdK.new liveN 1) (NdS.new liveN 1) noIns).L.out q = tab 4 fun s => if s = 1 then (tkRow (NdK.new liveN 1) (NdS.new liveN 1) noIns).plain 4 else rw0 :=
  said_outN (L := (LaneM.new 4 1).put noIns) _ q hq rfl rfl rfl rfl fun q s => side_nilN _ _ _ _ _
theorem live_row : ∃ c t, (tkRow (NdK.new liveN 1) (NdS.new liveN 1) noIns).plain 4 = ⟨true, .int .i64 0 :: c, t⟩ := by
  unfold tkRow
  rw [live_age]
  exact ⟨_, _, rfl⟩
/-- what the example's rows show -/
theorem live_cells {S : Nat → Prop} {w : World} {g q : Nat} {t : TypeId} (hq : q % 2 = 0) (h : RowsB S w g t ((tkX (NdK.new liveN 1) (NdS.new liveN 1) noIns).L.out q)) :
    w.cell? ⟨g, 0, none⟩ = some (.bool false) ∧ w.cell? ⟨g, 57, none⟩ = some (.bool true) ∧ w.cell? ⟨g, 114, none⟩ = some (.bool false) ∧ w.cell? ⟨g, 171, none⟩ = some (.bool false) ∧ w.cell? ⟨g, 58, none⟩ = some (.int .i64 0) := by
  obtain ⟨c, t, hc⟩ := live_row
  rw [live_out q hq, hc] at h
  obtain ⟨cs, h1, h2, h3⟩ := h
  have key : ∀ k i r, (tab 4 fun s => if s = 1 then (⟨true, .int .i64 0 :: c, t⟩ : Rw) else rw0)[k]? = some r → i < 57 → ∃ tv, w.cell? ⟨g, k * 57 + i, none⟩ = (r.vals tv)[i]? := fun k i r hr hi => by
    obtain ⟨tv, h4, -⟩ := h3 k r hr
    exact ⟨tv, by rw [h1.cell, List.getElem?_toArray, h4 i hi]⟩
  have z0 : ∀ k, k < 4 → k ≠ 1 → (tab 4 fun s => if s = 1 then (⟨true, .int .i64 0 :: c, t⟩ : Rw) else rw0)[k]? = some rw0 := fun k hk hn => by rw [tab_at hk, if_neg hn]
  have z1 : (tab 4 fun s => if s = 1 then (⟨true, .int .i64 0 :: c, t⟩ : Rw) else rw0)[1]? = some ⟨true, .int .i64 0 :: c, t⟩ := by rw [tab_at (by omega), if_pos rfl]
  obtain ⟨_, k0⟩ := key 0 0 _ (z0 0 (by omega) (by omega)) (by omega)
  obtain ⟨_, k1⟩ := key 1 0 _ z1 (by omega)
  obtain ⟨_, k2⟩ := key 2 0 _ (z0 2 (by omega) (by omega)) (by omega)
  obtain ⟨_, k3⟩ := key 3 0 _ (z0 3 (by omega) (by omega)) (by omega)
  obtain ⟨_, k4⟩ := key 1 1 _ z1 (by omega)
  exact ⟨k0, k1, k2, k3, k4⟩
end Go.Proofs.YtnckfjmaochnkaaGreatDoor
