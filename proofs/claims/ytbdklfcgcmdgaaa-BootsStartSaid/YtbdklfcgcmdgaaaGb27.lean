/-
  sennitlaw14.NewRing.
-/
import Derived.Test.YtbdklfcgcmdgaaaGb26
namespace Go.Proofs.Ytbdklfcgcmdgaaa
open Go.RowKit
set_option linter.unusedVariables false
set_option linter.unusedSimpArgs false

theorem app_lane : AppOk Try.prog 84 25 1 := appOk_of Try.underlying84 (by kernel_rfl)
def newV (N : Nat) (F : FltM) (av : Value) (og : Nat) (v : Value) : List Value := [.int .i64 N, .bool F.link, .int .u8 F.at_, .int .u8 F.which, av, v, .slice (some ⟨og, 0, none⟩) N N, .slice none 0 0]
def ptrs (p : Nat → Nat) (k : Nat) : List Value := (List.range k).map fun i => .pointer (some ⟨p i, 0, none⟩)
theorem mk_bool : MakeOk Try.prog 92 4 [.bool false] := ⟨Try.underlying92, by kernel_rfl, by decide⟩
@[go_sem ↓] theorem ms_bool (ρ : Operand → Value) (d : Option Tmp) (x y : Operand) (ty : TypeId) (s : String) (af : Array Edge) (g : Option (Nat × Bool)) (w : World) (h : madeOk (ρ x) (ρ y) = true) :
    (execOp ρ { dst := d, op := .makeSlice 92 x y, type := ty, pos := s, after := af, guard := g }).run Try.prog w =
      .ok (.value (.slice (some ⟨w.heap.size, 0, none⟩) (lenV (ρ x)) (lenV (ρ x)))) (w.alloc (.cells (zrep [.bool false] (lenV (ρ x))).toArray 4)) := exec_make mk_bool ρ d x y ty s af g w h
theorem zrep_onL (n : Nat) : zrep [Value.bool false] n = onL n (fun _ => false) := by
  apply List.ext_getElem?
  intro k
  have hl : (zrep [Value.bool false] n).length = n := by rw [len_zrep]; simp
  by_cases hk : k < n
  · rw [onL_at hk, zrep_at (by simp) n k (by simpa using hk)]
    simp [Nat.mod_one]
  · rw [List.getElem?_eq_none (by omega), List.getElem?_eq_none (by rw [onL_len]; omega)]
theorem ptrs_at {p : Nat → Nat} {k i : Nat} (h : i < k) : (ptrs p k)[i]? = some (.pointer (some ⟨p i, 0, none⟩)) := by simp [ptrs, h]
theorem ptrs_snoc {p : Nat → Nat} {k pk : Nat} : ptrs (fun j => if j = k then pk else p j) (k + 1) = ptrs p k ++ [.pointer (some ⟨pk, 0, none⟩)] := by
  unfold ptrs
  rw [List.range_succ, List.map_append]
  congr 1
  · refine List.map_congr_left fun i hi => ?_
    rw [List.mem_range] at hi
    show Value.pointer (some ⟨if i = k then pk else p i, 0, none⟩) = _
    rw [if_neg (by omega)]
  · simp
/-- a ring is being made: k of its lanes are there -/
structure NewP (tag0 : Nat → Nat) (w : World) (N : Nat) (F : FltM) (av : Value) (k : Nat) (tag : Nat → Nat) (v : Value) (p gp : Nat → Nat) (wr : World) : Prop where
  b : Blk wr (w.heap.size + 1 + 1) 105 (newV N F av (w.heap.size + 1) v).toArray
  o : Blk wr (w.heap.size + 1) 4 (onL N fun _ => false).toArray
  own : wr.ownsRow w.heap.size 25 1 v k (ptrs p k)
  la : ∀ j, j < k → LaneAt (fun b => tag b = j + 1) wr (p j) (gp j) (fun _ => 0) (LaneM.new N j)
  lo : ∀ b, b < w.heap.size → tag b = tag0 b
  tr : tag (w.heap.size + 1 + 1) = N + 1
  tog : tag (w.heap.size + 1) = N + 1
  tv : ∀ g, v.ownBlock = some g → tag g = N + 1
  hi : ∀ b, wr.heap.size ≤ b → tag b = 98
  bel : Below w.heap.size w wr
  sz : w.heap.size + 1 + 1 < wr.heap.size
theorem NewP.drewN {tag0 : Nat → Nat} {w : World} {N : Nat} {F : FltM} {av : Value} {k : Nat} {tag : Nat → Nat} {v : Value} {p gp : Nat → Nat} {wr : World} (h : NewP tag0 w N F av k tag v p gp wr) (q : Nat) : NewP tag0 w N F av k tag v p gp (wr.drewN q) :=
  ⟨h.b, h.o, h.own, fun j hj => (h.la j hj).drewN q, h.lo, h.tr, h.tog, h.tv, h.hi, Below.drewN_ h.bel q, h.sz⟩
theorem NewP.step {tag0 : Nat → Nat} {w : World} {N : Nat} {F : FltM} {av : Value} {k : Nat} {tag : Nat → Nat} {v : Value} {p gp : Nat → Nat} {wr w1 w3 : World} (h : NewP tag0 w N F av k tag v p gp wr) (h16 : N ≤ 16) (hk : k < N) (hb : Below wr.heap.size wr w1) {pk gpk : Nat}
    (hL : LaneAt (fun b => wr.heap.size ≤ b ∧ b < w1.heap.size) w1 pk gpk (fun _ => 0) (LaneM.new N k)) {o : Obj} (hg : (w1.alloc o).grownBy w3 v.ownBlock) {g cap : Nat}
    (ho : w3.ownsRow w.heap.size 25 1 (.slice (some ⟨g, 0, none⟩) (k + 1) cap) (k + 1) (ptrs p k ++ [.pointer (some ⟨pk, 0, none⟩)])) (hlie : v.ownBlock = some g ∨ g = (w1.alloc o).heap.size) :
    ∃ tag' p' gp', NewP tag0 w N F av (k + 1) tag' (.slice (some ⟨g, 0, none⟩) (k + 1) cap) p' gp' (w3.setCell ⟨w.heap.size + 1 + 1, 5, none⟩ (.slice (some ⟨g, 0, none⟩) (k + 1) cap)) := by
  have hs1 := hb.size
  have hs2 : (w1.alloc o).heap.size = w1.heap.size + 1 := by simp
  have hs3 := hg.size
  have hsz := h.sz
  have hown : ∀ b, v.ownBlock = some b → b < wr.heap.size ∧ tag b = N + 1 := fun b hb => ⟨(h.own.lt b hb).2, h.tv b hb⟩
  have hgl := (ho.lt g rfl).2
  have hss : (w3.setCell ⟨w.heap.size + 1 + 1, 5, none⟩ (.slice (some ⟨g, 0, none⟩) (k + 1) cap)).heap.size = w3.heap.size := by simp
  -- a block of wr that is neither the ring's nor the list's
  have k1 : ∀ b, b < wr.heap.size → v.ownBlock ≠ some b → w3.heap[b]? = wr.heap[b]? := fun b hbl hne =>
    (hg.block b (by omega) (fun e => hne e.symm)).trans ((Below.heap_alloc _ _ _ (by omega)).trans (hb.block b hbl))
  have k2 : ∀ b, b ≠ w.heap.size + 1 + 1 → (w3.setCell ⟨w.heap.size + 1 + 1, 5, none⟩ (.slice (some ⟨g, 0, none⟩) (k + 1) cap)).heap[b]? = w3.heap[b]? := fun b hne => Below.heap_setCell _ _ _ _ hne
  have nr : v.ownBlock ≠ some (w.heap.size + 1 + 1) := own_not h.own h.b (by decide)
  have no : v.ownBlock ≠ some (w.heap.size + 1) := own_not h.own h.o (by decide)
  have hb3 : Blk w3 (w.heap.size + 1 + 1) 105 (newV N F av (w.heap.size + 1) v).toArray := (k1 _ h.b.lt nr).trans h.b
  have hgne : g ≠ w.heap.size + 1 + 1 := by
    rintro rfl
    rcases hlie with e | e
    · exact nr e
    · omega
  refine ⟨tagR (tagR tag w1.heap.size w3.heap.size (N + 1)) wr.heap.size w1.heap.size (k + 1), fun j => if j = k then pk else p j, fun j => if j = k then gpk else gp j, ⟨hb3.set_ 5 _, ?_, ?_, ?_, ?_, ?_, ?_, ?_, ?_, ?_, by rw [hss]; omega⟩⟩
  · exact (k2 _ (by omega)).trans ((k1 _ h.o.lt no).trans h.o)
  · rw [ptrs_snoc]
    exact own_block ho fun b hb => by
      simp only [Value.ownBlock, Option.some.injEq] at hb
      subst hb
      exact k2 _ hgne
  · intro j hj
    by_cases hjk : j = k
    · subst hjk
      simp only [if_true]
      refine (hL.keep (by rw [hss]; omega) fun b hb hbl => ?_).mono (fun b hb => tagR_in hb.1 hb.2) (fun b hb => ?_)
      · refine (k2 b (by omega)).trans ((hg.block b (by omega) (fun e => ?_)).trans (Below.heap_alloc _ _ _ (by omega)))
        have := (hown b e.symm).1
        omega
      · rw [hss]
        by_cases hbm : b < w3.heap.size
        · exact hbm
        · rw [tagR_hi (by omega), tagR_hi (by omega), h.hi b (by omega)] at hb; omega
    · simp only [if_neg hjk]
      refine ((h.la j (by omega)).keep (by rw [hss]; omega) fun b hb hbl => ?_).mono (fun b hb => ?_) (fun b hb => ?_)
      · refine (k2 b ?_).trans (k1 b hbl ?_)
        · rintro rfl; rw [h.tr] at hb; omega
        · intro e; rw [(hown b e).2] at hb; omega
      · have hbl : b < wr.heap.size := by
          rcases Nat.lt_or_ge b wr.heap.size with h1 | h1
          · exact h1
          · rw [h.hi b h1] at hb; omega
        rw [tagR_lo hbl, tagR_lo (by omega)]; exact hb
      · rw [hss]
        by_cases hbm : b < w3.heap.size
        · exact hbm
        · rw [tagR_hi (by omega), tagR_hi (by omega), h.hi b (by omega)] at hb; omega
  · intro b hb
    rw [tagR_lo (by omega), tagR_lo (by omega)]
    exact h.lo b hb
  · rw [tagR_lo (by omega), tagR_lo (by omega)]; exact h.tr
  · rw [tagR_lo (by omega), tagR_lo (by omega)]; exact h.tog
  · intro b hb
    simp only [Value.ownBlock, Option.some.injEq] at hb
    subst hb
    rcases hlie with e | e
    · have := hown g e
      rw [tagR_lo this.1, tagR_lo (by omega)]; exact this.2
    · rw [tagR_hi (by omega), tagR_in (by omega) (by omega)]
  · intro b hb
    rw [hss] at hb
    rw [tagR_hi (by omega), tagR_hi (by omega)]
    exact h.hi b (by omega)
  · refine Below.setCell ?_ (by simp; omega) _
    refine ((h.bel.trans (hb.mono h.bel.size)).alloc (by have := h.bel.size; omega) _).grown hg (by omega) fun q hq => (h.own.lt q hq).1
def NewI (tag0 : Nat → Nat) (w : World) (N : Nat) (F : FltM) (av : Value) (k : Nat) (wr : World) : Prop := ∃ tag v p gp, NewP tag0 w N F av k tag v p gp wr
def NewRingP (tag0 : Nat → Nat) (N : Nat) (F : FltM) (av : Value) (w : World) (e : Ending) (w' : World) : Prop :=
  ∃ rg tag P, e = .returned (.pointer (some ⟨rg, 0, none⟩)) ∧ RingAt tag w' rg av (RingM.new N F) P ∧ (∀ b, b < w.heap.size → tag b = tag0 b) ∧ w.heap.size ≤ rg ∧ Below w.heap.size w w'
theorem NewI.end_ {tag0 : Nat → Nat} {w wr : World} {N : Nat} {F : FltM} {av : Value} (h : NewI tag0 w N F av N wr) (h4 : 4 ≤ N) (h16 : N ≤ 16) (hf : F.at_ < 256 ∧ F.which < 256)
    (hA : ∃ a an ac, av = .slice a an ac ∧ RdAs (Sn tag0 w) w a an F.acts ∧ an ≤ ac ∧ ac ≤ maxLen ∧ an ≤ 140737488355328) :
    NewRingP tag0 N F av w (.returned (.pointer (some ⟨w.heap.size + 1 + 1, 0, none⟩))) wr := by
  obtain ⟨tag, v, p, gp, h⟩ := h
  rcases h.own.2 with ⟨-, h0⟩ | ⟨g, cap, cur, rfl, g1, g2, g3, g4, g5, g6⟩
  · omega
  refine ⟨_, tag, ⟨g, cap, w.heap.size + 1, .slice none 0 0, p, gp, fun _ _ => 0⟩, rfl, ⟨h.b, ⟨cur, g2, by show N ≤ cur.size; omega, fun i hi => ?_⟩, ⟨g3, g4⟩, h.o, fun i hi => ⟨h.la i hi, rfl, rfl⟩, ⟨[], rfl, World.ownsRow_nil _ _ _ _, fun t x W hx => by simp at hx⟩, h.tr, h.tv g rfl, h.tog, fun g hg => by simp [Value.ownBlock] at hg, ?_, hf, ⟨h4, h16⟩, h.hi⟩, h.lo, by omega, h.bel⟩
  · have hi' : i < N := hi
    have e1 : cur[i]? = (cur.toList.take (N * 1))[i]? := by rw [List.getElem?_take, if_pos (by omega)]; simp
    rw [e1, g6, ptrs_at hi']
  · obtain ⟨a, an, ac, r1, r2, r3⟩ := hA
    refine ⟨a, an, ac, r1, (r2.keep h.bel.size (fun b hb hl => h.bel.block b hl)).mono fun b _ hb => ⟨by rw [h.lo b hb.2]; exact hb.1, by have := h.bel.size; have := hb.2; omega⟩, r3⟩
theorem newI_zero {tag0 : Nat → Nat} {w : World} {N : Nat} (F : FltM) (av : Value) (hlo : ∀ b, w.heap.size ≤ b → tag0 b = 98) (l : List Value) (t : TypeId) :
    NewI tag0 w N F av 0 (((w.alloc (.cells l.toArray t)).alloc (.cells (zrep [.bool false] N).toArray 4)).alloc (.cells (newV N F av (w.heap.size + 1) (.slice none 0 0)).toArray 105)) := by
  have s1 : (w.alloc (.cells l.toArray t)).heap.size = w.heap.size + 1 := by simp
  have s2 : ((w.alloc (.cells l.toArray t)).alloc (.cells (zrep [.bool false] N).toArray 4)).heap.size = w.heap.size + 1 + 1 := by simp
  have k1 := Blk.new (w.alloc (.cells l.toArray t)) 4 (zrep [.bool false] N).toArray
  have k2 := Blk.new ((w.alloc (.cells l.toArray t)).alloc (.cells (zrep [.bool false] N).toArray 4)) 105 (newV N F av (w.heap.size + 1) (.slice none 0 0)).toArray
  rw [s1] at k1
  rw [s2] at k2
  refine ⟨tagR tag0 w.heap.size (w.heap.size + 1 + 1 + 1) (N + 1), .slice none 0 0, fun _ => 0, fun _ => 0, ⟨k2, ?_, World.ownsRow_nil _ _ _ _, fun j hj => absurd hj (by omega), fun b hb => tagR_lo hb, tagR_in (by omega) (by omega), tagR_in (by omega) (by omega), fun g hg => by simp [Value.ownBlock] at hg, fun b hb => ?_, (((Below.refl _ _).alloc (Nat.le_refl _) _).alloc (by simp) _).alloc (by simp; omega) _, by simp⟩⟩
  · rw [← zrep_onL]; exact k1.alloc _
  · have : w.heap.size + 1 + 1 + 1 ≤ b := by simpa using hb
    rw [tagR_hi this]; exact hlo b (by omega)
set_option maxRecDepth 100000 in
set_option maxHeartbeats 4000000 in
theorem newRing_any (tag0 : Nat → Nat) (N : Nat) (F : FltM) (aa : Option Addr) (an ac : Nat) (w : World) (h4 : 4 ≤ N) (h16 : N ≤ 16) (hf : F.at_ < 256 ∧ F.which < 256) (hlo : ∀ b, w.heap.size ≤ b → tag0 b = 98)
    (hA : RdAs (Sn tag0 w) w aa an F.acts) (ha1 : an ≤ ac) (ha2 : ac ≤ maxLen) (ha3 : an ≤ 140737488355328) :
    Calls Try.prog 30 #[.int .i64 N, .agg (F.vals (.slice aa an ac)).toArray] w (NewRingP tag0 N F (.slice aa an ac) w) := by
  have hm : madeOk (.int .i64 (N : Int)) (.int .i64 (N : Int)) = true := by simp [madeOk]; omega
  have HA : Hid (∃ a n c, Value.slice aa an ac = .slice a n c ∧ RdAs (Sn tag0 w) w a n F.acts ∧ n ≤ c ∧ c ≤ maxLen ∧ n ≤ 140737488355328) := Lib.hid ⟨_, _, _, rfl, hA, ha1, ha2, ha3⟩
  have H0 := Lib.hid (newI_zero (tag0 := tag0) (w := w) (N := N) F (.slice aa an ac) hlo (F.vals (.slice aa an ac)) 88)
  have HF := Lib.hid hf
  obtain ⟨fv, hfv⟩ : ∃ fv, fv = F.vals (.slice aa an ac) := ⟨_, rfl⟩
  clear hA ha1 ha2 ha3 hlo hf
  show Calls _ _ #[.int .i64 N, .agg #[.bool F.link, .int .u8 F.at_, .int .u8 F.which, .slice aa an ac]] w _
  go_enter Try.func30, Try.ntmps30
  go_upto_region 1 with fail
  go_cut [5] from 9 to 14 (fun s wx => ∃ wc : World, wc = wx ∧ s = .pointer (some ⟨w.heap.size + 1 + 1, 0, none⟩) ∧ NewI tag0 w N F (.slice aa an ac) 0 wc)
  case first =>
    go_region_law (fail)
    all_goals go_wp2_with fail
    all_goals go_meet
    all_goals (
      obtain ⟨tag, v, p, gp, hq⟩ := H0.out
      exact ⟨_, rfl, rfl, tag, v, p, gp, hq.drewN 1⟩)
  case rest =>
    obtain ⟨wc, rfl, rfl, hI⟩ := hcut
    have HI := Lib.hid hI
    clear hI H0
    go_wp2_with fail
    go_loopw [6] (fun i wr => ∃ k : Nat, k ≤ N ∧ i = .int .i64 k ∧ NewI tag0 w N F (.slice aa an ac) k wr) (fun i _ => N - (intOf i).toNat)
    case atStart => exact ⟨0, by omega, rfl, HI.out⟩
    case round =>
      obtain ⟨k, hk, rfl, hr⟩ := hrel
      by_cases hlt : k < N
      · have hlt1 : (k : Int) < N := by omega
        obtain ⟨tag, v, p, gp, hp⟩ := hr
        have HP := Lib.hid hp
        have HC := Lib.hid (new_ok N k h4 h16 hlt wr)
        clear hp
        go_wp2_with fail
        (with_reducible refine HC.out.mono ?_)
        rintro e w1 ⟨pk, gpk, rfl, hL, hb⟩
        have HL := Lib.hid hL
        have HB := Lib.hid hb
        have hbr := HP.out.b.below hb HP.out.b.lt
        have c5 : w1.cell? ⟨w.heap.size + 1 + 1, 5, none⟩ = some v := hbr.cell 5
        have HBR := Lib.hid hbr
        have hsz := HP.out.sz
        have hsz1 := hb.size
        have HO : Hid (w1.ownsRow w.heap.size 25 1 v k (ptrs p k)) := Lib.hid (own_block HP.out.own fun b hbo => hb.block b (HP.out.own.lt b hbo).2)
        clear hL hb hbr HC
        have hkk : k ≤ 16 := by omega
        go_wp2_with (at_builtin; refine wpList_lies app_lane (by rfl) (.tmp 32) (.tmp 34) (by rfl) w.heap.size _ _ _ (by rfl) (HO.out.alloc _) ⟨w1.heap.size, 0, none⟩ 1 1 [.pointer (some ⟨pk, 0, none⟩)] (by rfl) (by simp) (hasRow_new w1 _ _ 0 1 (by simp)) (rowOf_new w1 _ _ 0 1 (by simp)) (by rfl) (by omega) (by omega) (by simp; omega) ?_; intro gg cp w3 hown1 hgrow hlie; have H8 := Lib.hid (HP.out.step h16 hlt HB.out HL.out hgrow hown1 hlie); have hb7 := ((hgrow.block (w.heap.size + 1 + 1) (by simp; omega) (fun e => own_not HO.out HBR.out (by decide) e.symm)).trans (HBR.out.alloc _)); have z7 := Blk.frozen hb7 5; have c7 := Blk.cell hb7 5; simp [newV] at c7; clear hown1 hgrow hlie hb7)
        obtain ⟨tag', p', gp', h8⟩ := H8.out
        exact ⟨⟨k + 1, by omega, by go_num, tag', _, p', gp', h8⟩, by simp [intOf]; omega⟩
      · have hlt1 : ¬ (k : Int) < N := by omega
        have hkN : k = N := by omega
        subst hkN
        have HR := Lib.hid (hr.end_ h4 h16 HF.out HA.out)
        clear hr
        go_wp2_with fail
        go_ret
        exact HR.out
end Go.Proofs.Ytbdklfcgcmdgaaa
