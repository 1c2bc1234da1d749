/-
  sennitlaw13.TwinWord: a word whose rows are twins.
-/
import Derived.Test.YtbdklfcgcmdgaaaGb18
namespace Go.Proofs.Ytbdklfcgcmdgaaa
open Go.RowKit
set_option linter.unusedVariables false
set_option linter.unusedSimpArgs false

/-- A slice that reads as a list of twin rows. -/
def RdTs (S : Nat → Prop) (w : World) (a : Option Addr) (len : Nat) (l : List Rw) : Prop :=
  l.length = len ∧ (∀ r ∈ l, r.ok) ∧ ∀ k r, l[k]? = some r → ∃ b off tv, a = some ⟨b, off, none⟩ ∧ S b ∧ b < w.heap.size ∧ hasRow w ⟨b, off + k * 57, none⟩ 57 = true ∧ rowOf w ⟨b, off + k * 57, none⟩ 57 = r.vals tv ∧ TwR S w r tv
theorem RdTs.rd {S : Nat → Prop} {w : World} {a : Option Addr} {len : Nat} {l : List Rw} (h : RdTs S w a len l) : RdRs S w a len l :=
  ⟨h.1, h.2.1, fun k r hk => by
    obtain ⟨b, off, tv, h1, h2, h3, h4, h5, h6⟩ := h.2.2 k r hk
    obtain ⟨x, m, cap, rfl, h7, h8, h9⟩ := h6.row
    exact ⟨b, off, x, m, cap, h1, h2, h3, h4, h5, h7, h8, h9⟩⟩
theorem RdTs.keep {S : Nat → Prop} {w w' : World} {a : Option Addr} {len : Nat} {l : List Rw} (h : RdTs S w a len l) (hs : w.heap.size ≤ w'.heap.size) (hk : ∀ b, S b → b < w.heap.size → w'.heap[b]? = w.heap[b]?) : RdTs S w' a len l :=
  ⟨h.1, h.2.1, fun k x hx => by
    obtain ⟨b, off, tv, e, hS, hb, h1, h2, h3⟩ := h.2.2 k x hx
    have := row_block (n := 57) (p := ⟨b, off + k * 57, none⟩) (hk b hS hb)
    exact ⟨b, off, tv, e, hS, by omega, this.1.trans h1, this.2.trans h2, h3.keep hs hk⟩⟩
theorem RdTs.mono {S S' : Nat → Prop} {w : World} {a : Option Addr} {len : Nat} {l : List Rw} (h : RdTs S w a len l) (hs : ∀ b, b < w.heap.size → S b → S' b) : RdTs S' w a len l :=
  ⟨h.1, h.2.1, fun k x hx => by
    obtain ⟨b, off, tv, e, hS, hb, h1, h2, h3⟩ := h.2.2 k x hx
    exact ⟨b, off, tv, e, hs b hb hS, hb, h1, h2, h3.mono hs⟩⟩
theorem RdTs.below {S : Nat → Prop} {w w' : World} {a : Option Addr} {len : Nat} {l : List Rw} (h : RdTs S w a len l) (hb : Below w.heap.size w w') : RdTs S w' a len l := h.keep hb.size fun b _ hlt => hb.block b hlt

def OwnT (base : Nat) (w : World) (e : TypeId) (v : Value) (ps : List (Rw × Value)) : Prop := OwnR base w e v ps ∧ ∀ p ∈ ps, TwR (fun b => base ≤ b ∧ some b ≠ v.ownBlock) w p.1 p.2
theorem OwnT.nil (base : Nat) (w : World) (e : TypeId) : OwnT base w e (.slice none 0 0) [] := ⟨OwnR.nil _ _ _, by simp⟩
theorem OwnT.keep {base : Nat} {w w' : World} {e : TypeId} {v : Value} {ps : List (Rw × Value)} (h : OwnT base w e v ps) (hs : w.heap.size ≤ w'.heap.size) (hk : ∀ b, base ≤ b → b < w.heap.size → w'.heap[b]? = w.heap[b]?) : OwnT base w' e v ps :=
  ⟨h.1.keep hs hk, fun p hp => (h.2 p hp).keep hs (fun b hb hlt => hk b hb.1 hlt)⟩
theorem OwnT.push {base : Nat} {wm w1 : World} {e : TypeId} {v : Value} {ps : List (Rw × Value)} (h : OwnT base wm e v ps) {r : Rw} {tv : Value} (hr : r.ok) (ht : TwR (fun b => base ≤ b ∧ some b ≠ v.ownBlock) wm r tv) {g cap n : Nat} (hn : ps.length = n)
    (ho : w1.ownsRow base e 57 (.slice (some ⟨g, 0, none⟩) (n + 1) cap) (n + 1) (flatP ps ++ r.vals tv)) (hg : wm.grownBy w1 v.ownBlock) (hl : v.ownBlock = some g ∨ g = wm.heap.size) :
    OwnT base w1 e (.slice (some ⟨g, 0, none⟩) (n + 1) cap) (ps ++ [(r, tv)]) := by
  refine ⟨h.1.push hr ht.row hn ho hg hl, fun p hp => ?_⟩
  have key : ∀ {r' : Rw} {tv' : Value}, TwR (fun b => base ≤ b ∧ some b ≠ v.ownBlock) wm r' tv' → TwR (fun b => base ≤ b ∧ some b ≠ (Value.slice (some ⟨g, 0, none⟩) (n + 1) cap).ownBlock) w1 r' tv' := fun {r' tv'} h' => by
    have h2 : TwR (fun b => base ≤ b ∧ some b ≠ v.ownBlock ∧ b < wm.heap.size) wm r' tv' := h'.mono (fun b hb hS => ⟨hS.1, hS.2, hb⟩)
    refine (h2.keep hg.size (fun b hb _ => hg.block b hb.2.2 hb.2.1)).mono (fun b _ hb => ⟨hb.1, ?_⟩)
    simp only [Value.ownBlock, ne_eq, Option.some.injEq]
    rintro rfl
    rcases hl with hl | hl
    · exact hb.2.1 hl.symm
    · omega
  rcases List.mem_append.1 hp with hp | hp
  · exact key (h.2 p hp)
  · simp at hp
    subst hp
    exact key ht
theorem OwnT.rd {base : Nat} {w : World} {e : TypeId} {v : Value} {ps : List (Rw × Value)} (h : OwnT base w e v ps) : ∃ a cap, v = .slice a ps.length cap ∧ RdTs (base ≤ ·) w a ps.length (ps.map Prod.fst) ∧ ps.length ≤ cap ∧ cap ≤ maxLen := by
  obtain ⟨⟨h1, h2⟩, h3⟩ := h
  have hok : ∀ p ∈ ps, p.1.ok := fun p hp => (h2 p hp).1
  rcases h1.2 with ⟨rfl, h0⟩ | ⟨g, cap, cur, rfl, hb, hg, hnc, hcm, hcs, htake⟩
  · have : ps = [] := List.eq_nil_of_length_eq_zero h0
    subst this
    exact ⟨none, 0, rfl, ⟨rfl, by simp, by simp⟩, Nat.le_refl _, by simp⟩
  · refine ⟨_, cap, rfl, ⟨by simp, ?_, fun k r hk => ?_⟩, hnc, hcm⟩
    · intro r hr
      obtain ⟨p, hp, rfl⟩ := List.mem_map.1 hr
      exact hok p hp
    · rw [List.getElem?_map, Option.map_eq_some_iff] at hk
      obtain ⟨p, hk, rfl⟩ := hk
      have hkl : k < ps.length := (List.getElem?_eq_some_iff.1 hk).1
      have hpt := h3 p (List.mem_of_getElem? hk)
      have hpo := hok p (List.mem_of_getElem? hk)
      have hlen := Rw.len hpo p.2
      have hrow := row_of_cells (w := w) (p := ⟨g, 0 + k * 57, none⟩) (l := p.1.vals p.2) (fun j u hu => by
        have hj : j < 57 := by rw [← hlen]; exact (List.getElem?_eq_some_iff.1 hu).1
        have hin : k * 57 + j < ps.length * 57 := by
          have : (k + 1) * 57 ≤ ps.length * 57 := Nat.mul_le_mul_right _ (by omega)
          omega
        rw [add_at, cell_of_row w g _ cur e (0, 0) hg, show 0 + k * 57 + j = k * 57 + j from by omega]
        have e1 : cur[k * 57 + j]? = (cur.toList.take (ps.length * 57))[k * 57 + j]? := by rw [List.getElem?_take, if_pos hin]; simp
        rw [e1, htake, flatP_at hok hk hj, hu])
      rw [hlen] at hrow
      exact ⟨g, 0, p.2, rfl, hb, lt_of_some hg, hrow.1, hrow.2, hpt.mono (fun b _ h => h.1)⟩

structure TW (w : World) (sv : Value) (l : List Rw) (k : Nat) (v : Value) (wr : World) : Prop where
  b0 : Blk wr w.heap.size 34 #[sv]
  b1 : Blk wr (w.heap.size + 1) 34 #[.slice none 0 0]
  b2 : Blk wr (w.heap.size + 1 + 1) 34 #[v]
  own : ∃ ps : List (Rw × Value), ps.length = k ∧ ps.map Prod.fst = l.take k ∧ OwnT (w.heap.size + 1 + 1 + 1) wr 54 v ps
  sz : w.heap.size + 1 + 1 + 1 ≤ wr.heap.size
  bel : Below w.heap.size w wr
theorem TW.start (w : World) (sv : Value) (l : List Rw) : TW w sv l 0 (.slice none 0 0) (((w.alloc (.cells #[sv] 34)).alloc (.cells #[.slice none 0 0] 34)).alloc (.cells #[.slice none 0 0] 34)) :=
  ⟨((Blk.new _ _ _).alloc _).alloc _, (new1 w _ [Value.slice none 0 0] _).alloc _, new2 w _ _ [Value.slice none 0 0] _, ⟨[], rfl, by simp, OwnT.nil _ _ _⟩, by simp, (((Below.refl _ _).alloc (Nat.le_refl _) _).alloc (by simp) _).alloc (by simp; omega) _⟩
/-- a word of twins, in new memory -/
def TWPost (l : List Rw) (w : World) (e : Ending) (w' : World) : Prop :=
  ∃ a cap, e = .returned (.agg #[.slice a l.length cap]) ∧ RdTs (w.heap.size ≤ ·) w' a l.length l ∧ l.length ≤ cap ∧ cap ≤ maxLen ∧ Below w.heap.size w w'
theorem TW.end_ {w : World} {sv : Value} {k : Nat} {l : List Rw} {v : Value} {wr : World} (h : TW w sv l k v wr) (hL : k = l.length) :
    TWPost l w (.returned (.agg #[v])) (wr.setCell ⟨w.heap.size + 1, 0, none⟩ v) ∧ (wr.setCell ⟨w.heap.size + 1, 0, none⟩ v).cell? ⟨w.heap.size + 1, 0, none⟩ = some v := by
  obtain ⟨ps, h1, h2, h3⟩ := h.own
  have h3' : OwnT (w.heap.size + 1 + 1 + 1) (wr.setCell ⟨w.heap.size + 1, 0, none⟩ v) 54 v ps := h3.keep (by simp) (fun b hb _ => Below.heap_setCell _ _ _ _ (by simp; omega))
  refine ⟨?_, (h.b1.set_ 0 v).cell 0⟩
  obtain ⟨a, cap, rfl, h4, h5, h6⟩ := h3'.rd
  subst hL
  rw [List.take_length] at h2
  rw [h1, h2] at h4
  rw [h1] at h5 ⊢
  exact ⟨a, cap, rfl, h4.mono (fun b _ h => by omega), h5, h6, h.bel.setCell (by simp) _⟩
theorem TW.step {w : World} {sv : Value} {k : Nat} {l : List Rw} {v : Value} {wr wm w1 : World} (h : TW w sv l k v wr) {ps : List (Rw × Value)} (p1 : ps.length = k) (p2 : ps.map Prod.fst = l.take k) (p3 : OwnT (w.heap.size + 1 + 1 + 1) wr 54 v ps) (hm : Below wr.heap.size wr wm) {y : Rw} {tv : Value} (hyk : y.ok) (hy : l[k]? = some y)
    (ht : TwR (wr.heap.size ≤ ·) wm y tv) {g cap : Nat}
    (ho : w1.ownsRow (w.heap.size + 1 + 1 + 1) 54 57 (.slice (some ⟨g, 0, none⟩) (k + 1) cap) (k + 1) (flatP ps ++ y.vals tv)) (hg : wm.grownBy w1 v.ownBlock) (hlie : v.ownBlock = some g ∨ g = wm.heap.size) :
    TW w sv l (k + 1) (.slice (some ⟨g, 0, none⟩) (k + 1) cap) (w1.setCell ⟨w.heap.size + 1 + 1, 0, none⟩ (.slice (some ⟨g, 0, none⟩) (k + 1) cap)) := by
  have hs := h.sz
  have hl := fun b hb => (p3.1.1.lt b hb).2
  have hne : ∀ b, b < w.heap.size + 1 + 1 + 1 → some b ≠ v.ownBlock := fun b hb => own_ne p3.1.1 hb
  have hmk : ∀ (b : Nat) (t : TypeId) (cs : Array Value), b < w.heap.size + 1 + 1 + 1 → Blk wr b t cs → Blk w1 b t cs := fun b t cs hb hk => by
    have h1 := hk.below hm hk.lt
    exact (hg.block b h1.lt (hne b hb)).trans h1
  have hms := hm.size
  have hgs := hg.size
  have hB1 : Below w.heap.size w w1 := (h.bel.trans (hm.mono (by omega))).grown hg (by omega) (fun q hq => by have := (p3.1.1.lt q hq).1; omega)
  have p3m : OwnT (w.heap.size + 1 + 1 + 1) wm 54 v ps := p3.keep hms (fun b _ hb => hm.block b hb)
  have hpush := p3m.push hyk (ht.mono (fun b hb hS => ⟨by omega, fun e => by have := hl b e.symm; omega⟩)) p1 ho hg hlie
  refine ⟨(hmk _ _ _ (by omega) h.b0).far (by first | (simp; done) | (simp; omega)) _, (hmk _ _ _ (by omega) h.b1).far (by first | (simp; done) | (simp; omega)) _, (hmk _ _ _ (by omega) h.b2).set_ 0 _, ⟨ps ++ [(y, tv)], by simp [p1], ?_, ?_⟩, by simp; omega, hB1.setCell (by simp; omega) _⟩
  · rw [List.map_append, p2, List.take_add_one, hy]; rfl
  · exact hpush.keep (by simp) (fun b hb _ => Below.heap_setCell _ _ _ _ (by simp; omega))

set_option maxRecDepth 100000 in
set_option maxHeartbeats 4000000 in
theorem twinWord_any (S : Nat → Prop) (a : Option Addr) (len cap : Nat) (l : List Rw) (w : World) (hrd : RdRs S w a len l) (hm1 : len ≤ cap) (hm2 : cap ≤ maxLen) (hbig : len ≤ 100000) (hbt : ∀ r ∈ l, r.t.length ≤ 100000) :
    Calls Try.prog 16 #[.agg #[.slice a len cap]] w (TWPost l w) := by
  unfold maxLen at hm2
  have hll : l.length = len := hrd.1
  have HR := Lib.hid (And.intro hrd hbt)
  clear hrd hbt
  have hst := TW.start w (.slice a len cap) l
  go_enter Try.func16, Try.ntmps16
  go_wp2_with fail
  generalize (((w.alloc (.cells #[.slice a len cap] 34)).alloc (.cells #[.slice none 0 0] 34)).alloc (.cells #[.slice none 0 0] 34)) = w0 at hst ⊢
  have H0 := Lib.hid hst
  clear hst
  go_loopw [4] (fun i wr => ∃ (k : Nat) (v : Value), k ≤ len ∧ i = .int .i64 k ∧ TW w (.slice a len cap) l k v wr) (fun i _ => len - (intOf i).toNat)
  case atStart => exact ⟨0, _, by omega, rfl, H0.out⟩
  case round =>
    obtain ⟨k, v, hk, rfl, hr⟩ := hrel
    have c0 : wr.cell? ⟨w.heap.size, 0, none⟩ = some (.slice a len cap) := hr.b0.cell 0
    by_cases hlt : k < len
    · obtain ⟨ps, p1, p2, p3⟩ := hr.own
      obtain ⟨b, off, x, m, cp, r, rfl, hS, hbw, hv, hok, hrl, hrc1, hr1, hr2, hr3, hr4, hr5, hr6, hr7⟩ := HR.out.1.at_ k hlt
      have hB := hr.bel
      have d := row_below hB (p := ⟨b, off + k * 57, none⟩) hbw 57
      have d1 := d.1.trans hr1
      have d2 : rowOf wr ⟨b, off + k * 57, none⟩ 57 = r.vals (.slice x m cp) := d.2.trans hr2
      have hrow : RowR S wr r (.slice x m cp) := ⟨x, m, cp, rfl, hr5.below hB (fun _ _ h => h), hr6, hr7⟩
      have c2 : wr.cell? ⟨w.heap.size + 1 + 1, 0, none⟩ = some v := hr.b2.cell 0
      have z2 := hr.b2.frozen 0
      have hszr := hr.sz
      have HC := Lib.hid (fun (w' : World) (h' : Below wr.heap.size wr w') => twin_any S r hok (.slice x m cp) w' (hrow.below h') (HR.out.2 r (List.mem_of_getElem? hv)))
      have HK := Lib.hid (And.intro hr (And.intro p1 (And.intro p2 (And.intro p3 (And.intro hok hv)))))
      have HF : Hid (∀ w' : World, Below wr.heap.size wr w' → w'.cell? ⟨w.heap.size + 1 + 1, 0, none⟩ = some v ∧ w'.frozen? ⟨w.heap.size + 1 + 1, 0, none⟩ = false ∧ w'.ownsRow (w.heap.size + 1 + 1 + 1) 54 57 v k (flatP ps) ∧ wr.heap.size ≤ w'.heap.size ∧ Blk w' (w.heap.size + 1 + 1) 34 #[v]) := Lib.hid fun w' h' =>
        ⟨(hr.b2.below h' hr.b2.lt).cell 0, (hr.b2.below h' hr.b2.lt).frozen 0, by rw [← p1]; exact own_block p3.1.1 (fun q hq => h'.block q (p3.1.1.lt q hq).2), h'.size, hr.b2.below h' hr.b2.lt⟩
      clear d hr1 hr2 hr3 hr4 hr5 hr6 hr7 hrow hB p1 p2 p3 hv hrl hrc1 hr
      go_wp2
      go_region_law (first
        | (go_simp; go_at_call 17; refine (HC.out _ (Below.refl _ _).drew).mono ?_; rintro e w5 ⟨tv, rfl, htw, hb5⟩; obtain ⟨c5, z5, o5, hs5, b5⟩ := HF.out w5 ((Below.refl _ _).drew.trans hb5); have hl5 : w.heap.size + 1 + 1 < w5.heap.size := (by omega); have hyl := Rw.len hok tv; have hyc := htw.row.cell1 hok; have HO5 := Lib.hid (And.intro o5 b5); have H5 := Lib.hid (And.intro ((Below.refl _ _).drew.trans hb5) htw); clear o5 b5 hb5 htw)
        | (refine step_lies app_row (by rfl) (.tmp 13) (.tmp 20) (by rfl) (w.heap.size + 1 + 1 + 1) _ _ _ (by rfl) (HO5.out.1.alloc _) ⟨w5.heap.size, 0, none⟩ 1 1 (r.vals tv) (by rfl) (by simp [hyl]) (hasRow_new w5 _ _ 0 57 (by simp [hyl])) ((rowOf_new w5 _ _ 0 57 (by simp [hyl])).trans (List.take_of_length_le (by simp [hyl]))) hyc (by omega) (by omega) (by simp; omega) ?_; intro gg cp w7 hown1 hgrow hlie; have H8 := Lib.hid (And.intro hown1 (And.intro hgrow hlie)); have hb7 := ((hgrow.block _ (by simp; omega) (own_ne HO5.out.1 (b := w.heap.size + 1 + 1) (by omega))).trans (HO5.out.2.alloc _)); have z7 := Blk.frozen hb7 0; have c7 := Blk.cell hb7 0; simp at c7; clear hown1 hgrow hlie hb7))
      all_goals go_wp2
      all_goals exact ⟨⟨k + 1, _, by omega, by go_num, HK.out.1.step HK.out.2.1 HK.out.2.2.1 HK.out.2.2.2.1 (H5.out.1.alloc H5.out.1.size _) hok HK.out.2.2.2.2.2 (H5.out.2.below ((Below.refl _ _).alloc (Nat.le_refl _) _)) H8.out.1 H8.out.2.1 H8.out.2.2⟩, by simp [intOf]; omega⟩
    · have hkN : k = len := by omega
      subst hkN
      obtain ⟨ps, p1, p2, p3⟩ := hr.own
      obtain ⟨va, vcap, rfl, -⟩ := p3.rd
      clear p1 p2 p3
      obtain ⟨hw, hc⟩ := hr.end_ hll.symm
      have f1 := hr.b1.frozen 0
      have f2 := hr.b1.cell 0
      have f3 := hr.b2.cell 0
      simp at f2 f3
      have H := Lib.hid (And.intro hw hc)
      clear hw hc hr
      go_wp2_with fail
      try simp only [Exit.inBlock, Exit.then]
      first | refine bodyPost_ret (ret_row (n := 1) rfl (by kernel_rfl) _ _ _ rfl ?_) rfl ?_ | refine bodyPost_end (ret_row (n := 1) rfl (by kernel_rfl) _ _ _ rfl ?_) rfl ?_
      · exact (row1 H.out.2).1
      · rw [(row1 H.out.2).2]; exact H.out.1
end Go.Proofs.Ytbdklfcgcmdgaaa
