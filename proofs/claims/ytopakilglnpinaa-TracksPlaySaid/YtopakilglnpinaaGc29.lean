/-
  sennitlaw13.TwinWord: a word whose rows are twins. sennitlaw13.Spoil; slices.Clone, slices.Clip; words.Copy.
-/
import Derived.Test.YtopakilglnpinaaGc28
namespace Go.Proofs.Ytopakilglnpinaa
open Go.RowKit
set_option linter.unusedVariables false
set_option linter.unusedSimpArgs false

/-- A slice that reads as a list of twin rows. -/
def RdTs (S : Nat → Prop) (w : World) (a : Option Addr) (len : Nat) (l : List Rw) : Prop :=
  l.length = len ∧ (∀ r ∈ l, r.ok) ∧ ∀ k r, l[k]? = some r → ∃ b off tv, a = some ⟨b, off, none⟩ ∧ S b ∧ b < w.heap.size ∧ hasRow w ⟨b, off + k * 57, none⟩ 57 = true ∧ rowOf w ⟨b, off + k * 57, none⟩ 57 = r.vals tv ∧ TwR S w r tv
theorem RdTs.rd {S : Nat → Prop} {w : World} {a : Option Addr} {len : Nat} {l : List Rw} (h : RdTs S w a len l) : RdRs S w a len l :=
  ⟨h.1, h.2.1, fun k r hk => by
    obtain ⟨b, off, tv, h1, h2, h3, h4, h5, h6⟩ := h.2.2 k r hk
    obtain ⟨x, m, cap, rfl, h7, h8, h9⟩ := h6.row
    exact ⟨b, off, x, m, cap, h1, h2, h3, h4, h5, h7, h8, h9⟩⟩
theorem RdTs.keep {S : Nat → Prop} {w w' : World} {a : Option Addr} {len : Nat} {l : List Rw} (h : RdTs S w a len l) (hs : w.heap.size ≤ w'.heap.size) (hk : ∀ b, S b → b < w.heap.size → w'.heap[b]? = w.heap[b]?) : RdTs S w' a len l :=
  ⟨h.1, h.2.1, fun k x hx => by
    obtain ⟨b, off, tv, e, hS, hb, h1, h2, h3⟩ := h.2.2 k x hx
    have := row_block (n := 57) (p := ⟨b, off + k * 57, none⟩) (hk b hS hb)
    exact ⟨b, off, tv, e, hS, by omega, this.1.trans h1, this.2.trans h2, h3.keep hs hk⟩⟩
theorem RdTs.mono {S S' : Nat → Prop} {w : World} {a : Option Addr} {len : Nat} {l : List Rw} (h : RdTs S w a len l) (hs : ∀ b, b < w.heap.size → S b → S' b) : RdTs S' w a len l :=
  ⟨h.1, h.2.1, fun k x hx => by
    obtain ⟨b, off, tv, e, hS, hb, h1, h2, h3⟩ := h.2.2 k x hx
    exact ⟨b, off, tv, e, hs b hb hS, hb, h1, h2, h3.mono hs⟩⟩
theorem RdTs.below {S : Nat → Prop} {w w' : World} {a : Option Addr} {len : Nat} {l : List Rw} (h : RdTs S w a len l) (hb : Below w.heap.size w w') : RdTs S w' a len l := h.keep hb.size fun b _ hlt => hb.block b hlt

def OwnT (base : Nat) (w : World) (e : TypeId) (v : Value) (ps : List (Rw × Value)) : Prop := OwnR base w e v ps ∧ ∀ p ∈ ps, TwR (fun b => base ≤ b ∧ some b ≠ v.ownBlock) w p.1 p.2
theorem OwnT.nil (base : Nat) (w : World) (e : TypeId) : OwnT base w e (.slice none 0 0) [] := ⟨OwnR.nil _ _ _, by simp⟩
theorem OwnT.keep {base : Nat} {w w' : World} {e : TypeId} {v : Value} {ps : List (Rw × Value)} (h : OwnT base w e v ps) (hs : w.heap.size ≤ w'.heap.size) (hk : ∀ b, base ≤ b → b < w.heap.size → w'.heap[b]? = w.heap[b]?) : OwnT base w' e v ps :=
  ⟨h.1.keep hs hk, fun p hp => (h.2 p hp).keep hs (fun b hb hlt => hk b hb.1 hlt)⟩
theorem OwnT.push {base : Nat} {wm w1 : World} {e : TypeId} {v : Value} {ps : List (Rw × Value)} (h : OwnT base wm e v ps) {r : Rw} {tv : Value} (hr : r.ok) (ht : TwR (fun b => base ≤ b ∧ some b ≠ v.ownBlock) wm r tv) {g cap n : Nat} (hn : ps.length = n)
    (ho : w1.ownsRow base e 57 (.slice (some ⟨g, 0, none⟩) (n + 1) cap) (n + 1) (flatP ps ++ r.vals tv)) (hg : wm.grownBy w1 v.ownBlock) (hl : v.ownBlock = some g ∨ g = wm.heap.size) :
    OwnT base w1 e (.slice (some ⟨g, 0, none⟩) (n + 1) cap) (ps ++ [(r, tv)]) := by
  refine ⟨h.1.push hr ht.row hn ho hg hl, fun p hp => ?_⟩
  have key : ∀ {r' : Rw} {tv' : Value}, TwR (fun b => base ≤ b ∧ some b ≠ v.ownBlock) wm r' tv' → TwR (fun b => base ≤ b ∧ some b ≠ (Value.slice (some ⟨g, 0, none⟩) (n + 1) cap).ownBlock) w1 r' tv' := fun {r' tv'} h' => by
    have h2 : TwR (fun b => base ≤ b ∧ some b ≠ v.ownBlock ∧ b < wm.heap.size) wm r' tv' := h'.mono (fun b hb hS => ⟨hS.1, hS.2, hb⟩)
    refine (h2.keep hg.size (fun b hb _ => hg.block b hb.2.2 hb.2.1)).mono (fun b _ hb => ⟨hb.1, ?_⟩)
    simp only [Value.ownBlock, ne_eq, Option.some.injEq]
    rintro rfl
    rcases hl with hl | hl
    · exact hb.2.1 hl.symm
    · omega
  rcases List.mem_append.1 hp with hp | hp
  · exact key (h.2 p hp)
  · simp at hp
    subst hp
    exact key ht
theorem OwnT.rd {base : Nat} {w : World} {e : TypeId} {v : Value} {ps : List (Rw × Value)} (h : OwnT base w e v ps) : ∃ a cap, v = .slice a ps.length cap ∧ RdTs (base ≤ ·) w a ps.length (ps.map Prod.fst) ∧ ps.length ≤ cap ∧ cap ≤ maxLen := by
  obtain ⟨⟨h1, h2⟩, h3⟩ := h
  have hok : ∀ p ∈ ps, p.1.ok := fun p hp => (h2 p hp).1
  rcases h1.2 with ⟨rfl, h0⟩ | ⟨g, cap, cur, rfl, hb, hg, hnc, hcm, hcs, htake⟩
  · have : ps = [] := List.eq_nil_of_length_eq_zero h0
    subst this
    exact ⟨none, 0, rfl, ⟨rfl, by simp, by simp⟩, Nat.le_refl _, by simp⟩
  · refine ⟨_, cap, rfl, ⟨by simp, ?_, fun k r hk => ?_⟩, hnc, hcm⟩
    · intro r hr
      obtain ⟨p, hp, rfl⟩ := List.mem_map.1 hr
      exact hok p hp
    · rw [List.getElem?_map, Option.map_eq_some_iff] at hk
      obtain ⟨p, hk, rfl⟩ := hk
      have hkl : k < ps.length := (List.getElem?_eq_some_iff.1 hk).1
      have hpt := h3 p (List.mem_of_getElem? hk)
      have hpo := hok p (List.mem_of_getElem? hk)
      have hlen := Rw.len hpo p.2
      have hrow := row_of_cells (w := w) (p := ⟨g, 0 + k * 57, none⟩) (l := p.1.vals p.2) (fun j u hu => by
        have hj : j < 57 := by rw [← hlen]; exact (List.getElem?_eq_some_iff.1 hu).1
        have hin : k * 57 + j < ps.length * 57 := by
          have : (k + 1) * 57 ≤ ps.length * 57 := Nat.mul_le_mul_right _ (by omega)
          omega
        rw [add_at, cell_of_row w g _ cur e (0, 0) hg, show 0 + k * 57 + j = k * 57 + j from by omega]
        have e1 : cur[k * 57 + j]? = (cur.toList.take (ps.length * 57))[k * 57 + j]? := by rw [List.getElem?_take, if_pos hin]; simp
        rw [e1, htake, flatP_at hok hk hj, hu])
      rw [hlen] at hrow
      exact ⟨g, 0, p.2, rfl, hb, lt_of_some hg, hrow.1, hrow.2, hpt.mono (fun b _ h => h.1)⟩

/-- rows in a block that may be spoiled: each one's table has its room in blocks of T -/
def SpA (T : Nat → Prop) (w : World) (g n : Nat) : Prop :=
  ∃ cur : Array Value, w.heap[g]? = some (.cells cur 54 (0, 0)) ∧ n * 57 ≤ cur.size ∧ ∀ k, k < n → ∃ (r : Rw) (tv : Value), r.ok ∧ (∃ x m cap, tv = .slice x m cap ∧ m ≤ cap ∧ cap ≤ maxLen) ∧ RoomV T w tv ∧ ∀ i, i < 57 → cur[k * 57 + i]? = (r.vals tv)[i]?
def SpS (T : Nat → Prop) (w : World) (a : Option Addr) (n : Nat) : Prop := n = 0 ∨ ∃ g, a = some ⟨g, 0, none⟩ ∧ T g ∧ SpA T w g n
theorem SpA.keep {T : Nat → Prop} {w w' : World} {g n : Nat} (h : SpA T w g n) (hg : w'.heap[g]? = w.heap[g]?) (hk : ∀ b, T b → b < w.heap.size → w'.heap[b]? = w.heap[b]?) : SpA T w' g n := by
  obtain ⟨cur, h1, h2, h3⟩ := h
  refine ⟨cur, hg.trans h1, h2, fun k hkn => ?_⟩
  obtain ⟨r, tv, q1, q2, q3, q4⟩ := h3 k hkn
  exact ⟨r, tv, q1, q2, q3.keep hk, q4⟩
theorem SpA.mono {T T' : Nat → Prop} {w : World} {g n : Nat} (h : SpA T w g n) (hs : ∀ b, b < w.heap.size → T b → T' b) : SpA T' w g n := by
  obtain ⟨cur, h1, h2, h3⟩ := h
  refine ⟨cur, h1, h2, fun k hkn => ?_⟩
  obtain ⟨r, tv, q1, q2, q3, q4⟩ := h3 k hkn
  exact ⟨r, tv, q1, q2, q3.mono hs, q4⟩
theorem SpA.lt {T : Nat → Prop} {w : World} {g n : Nat} (h : SpA T w g n) : g < w.heap.size := by
  obtain ⟨cur, h1, -⟩ := h
  exact lt_of_some h1
theorem SpS.keep {T : Nat → Prop} {w w' : World} {a : Option Addr} {n : Nat} (h : SpS T w a n) (hk : ∀ b, T b → b < w.heap.size → w'.heap[b]? = w.heap[b]?) : SpS T w' a n := by
  rcases h with h | ⟨g, h1, h2, h3⟩
  · exact .inl h
  · exact .inr ⟨g, h1, h2, h3.keep (hk g h2 h3.lt) hk⟩
theorem SpS.mono {T T' : Nat → Prop} {w : World} {a : Option Addr} {n : Nat} (h : SpS T w a n) (hs : ∀ b, b < w.heap.size → T b → T' b) : SpS T' w a n := by
  rcases h with h | ⟨g, h1, h2, h3⟩
  · exact .inl h
  · exact .inr ⟨g, h1, hs g h3.lt h2, h3.mono hs⟩
theorem SpS.below {T : Nat → Prop} {w w' : World} {a : Option Addr} {n : Nat} (h : SpS T w a n) (hb : Below w.heap.size w w') : SpS T w' a n := h.keep fun b _ hl => hb.block b hl
theorem OwnT.sp {base : Nat} {w : World} {ps : List (Rw × Value)} {a : Option Addr} {n cap : Nat} (h : OwnT base w 54 (.slice a n cap) ps) : SpS (base ≤ ·) w a ps.length := by
  obtain ⟨⟨h1, h2⟩, h3⟩ := h
  have hok : ∀ p ∈ ps, p.1.ok := fun p hp => (h2 p hp).1
  rcases h1.2 with ⟨-, h0⟩ | ⟨g, cp, cur, he, hb, hg, hnc, hcm, hcs, htake⟩
  · exact .inl h0
  · cases he
    refine .inr ⟨g, rfl, hb, cur, hg, by rw [hcs]; exact Nat.mul_le_mul_right _ hnc, fun k hk => ?_⟩
    obtain ⟨⟨r, tv⟩, hp⟩ : ∃ p, ps[k]? = some p := ⟨_, List.getElem?_eq_getElem hk⟩
    have hpt := h3 _ (List.mem_of_getElem? hp)
    have hpo := hok _ (List.mem_of_getElem? hp)
    refine ⟨r, tv, hpo, ?_, hpt.room.mono fun b _ h => h.1, fun j hj => ?_⟩
    · obtain ⟨x, cp', htv, -, q1, q2, -⟩ := hpt
      exact ⟨x, _, cp', htv, by omega, q2⟩
    · have hin : k * 57 + j < ps.length * 57 := by
        have : (k + 1) * 57 ≤ ps.length * 57 := Nat.mul_le_mul_right _ (by omega)
        omega
      have e1 : cur[k * 57 + j]? = (cur.toList.take (ps.length * 57))[k * 57 + j]? := by rw [List.getElem?_take, if_pos hin]; simp
      rw [e1, htake, flatP_at hok hp hj]

structure TW (w : World) (sv : Value) (l : List Rw) (k : Nat) (v : Value) (wr : World) : Prop where
  b0 : Blk wr w.heap.size 34 #[sv]
  b1 : Blk wr (w.heap.size + 1) 34 #[.slice none 0 0]
  b2 : Blk wr (w.heap.size + 1 + 1) 34 #[v]
  own : ∃ ps : List (Rw × Value), ps.length = k ∧ ps.map Prod.fst = l.take k ∧ OwnT (w.heap.size + 1 + 1 + 1) wr 54 v ps
  sz : w.heap.size + 1 + 1 + 1 ≤ wr.heap.size
  bel : Below w.heap.size w wr
theorem TW.start (w : World) (sv : Value) (l : List Rw) : TW w sv l 0 (.slice none 0 0) (((w.alloc (.cells #[sv] 34)).alloc (.cells #[.slice none 0 0] 34)).alloc (.cells #[.slice none 0 0] 34)) :=
  ⟨((Blk.new _ _ _).alloc _).alloc _, (new1 w _ [Value.slice none 0 0] _).alloc _, new2 w _ _ [Value.slice none 0 0] _, ⟨[], rfl, by simp, OwnT.nil _ _ _⟩, by simp, (((Below.refl _ _).alloc (Nat.le_refl _) _).alloc (by simp) _).alloc (by simp; omega) _⟩
/-- a word of twins, in new memory -/
def TWPost (l : List Rw) (w : World) (e : Ending) (w' : World) : Prop :=
  ∃ a cap, e = .returned (.agg #[.slice a l.length cap]) ∧ RdTs (w.heap.size ≤ ·) w' a l.length l ∧ l.length ≤ cap ∧ cap ≤ maxLen ∧ Below w.heap.size w w'
/-- the same, and the rows may be spoiled -/
def TWPost2 (l : List Rw) (w : World) (e : Ending) (w' : World) : Prop :=
  ∃ a cap, e = .returned (.agg #[.slice a l.length cap]) ∧ RdTs (w.heap.size ≤ ·) w' a l.length l ∧ l.length ≤ cap ∧ cap ≤ maxLen ∧ SpS (w.heap.size ≤ ·) w' a l.length ∧ Below w.heap.size w w'
theorem TWPost2.less {l : List Rw} {w w' : World} {e : Ending} (h : TWPost2 l w e w') : TWPost l w e w' := by
  obtain ⟨a, cap, h1, h2, h3, h4, -, h5⟩ := h
  exact ⟨a, cap, h1, h2, h3, h4, h5⟩
theorem TW.end_ {w : World} {sv : Value} {k : Nat} {l : List Rw} {v : Value} {wr : World} (h : TW w sv l k v wr) (hL : k = l.length) :
    TWPost2 l w (.returned (.agg #[v])) (wr.setCell ⟨w.heap.size + 1, 0, none⟩ v) ∧ (wr.setCell ⟨w.heap.size + 1, 0, none⟩ v).cell? ⟨w.heap.size + 1, 0, none⟩ = some v := by
  obtain ⟨ps, h1, h2, h3⟩ := h.own
  have h3' : OwnT (w.heap.size + 1 + 1 + 1) (wr.setCell ⟨w.heap.size + 1, 0, none⟩ v) 54 v ps := h3.keep (by simp) (fun b hb _ => Below.heap_setCell _ _ _ _ (by simp; omega))
  refine ⟨?_, (h.b1.set_ 0 v).cell 0⟩
  obtain ⟨a, cap, rfl, h4, h5, h6⟩ := h3'.rd
  subst hL
  rw [List.take_length] at h2
  rw [h1, h2] at h4
  have hsp := h3'.sp
  rw [h1] at h5 hsp ⊢
  exact ⟨a, cap, rfl, h4.mono (fun b _ h => by omega), h5, h6, hsp.mono (fun b _ h => by omega), h.bel.setCell (by simp) _⟩
theorem TW.step {w : World} {sv : Value} {k : Nat} {l : List Rw} {v : Value} {wr wm w1 : World} (h : TW w sv l k v wr) {ps : List (Rw × Value)} (p1 : ps.length = k) (p2 : ps.map Prod.fst = l.take k) (p3 : OwnT (w.heap.size + 1 + 1 + 1) wr 54 v ps) (hm : Below wr.heap.size wr wm) {y : Rw} {tv : Value} (hyk : y.ok) (hy : l[k]? = some y)
    (ht : TwR (wr.heap.size ≤ ·) wm y tv) {g cap : Nat}
    (ho : w1.ownsRow (w.heap.size + 1 + 1 + 1) 54 57 (.slice (some ⟨g, 0, none⟩) (k + 1) cap) (k + 1) (flatP ps ++ y.vals tv)) (hg : wm.grownBy w1 v.ownBlock) (hlie : v.ownBlock = some g ∨ g = wm.heap.size) :
    TW w sv l (k + 1) (.slice (some ⟨g, 0, none⟩) (k + 1) cap) (w1.setCell ⟨w.heap.size + 1 + 1, 0, none⟩ (.slice (some ⟨g, 0, none⟩) (k + 1) cap)) := by
  have hs := h.sz
  have hl := fun b hb => (p3.1.1.lt b hb).2
  have hne : ∀ b, b < w.heap.size + 1 + 1 + 1 → some b ≠ v.ownBlock := fun b hb => own_ne p3.1.1 hb
  have hmk : ∀ (b : Nat) (t : TypeId) (cs : Array Value), b < w.heap.size + 1 + 1 + 1 → Blk wr b t cs → Blk w1 b t cs := fun b t cs hb hk => by
    have h1 := hk.below hm hk.lt
    exact (hg.block b h1.lt (hne b hb)).trans h1
  have hms := hm.size
  have hgs := hg.size
  have hB1 : Below w.heap.size w w1 := (h.bel.trans (hm.mono (by omega))).grown hg (by omega) (fun q hq => by have := (p3.1.1.lt q hq).1; omega)
  have p3m : OwnT (w.heap.size + 1 + 1 + 1) wm 54 v ps := p3.keep hms (fun b _ hb => hm.block b hb)
  have hpush := p3m.push hyk (ht.mono (fun b hb hS => ⟨by omega, fun e => by have := hl b e.symm; omega⟩)) p1 ho hg hlie
  refine ⟨(hmk _ _ _ (by omega) h.b0).far (by first | (simp; done) | (simp; omega)) _, (hmk _ _ _ (by omega) h.b1).far (by first | (simp; done) | (simp; omega)) _, (hmk _ _ _ (by omega) h.b2).set_ 0 _, ⟨ps ++ [(y, tv)], by simp [p1], ?_, ?_⟩, by simp; omega, hB1.setCell (by simp; omega) _⟩
  · rw [List.map_append, p2, List.take_add_one, hy]; rfl
  · exact hpush.keep (by simp) (fun b hb _ => Below.heap_setCell _ _ _ _ (by simp; omega))

set_option maxRecDepth 100000 in
set_option maxHeartbeats 4000000 in
theorem twinWord2_any (S : Nat → Prop) (a : Option Addr) (len cap : Nat) (l : List Rw) (w : World) (hrd : RdRs S w a len l) (hm1 : len ≤ cap) (hm2 : cap ≤ maxLen) (hbig : len ≤ 100000) (hbt : ∀ r ∈ l, r.t.length ≤ 100000) :
    Calls Try.prog 8 #[.agg #[.slice a len cap]] w (TWPost2 l w) := by
  unfold maxLen at hm2
  have hll : l.length = len := hrd.1
  have HR := Lib.hid (And.intro hrd hbt)
  clear hrd hbt
  have hst := TW.start w (.slice a len cap) l
  go_enter Try.func8, Try.ntmps8
  go_wp2_with fail
  generalize (((w.alloc (.cells #[.slice a len cap] 34)).alloc (.cells #[.slice none 0 0] 34)).alloc (.cells #[.slice none 0 0] 34)) = w0 at hst ⊢
  have H0 := Lib.hid hst
  clear hst
  go_loopw [4] (fun i wr => ∃ (k : Nat) (v : Value), k ≤ len ∧ i = .int .i64 k ∧ TW w (.slice a len cap) l k v wr) (fun i _ => len - (intOf i).toNat)
  case atStart => exact ⟨0, _, by omega, rfl, H0.out⟩
  case round =>
    obtain ⟨k, v, hk, rfl, hr⟩ := hrel
    have c0 : wr.cell? ⟨w.heap.size, 0, none⟩ = some (.slice a len cap) := hr.b0.cell 0
    by_cases hlt : k < len
    · obtain ⟨ps, p1, p2, p3⟩ := hr.own
      obtain ⟨b, off, x, m, cp, r, rfl, hS, hbw, hv, hok, hrl, hrc1, hr1, hr2, hr3, hr4, hr5, hr6, hr7⟩ := HR.out.1.at_ k hlt
      have hB := hr.bel
      have d := row_below hB (p := ⟨b, off + k * 57, none⟩) hbw 57
      have d1 := d.1.trans hr1
      have d2 : rowOf wr ⟨b, off + k * 57, none⟩ 57 = r.vals (.slice x m cp) := d.2.trans hr2
      have hrow : RowR S wr r (.slice x m cp) := ⟨x, m, cp, rfl, hr5.below hB (fun _ _ h => h), hr6, hr7⟩
      have c2 : wr.cell? ⟨w.heap.size + 1 + 1, 0, none⟩ = some v := hr.b2.cell 0
      have z2 := hr.b2.frozen 0
      have hszr := hr.sz
      have HC := Lib.hid (fun (w' : World) (h' : Below wr.heap.size wr w') => twin_any S r hok (.slice x m cp) w' (hrow.below h') (HR.out.2 r (List.mem_of_getElem? hv)))
      have HK := Lib.hid (And.intro hr (And.intro p1 (And.intro p2 (And.intro p3 (And.intro hok hv)))))
      have HF : Hid (∀ w' : World, Below wr.heap.size wr w' → w'.cell? ⟨w.heap.size + 1 + 1, 0, none⟩ = some v ∧ w'.frozen? ⟨w.heap.size + 1 + 1, 0, none⟩ = false ∧ w'.ownsRow (w.heap.size + 1 + 1 + 1) 54 57 v k (flatP ps) ∧ wr.heap.size ≤ w'.heap.size ∧ Blk w' (w.heap.size + 1 + 1) 34 #[v]) := Lib.hid fun w' h' =>
        ⟨(hr.b2.below h' hr.b2.lt).cell 0, (hr.b2.below h' hr.b2.lt).frozen 0, by rw [← p1]; exact own_block p3.1.1 (fun q hq => h'.block q (p3.1.1.lt q hq).2), h'.size, hr.b2.below h' hr.b2.lt⟩
      clear d hr1 hr2 hr3 hr4 hr5 hr6 hr7 hrow hB p1 p2 p3 hv hrl hrc1 hr
      go_wp2
      go_region_law (first
        | (go_simp; go_at_call 9; refine (HC.out _ (Below.refl _ _).drew).mono ?_; rintro e w5 ⟨tv, rfl, htw, hb5⟩; obtain ⟨c5, z5, o5, hs5, b5⟩ := HF.out w5 ((Below.refl _ _).drew.trans hb5); have hl5 : w.heap.size + 1 + 1 < w5.heap.size := (by omega); have hyl := Rw.len hok tv; have hyc := htw.row.cell1 hok; have HO5 := Lib.hid (And.intro o5 b5); have H5 := Lib.hid (And.intro ((Below.refl _ _).drew.trans hb5) htw); clear o5 b5 hb5 htw)
        | (refine step_lies app_row (by rfl) (.tmp 13) (.tmp 20) (by rfl) (w.heap.size + 1 + 1 + 1) _ _ _ (by rfl) (HO5.out.1.alloc _) ⟨w5.heap.size, 0, none⟩ 1 1 (r.vals tv) (by rfl) (by simp [hyl]) (hasRow_new w5 _ _ 0 57 (by simp [hyl])) ((rowOf_new w5 _ _ 0 57 (by simp [hyl])).trans (List.take_of_length_le (by simp [hyl]))) hyc (by omega) (by omega) (by simp; omega) ?_; intro gg cp w7 hown1 hgrow hlie; have H8 := Lib.hid (And.intro hown1 (And.intro hgrow hlie)); have hb7 := ((hgrow.block _ (by simp; omega) (own_ne HO5.out.1 (b := w.heap.size + 1 + 1) (by omega))).trans (HO5.out.2.alloc _)); have z7 := Blk.frozen hb7 0; have c7 := Blk.cell hb7 0; simp at c7; clear hown1 hgrow hlie hb7))
      all_goals go_wp2
      all_goals exact ⟨⟨k + 1, _, by omega, by go_num, HK.out.1.step HK.out.2.1 HK.out.2.2.1 HK.out.2.2.2.1 (H5.out.1.alloc H5.out.1.size _) hok HK.out.2.2.2.2.2 (H5.out.2.below ((Below.refl _ _).alloc (Nat.le_refl _) _)) H8.out.1 H8.out.2.1 H8.out.2.2⟩, by simp [intOf]; omega⟩
    · have hkN : k = len := by omega
      subst hkN
      obtain ⟨ps, p1, p2, p3⟩ := hr.own
      obtain ⟨va, vcap, rfl, -⟩ := p3.rd
      clear p1 p2 p3
      obtain ⟨hw, hc⟩ := hr.end_ hll.symm
      have f1 := hr.b1.frozen 0
      have f2 := hr.b1.cell 0
      have f3 := hr.b2.cell 0
      simp at f2 f3
      have H := Lib.hid (And.intro hw hc)
      clear hw hc hr
      go_wp2_with fail
      try simp only [Exit.inBlock, Exit.then]
      first | refine bodyPost_ret (ret_row (n := 1) rfl (by kernel_rfl) _ _ _ rfl ?_) rfl ?_ | refine bodyPost_end (ret_row (n := 1) rfl (by kernel_rfl) _ _ _ rfl ?_) rfl ?_
      · exact (row1 H.out.2).1
      · rw [(row1 H.out.2).2]; exact H.out.1
theorem twinWord_any (S : Nat → Prop) (a : Option Addr) (len cap : Nat) (l : List Rw) (w : World) (hrd : RdRs S w a len l) (hm1 : len ≤ cap) (hm2 : cap ≤ maxLen) (hbig : len ≤ 100000) (hbt : ∀ r ∈ l, r.t.length ≤ 100000) :
    Calls Try.prog 8 #[.agg #[.slice a len cap]] w (TWPost l w) := (twinWord2_any S a len cap l w hrd hm1 hm2 hbig hbt).mono fun _ _ h => h.less
end Go.Proofs.Ytopakilglnpinaa
namespace Go.Proofs.Ytopakilglnpinaa
open Go.RowKit
set_option linter.unusedVariables false
set_option linter.unusedSimpArgs false

/-- blocks of S alone, of tables, have been written; each is as long as it was -/
structure Spd (S : Nat → Prop) (w w' : World) : Prop where
  os : w'.os = w.os
  tape : w'.tape = w.tape
  output : w'.output = w.output
  size : w.heap.size ≤ w'.heap.size
  far : ∀ b, b < w.heap.size → ¬ S b → w'.heap[b]? = w.heap[b]?
  kind : ∀ (b : Nat) (cur : Array Value) (t : TypeId) (fr : Nat × Nat), w.heap[b]? = some (.cells cur t fr) → ∃ cur', w'.heap[b]? = some (.cells cur' t fr) ∧ cur'.size = cur.size ∧ (t ≠ 90 → cur' = cur)
theorem Spd.refl (S : Nat → Prop) (w : World) : Spd S w w := ⟨rfl, rfl, rfl, Nat.le_refl _, fun _ _ _ => rfl, fun b cur t fr h => ⟨cur, h, rfl, fun _ => rfl⟩⟩
theorem Spd.trans {S : Nat → Prop} {a b c : World} (h : Spd S a b) (k : Spd S b c) : Spd S a c :=
  ⟨k.os.trans h.os, k.tape.trans h.tape, k.output.trans h.output, Nat.le_trans h.size k.size, fun i hi hs => (k.far i (Nat.lt_of_lt_of_le hi h.size) hs).trans (h.far i hi hs), fun i cur t fr hc => by
    obtain ⟨c1, h1, h2, h3⟩ := h.kind i cur t fr hc
    obtain ⟨c2, k1, k2, k3⟩ := k.kind i c1 t fr h1
    exact ⟨c2, k1, k2.trans h2, fun hn => (k3 hn).trans (h3 hn)⟩⟩
theorem Spd.alloc {S : Nat → Prop} {a b : World} (h : Spd S a b) (o : Obj) : Spd S a (b.alloc o) :=
  ⟨h.os, h.tape, h.output, by have := h.size; simp; omega, fun k hk hn => (Below.heap_alloc _ _ _ (by have := h.size; omega)).trans (h.far k hk hn), fun i cur t fr hc => by
    obtain ⟨c1, h1, h2, h3⟩ := h.kind i cur t fr hc
    exact ⟨c1, (Below.heap_alloc _ _ _ (lt_of_some h1)).trans h1, h2, h3⟩⟩
theorem Spd.mono {S S' : Nat → Prop} {a b : World} (h : Spd S a b) (hs : ∀ k, k < a.heap.size → S k → S' k) : Spd S' a b := ⟨h.os, h.tape, h.output, h.size, fun k hk hn => h.far k hk fun hS => hn (hs k hk hS), h.kind⟩
theorem Spd.chg {S : Nat → Prop} {a b : World} (h : Spd S a b) : Chg S a b := ⟨h.os, h.tape, h.output, h.size, h.far⟩
theorem Spd.put {S : Nat → Prop} {a b : World} (h : Spd S a b) {g o : Nat} {cur : Array Value} {l : List Value} (hg : b.heap[g]? = some (.cells cur 90 (0, 0))) (hS : S g ∨ a.heap.size ≤ g) (hl : o + l.length ≤ cur.size) : Spd S a (putRow b ⟨g, o, none⟩ l) := by
  have hb : Blk b g 90 cur.toList.toArray := by simpa [Blk] using hg
  have hp := hb.put o l
  refine ⟨?_, ?_, ?_, ?_, fun k hk hn => ?_, fun i c t fr hc => ?_⟩
  · simp [putRow, hg, World.setRow]; exact h.os
  · simp [putRow, hg, World.setRow]; exact h.tape
  · simp [putRow, hg, World.setRow]; exact h.output
  · have := h.size; simpa using this
  · have hne : k ≠ g := by rintro rfl; rcases hS with hS | hS; exact hn hS; omega
    exact (putRow_other _ _ _ _ (by simpa using hne)).trans (h.far k hk hn)
  · obtain ⟨c1, h1, h2, h3⟩ := h.kind i c t fr hc
    by_cases hi : i = g
    · subst hi
      rw [hg] at h1
      cases h1
      refine ⟨_, hp, ?_, fun hn => absurd rfl hn⟩
      rw [← h2]
      simp [spl]; omega
    · exact ⟨c1, (putRow_other _ _ _ _ (by simpa using hi)).trans h1, h2, h3⟩
theorem RoomV.spd {S S' : Nat → Prop} {w w' : World} {tv : Value} (h : RoomV S w tv) (hs : Spd S' w w') : RoomV S w' tv := fun x m cap e k hlt => by
  obtain ⟨b, off, cur, h1, h2, h3, h4⟩ := h x m cap e k hlt
  obtain ⟨c1, k1, k2, -⟩ := hs.kind b cur _ _ h3
  exact ⟨b, off, c1, h1, h2, k1, by omega⟩
def markR : List Value := .bool true :: .int .i64 (-99) :: cellR

set_option maxRecDepth 100000 in
set_option maxHeartbeats 4000000 in
theorem spoil_any (S : Nat → Prop) (r : Rw) (hr : r.ok) (tv : Value) (w : World) (hm : ∃ x m cap, tv = .slice x m cap ∧ m ≤ cap ∧ cap ≤ maxLen) (hroom : RoomV S w tv) :
    Calls Try.prog 19 #[.agg (r.vals tv).toArray] w fun e w' => (∃ v, e = .returned v) ∧ Spd S w w' := by
  obtain ⟨x, m, cap, rfl, hm1, hm2⟩ := hm
  unfold maxLen at hm2
  have hvl := Rw.len hr (.slice x m cap)
  have hcl : r.c.length = 55 := (okL_len hr.1).trans len_cellK
  have hst : Spd S w (w.alloc (.cells (r.vals (.slice x m cap)).toArray 54)) := (Spd.refl S w).alloc _
  have f56 : (w.alloc (.cells (r.vals (.slice x m cap)).toArray 54)).cell? ⟨w.heap.size, 56, none⟩ = some (.slice x m cap) := by
    rw [(Blk.new w _ _).cell]; simp [Rw.vals, List.getElem?_append, hcl]
  have HR := Lib.hid hroom
  have hcr := cellR_cell1
  clear hroom
  go_enter Try.func19, Try.ntmps19
  go_upto_region 1 with fail
  generalize w.alloc (.cells (r.vals (.slice x m cap)).toArray 54) = w0 at hst f56 ⊢
  have H0 := Lib.hid hst
  have hcc : ((cap : Nat) : Int) ≤ (cap : Int) := Int.le_refl _
  clear hst
  go_wp2
  go_loopw [3] (fun i wr => ∃ k : Nat, k ≤ cap ∧ i = .int .i64 k ∧ Spd S w wr) (fun i _ => cap - (intOf i).toNat)
  case atStart => exact ⟨0, by omega, rfl, H0.out⟩
  case round =>
    obtain ⟨k, hk, rfl, hs⟩ := hrel
    by_cases hlt : k < cap
    · obtain ⟨b, off, cur, rfl, h2, h3, h4⟩ := (HR.out.spd hs) x m cap rfl k hlt
      have hcp : canPut wr ⟨b, off + k * 56, none⟩ 56 = true := by simp [canPut, h3]; omega
      have HS := Lib.hid (hs.put (l := .bool true :: .int .i64 (-99) :: cellR) h3 (.inl h2) (o := off + k * 56) (by simp [len_cellR]; omega))
      clear h3 h4 hs
      go_wp2
      exact ⟨⟨k + 1, by omega, by go_num, HS.out⟩, by simp [intOf]; omega⟩
    · have hkl : k = cap := by omega
      subst hkl
      have HS := Lib.hid hs
      clear hs
      go_wp2
      go_end0
      exact ⟨⟨_, rfl⟩, HS.out⟩
end Go.Proofs.Ytopakilglnpinaa
