/-
  Nodes (chapter 30): what a tick calls, of a node in which no slot runs.
-/
import Derived.Test.YtdilbjikeilhbaaGreatDoorGe35
import Derived.Test.YtdilbjikeilhbaaGreatDoorGe19
namespace Go.Proofs.YtdilbjikeilhbaaGreatDoor
open Go.RowKit
set_option linter.unusedVariables false
set_option linter.unusedSimpArgs false

section
variable {S I : Nat → Prop} {A : CfA} {qt : Nat} {K : NdK} {w0 w w' : World} {P : NP} {D : NPd} {x : NdS}
theorem agreeN_len {n : Nat} (h4 : 4 ≤ n) (h16 : n ≤ 16) (l : List Rw) : (agreeL n l).length = n := by
  unfold agreeL
  rw [if_pos (by omega)]
  simp
theorem tabN_ok (n : Nat) {f : Nat → Rw} (h : ∀ s, (f s).ok) : ∀ r ∈ tab n f, r.ok := fun r hr => by
  obtain ⟨k, hk⟩ := List.mem_iff_getElem?.1 hr
  have hl : k < n := by
    have := (List.getElem?_eq_some_iff.1 hk).1
    rwa [tab_len] at this
  rw [tab_at hl] at hk
  cases hk
  exact h k
theorem ndx_power (h : NdX S I A qt K w0 P D x w) (hs : x.q.1 = 0 ∨ x.q.1 = 1 ∨ x.q.1 = 2) (hb0 : 0 ≤ K.boot) (hb1 : K.boot ≤ 4096) (hl0 : 0 ≤ x.q.2.1) (hl1 : x.q.2.1 ≤ 4096) (hc0 : -1 ≤ x.q.2.2) (hc1 : x.q.2.2 ≤ 1099511627776) {q' : Int × Int × Int} (hq : pwOn K.boot x.q.1 x.q.2.1 x.q.2.2 = q') :
    Calls Tryz.prog 99 #[.pointer (some ⟨P.pb, 0, none⟩), .bool true] w fun e w' => e = .returned (.tuple #[.int .u8 q'.1, .int .i64 (if q'.1 = 2 then q'.2.2 else -1)]) ∧ NdX S I A qt K w0 P D { x with q := q' } w' ∧ KeepF I D D w w' := by
  refine (step_on P.pb K.boot x.q.1 x.q.2.1 x.q.2.2 w hs hb0 hb1 hl0 hl1 hc0 hc1 h.pw).mono ?_
  rintro e w' ⟨s', l', c', hp, he, hb, hc⟩
  simp only [if_true] at hp
  rw [hq] at hp
  subst hp
  exact ⟨he, h.power hb hc, KeepF.chg hc (by rintro b rfl; exact h.own.ipb)⟩
def HearN (S I : Nat → Prop) (A : CfA) (qt : Nat) (K : NdK) (w0 : World) (P : NP) (D : NPd) (x : NdS) (ins : Nat → List Rw) (w : World) (e : Ending) (w' : World) : Prop :=
  ∃ D' hv, e = .returned hv ∧ NdX S I A qt K w0 P D' { x with L := x.L.put ins } w' ∧ HdA I D' x.L.n (tab x.L.n (x.L.put ins).held) hv w' ∧ KeepF I D D' w w'
theorem ndx_hear (h : NdX S I A qt K w0 P D x w) (hT : x.L.T ≤ 100000000) (R : Nat → Prop) (a : Nat → Option Addr) (ln cp : Nat → Nat) (ins : Nat → List Rw) (hI : InsR R w a ln cp ins) (hR : ∀ b, R b → ¬ D.SL b) (hins : ∀ i, ∀ r ∈ ins i, r.ok) (hok : ∀ s, ((x.L.put ins).held s).ok) :
    Calls Tryz.prog 100 #[.pointer (some ⟨P.lp, 0, none⟩), .agg #[insV a ln cp 0, insV a ln cp 1, insV a ln cp 2, insV a ln cp 3]] w (HearN S I A qt K w0 P D x ins w) := by
  refine (hear_any D.SL R P.lp D.gp D.G x.L a ln cp ins w h.lane hI (fun b hb => ⟨fun e => hR b hb (e ▸ h.lane.sp), fun e => hR b hb (e ▸ h.lane.sg)⟩) hT hins).mono ?_
  rintro e w' ⟨m, G', g, hm, hl, rfl, hg, hr, hc⟩
  have hc' : Chg D.SL w w' := hc.mono (fun b _ e => by rcases e with rfl | rfl; exact h.lane.sp; exact h.lane.sg)
  refine ⟨_, _, rfl, h.turn hl hc', ⟨g, rfl, ?_⟩, KeepF.turn hc'⟩
  have hrd := hr.rd (tabN_ok _ hok)
  rw [tab_len] at hrd
  refine hrd.mono fun b hl hb => ?_
  have hmb : m ≤ b := by rcases hb with rfl | hb; exact hg; exact hb.1
  have := h.c.size
  exact ⟨hl, fun e => by have := h.own.il b e; omega, fun e => by
    rcases e with e | e
    · have := h.lane.lt b e; omega
    · omega, fun e => by have := (h.ck.2.lt b e).2; omega⟩
def VecN (S I : Nat → Prop) (A : CfA) (qt : Nat) (K : NdK) (w0 : World) (P : NP) (D : NPd) (x : NdS) (L : List Hd) (w : World) (e : Ending) (w' : World) : Prop :=
  ∃ v, e = .returned v ∧ AgA I D K.n L v w' ∧ NdX S I A qt K w0 P D x w' ∧ KeepF I D D w w'
theorem vecN_of (h : NdX S I A qt K w0 P D x w) {L : List Hd} (hl : L.length = K.n) (h4 : 4 ≤ K.n) (hok : ∀ x ∈ L, x.ok) {e : Ending} (hv : VecPost L w e w') : VecN S I A qt K w0 P D x L w e w' := by
  obtain ⟨⟨v, rfl, hV⟩, hb⟩ := hv
  rcases hV with ⟨g, rfl, hk, hg⟩ | ⟨rfl, rfl⟩
  · have h3 : Blk w' g 204 (flatH L ++ []).toArray := by simpa using hk
    have h4 := RdHs.of_blk h3 hok
    rw [hl] at h4 ⊢
    exact ⟨_, rfl, ⟨g, rfl, h.free hb hg hk.lt, ⟨_, hk⟩, h4⟩, h.below hb, KeepF.below hb⟩
  · simp at hl; omega
theorem ndx_agree (h : NdX S I A qt K w0 P D x w) (h4 : 4 ≤ K.n) (h16 : K.n ≤ 16) {H : List Rw} {v : Value} (hd : HdA I D K.n H v w) :
    Calls Tryz.prog 101 #[.int .i64 K.n, v] w (VecN S I A qt K w0 P D x (agreeL K.n H) w) := by
  obtain ⟨g, rfl, hr⟩ := hd
  refine (agree_any _ K.n _ K.n K.n H w hr (Nat.le_refl _) (by unfold maxLen; omega)).mono ?_
  intro e w' hv
  exact vecN_of h (agreeN_len h4 h16 _) h4 agreeL_ok hv
theorem ndx_table (h : NdX S I A qt K w0 P D x w) (h4 : 4 ≤ K.n) (h16 : K.n ≤ 16) {H : List Rw} {v : Value} (hd : HdA I D K.n H v w) :
    Calls Tryz.prog 109 #[v] w (VecN S I A qt K w0 P D x (tabL H) w) := by
  obtain ⟨g, rfl, hr⟩ := hd
  refine (table_any _ _ K.n K.n H w hr (Nat.le_refl _) (by unfold maxLen; omega) (by omega)).mono ?_
  intro e w' hv
  exact vecN_of h (by simp [tabL, hr.1]) h4 (tabL_ok hr.2.1) hv
theorem ndx_common (h : NdX S I A qt K w0 P D x w) (h16 : K.n ≤ 16) {L : List Hd} {v : Value} (ha : AgA I D K.n L v w) :
    Calls Tryz.prog 102 #[.int .i64 K.n, v] w fun e w' => e = .returned (.int .i64 (commonF K.n L)) ∧ NdX S I A qt K w0 P D x w' ∧ KeepF I D D w w' := by
  obtain ⟨g, rfl, hf, -, hr⟩ := ha
  refine (common_any _ K.n _ K.n K.n L w hr (Nat.le_refl _) (by unfold maxLen; omega)).mono ?_
  rintro e w' ⟨rfl, hb⟩
  exact ⟨rfl, h.below hb, KeepF.below hb⟩
def ClockN (S I : Nat → Prop) (A : CfA) (qt : Nat) (K : NdK) (w0 : World) (P : NP) (D : NPd) (x : NdS) (age : Int) (w : World) (e : Ending) (w' : World) : Prop :=
  ∃ D', e = .returned (.tuple #[.int .i64 age, .int .i64 (showF (lastN (2 * K.n) (x.wn ++ [age])))]) ∧ NdX S I A qt K w0 P D' { x with wn := lastN (2 * K.n) (x.wn ++ [age]) } w' ∧ KeepF I D D' w w'
theorem ndx_clock (h : NdX S I A qt K w0 P D x w) (h4 : 4 ≤ K.n) (h16 : K.n ≤ 16) (hL : ∀ a ∈ x.wn, -1 ≤ a ∧ a ≤ 1099511627776) (hlen : x.wn.length ≤ 2 * K.n) (common cold : Int) (h0 : -9223372036854775808 ≤ common ∧ common ≤ 9223372036854775807) :
    Calls Tryz.prog 103 #[.pointer (some ⟨P.ckb, 0, none⟩), .int .i64 common, .int .i64 cold] w (ClockN S I A qt K w0 P D x (ownF K.n common cold) w) := by
  refine (ckstep_any 0 P.ckb K.n h4 h16 D.v x.wn hL hlen common cold h0 w h.ck (Nat.zero_le _)).mono ?_
  rintro e w' ⟨rfl, ⟨v', hr, hv⟩, hc⟩
  exact ⟨_, rfl, h.clock hr hv hc, KeepF.clock hv h.own.ickb hc⟩
theorem ndx_clique (h : NdX S I A qt K w0 P D x w) (h4 : 4 ≤ K.n) (h16 : K.n ≤ 16) (h0 : 0 ≤ x.long) (h1 : x.long ≤ 1000000) {L : List Hd} {v : Value} (ha : AgA I D K.n L v w) (common : Int) :
    Calls Tryz.prog 104 #[.pointer (some ⟨P.cqb, 0, none⟩), v, .int .i64 common] w fun e w' => e = .returned (.bool (cqOn x.long (2 * K.n) (evenF K.n L common) == 2 * K.n)) ∧ NdX S I A qt K w0 P D { x with long := cqOn x.long (2 * K.n) (evenF K.n L common) } w' ∧ KeepF I D D w w' := by
  obtain ⟨g, rfl, hf, -, hr⟩ := ha
  refine (cqstep_any _ P.cqb x.long (2 * K.n) K.n common _ K.n K.n L w h.cq (by omega) (by omega) h0 h1 (by omega) (by omega) hr (Nat.le_refl _) (by unfold maxLen; omega)).mono ?_
  rintro e w' ⟨rfl, hb, hc⟩
  exact ⟨rfl, h.clique hb hc, KeepF.chg hc (by rintro b rfl; exact h.own.icqb)⟩
theorem ndx_run (h : NdX S I A qt K w0 P D x w) (hok : RefOk K.c) (age : Int) (sure : Bool) (hi : Idle K.c age sure) :
    Calls Tryz.prog 105 #[.pointer (some ⟨P.rg, 0, none⟩), .int .i64 age, .bool sure] w fun e w' => e = .returned (.tuple #[.agg timeZ.toArray, .bool false]) ∧ NdX S I A qt K w0 P D x w' ∧ KeepF I D D w w' := by
  refine (cktick_idle S P.p A qt K.c P.rg x.t w h.net hok h.rg (fun e => (h.own.sp _ e).2 h.own.irg) age sure hi).mono ?_
  rintro e w' ⟨rfl, hb, hc⟩
  exact ⟨rfl, h.run hb hc, KeepF.chg hc (by rintro b rfl; exact h.own.irg)⟩
theorem ndx_slot (h : NdX S I A qt K w0 P D x w) : Calls Tryz.prog 106 #[.pointer (some ⟨P.rg, 0, none⟩)] w fun e w' => e = .returned (.tuple #[.int .i64 0, .bool false]) ∧ w = w' := by
  refine (ckslot_idle P.p P.rg x.t w h.rg).mono ?_
  rintro e w' ⟨rfl, rfl⟩
  exact ⟨rfl, rfl⟩
theorem ndx_view (h : NdX S I A qt K w0 P D x w) (hv : K.V.length = 42) (hva : K.V.all cell1 = true) : Calls Tryz.prog 89 #[.pointer (some ⟨P.cg, 0, none⟩)] w fun e w' => e = .returned (.agg K.V.toArray) ∧ NdX S I A qt K w0 P D x w' ∧ KeepF I D D w w' := by
  refine (crewview_any P.cg P.p P.bx K.ps K.c.N K.c.Sl.length K.last K.V hv hva w h.cg).mono ?_
  rintro e w' ⟨rfl, hb⟩
  exact ⟨rfl, h.below hb, KeepF.below hb⟩
theorem NdX.cells (h : NdX S I A qt K w0 P D x w) (hs : K.seen.length = 50) (hk : x.k.okL) :
    w.cell? ⟨P.nb, 0, none⟩ = some (.pointer (some ⟨P.lp, 0, none⟩)) ∧ w.cell? ⟨P.nb, 1, none⟩ = some (.pointer (some ⟨P.ckb, 0, none⟩)) ∧ w.cell? ⟨P.nb, 2, none⟩ = some (.pointer (some ⟨P.cqb, 0, none⟩)) ∧ w.cell? ⟨P.nb, 3, none⟩ = some (.pointer (some ⟨P.rg, 0, none⟩)) ∧ w.cell? ⟨P.nb, 5, none⟩ = some (.pointer (some ⟨P.cg, 0, none⟩)) ∧
      w.cell? ⟨P.nb, 120, none⟩ = some (.pointer (some ⟨P.p, 0, none⟩)) ∧ w.cell? ⟨P.nb, 121, none⟩ = some (.int .i64 P.me) ∧ w.cell? ⟨P.nb, 123, none⟩ = some (.pointer (some ⟨P.pb, 0, none⟩)) ∧ (∀ i, w.frozen? ⟨P.nb, i, none⟩ = false) := by
  have hl := memV_len (a0 := ptrN P.lp) (a1 := ptrN P.ckb) (a2 := ptrN P.cqb) (a3 := ptrN P.rg) (a4 := ptrN P.fb) (a5 := ptrN P.cg) (told := K.told) hs (lookV_len hk)
  obtain ⟨c0, c1, c2, c3⟩ := ndV_cells hl h.nd
  exact ⟨h.nd.cell 0, h.nd.cell 1, h.nd.cell 2, h.nd.cell 3, h.nd.cell 5, c0, c1, c3, h.nd.frozen⟩
theorem NdX.lk (h : NdX S I A qt K w0 P D x w) (hs : K.seen.length = 50) (hk : x.k.okL) (j : Nat) (hj : j < 63) : w.cell? ⟨P.nb, 57 + j, none⟩ = (lookV x.k)[j]? := by
  have hl := lookV_len hk
  have e : P.cells K x.k = (ptrN P.lp :: ptrN P.ckb :: ptrN P.cqb :: ptrN P.rg :: ptrN P.fb :: ptrN P.cg :: (K.seen ++ [.bool K.told])) ++ (lookV x.k ++ [.pointer (some ⟨P.p, 0, none⟩), .int .i64 P.me, P.en, ptrN P.pb]) := by simp [NP.cells, ndV, memV]
  rw [h.nd.cell, List.getElem?_toArray, e, List.getElem?_append_right (by simp [hs]), List.getElem?_append_left (by simp [hs, hl]; omega)]
  congr 1
  simp [hs]
theorem ndx_offer (h : NdX S I A qt K w0 P D x w) (hok : RefOk K.c) (hs : K.seen.length = 50) (hk : x.k.okL) (hr : x.k.run = false) : Calls Tryz.prog 108 #[.pointer (some ⟨P.nb, 0, none⟩)] w fun e w' => e = .returned (.agg saidZ.toArray) ∧ NdX S I A qt K w0 P D x w' ∧ KeepF I D D w w' := by
  obtain ⟨-, -, -, -, -, c6, c7, -⟩ := h.cells hs hk
  have c8 := h.lk hs hk 4 (by omega)
  rw [show (lookV x.k)[4]? = some (.bool x.k.run) from rfl, hr] at c8
  refine (offer_idle S P.p A qt K.c P.nb P.me w h.net hok c6 c7 c8).mono ?_
  rintro e w' ⟨rfl, hb⟩
  exact ⟨rfl, h.below hb, KeepF.below hb⟩
def SayN (S I : Nat → Prop) (A : CfA) (qt : Nat) (K : NdK) (w0 : World) (P : NP) (D : NPd) (x : NdS) (own : Rw) (w : World) (e : Ending) (w' : World) : Prop :=
  ∃ D' g0 g1 m, e = .returned (.tuple #[.agg #[.slice (some ⟨g0, 0, none⟩) x.L.n x.L.n], .agg #[.slice (some ⟨g1, 0, none⟩) x.L.n x.L.n]]) ∧ NdX S I A qt K w0 P D' { x with L := x.L.said own } w' ∧ g0 ≠ g1 ∧ w.heap.size ≤ m ∧ m ≤ g0 ∧ m ≤ g1 ∧
    RowsB (fun b => m ≤ b ∧ b ≠ g0 ∧ b ≠ g1) w' g0 134 ((x.L.said own).out 0) ∧ RowsB (fun b => m ≤ b ∧ b ≠ g0 ∧ b ≠ g1) w' g1 134 ((x.L.said own).out 2) ∧ KeepF I D D' w w'
theorem ndx_say (h : NdX S I A qt K w0 P D x w) (own : Rw) (ho : own.ok) (hb : x.L.b = true) (hT : 0 < x.L.T) (hT2 : x.L.T ≤ 1000000000) {v : Value} (ht : AgA I D K.n own.t v w) (hn : K.n ≤ 16) :
    Calls Tryz.prog 110 #[.pointer (some ⟨P.lp, 0, none⟩), .agg (own.vals v).toArray] w (SayN S I A qt K w0 P D x own w) := by
  obtain ⟨g, rfl, hf, -, hr⟩ := ht
  refine (say_any D.SL (· = g) P.lp D.gp D.G x.L own ho _ w h.lane hb hT hT2 ⟨_, _, _, rfl, hr, Nat.le_refl _, by unfold maxLen; omega⟩ (by rintro b rfl; exact hf.2.2.1)).mono ?_
  rintro e w' ⟨m, g0, g1, hm, hl, rfl, h0, h1, hne, hr0, hr1, hc⟩
  exact ⟨_, g0, g1, m, rfl, h.turn hl hc, hne, hm, h0, h1, hr0, hr1, KeepF.turn hc⟩
end
end Go.Proofs.YtdilbjikeilhbaaGreatDoor
