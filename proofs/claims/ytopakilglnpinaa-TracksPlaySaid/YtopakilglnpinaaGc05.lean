/-
  TracksPlay: the lane that keeps all ticks, in plain Lean; it holds, and says, what the other one does. No program in sight. What has been said, made plain: words.said, sennitref13.said.
-/
import Derived.Test.YtopakilglnpinaaGc04
namespace Go.Proofs.Ytopakilglnpinaa
open Go.RowKit
set_option linter.unusedVariables false
set_option linter.unusedSimpArgs false

/-! ### certified, by counting -/
open Classical in
noncomputable def cntW (r : Rw) (l : List Rw) : Nat := (l.filter fun x => decide (r = x)).length
open Classical in
noncomputable def fndW (l : List Rw) : List Rw := l.filter fun r => decide (r.is = true ∧ 2 ≤ cntW r l)
open Classical in
noncomputable def certW (l : List Rw) : Rw := match fndW l with | [] => rw0 | x :: _ => if ∀ r ∈ fndW l, r = x then x else rw0
open Classical in
theorem cntW_pos {r : Rw} {l : List Rw} : 1 ≤ cntW r l ↔ r ∈ l := by
  unfold cntW
  constructor
  · intro h
    obtain ⟨x, hx⟩ := List.exists_mem_of_length_pos (l := l.filter fun x => decide (r = x)) (by omega)
    obtain ⟨h1, h2⟩ := List.mem_filter.1 hx
    have : r = x := by simpa using h2
    rw [this]; exact h1
  · intro h
    exact List.length_pos_of_mem (List.mem_filter.2 ⟨h, by simp⟩)
open Classical in
theorem cntW_cons (r a : Rw) (l : List Rw) : cntW r (a :: l) = cntW r l + (if r = a then 1 else 0) := by
  unfold cntW
  rw [List.filter_cons]
  by_cases h : r = a
  · rw [if_pos (by simpa using h), if_pos h]; simp
  · rw [if_neg (by simpa using h), if_neg h]; rfl
open Classical in
theorem cntW_two {r : Rw} : ∀ {l : List Rw}, 2 ≤ cntW r l ↔ ∃ j i : Nat, j < i ∧ l[j]? = some r ∧ l[i]? = some r
  | [] => by simp [cntW]
  | a :: l => by
    rw [cntW_cons]
    constructor
    · intro h
      by_cases e : r = a
      · rw [if_pos e] at h
        obtain ⟨i, hi, he⟩ := List.getElem_of_mem (cntW_pos.1 (by omega : 1 ≤ cntW r l))
        exact ⟨0, i + 1, by omega, by simp [e], by rw [List.getElem?_cons_succ, List.getElem?_eq_getElem hi, he]⟩
      · rw [if_neg e] at h
        obtain ⟨j, i, h1, h2, h3⟩ := cntW_two.1 (by omega : 2 ≤ cntW r l)
        exact ⟨j + 1, i + 1, by omega, by simpa using h2, by simpa using h3⟩
    · rintro ⟨j, i, h1, h2, h3⟩
      obtain ⟨i', rfl⟩ : ∃ i', i = i' + 1 := ⟨i - 1, by omega⟩
      rw [List.getElem?_cons_succ] at h3
      cases j with
      | zero =>
        have e : a = r := by simpa using h2
        rw [if_pos e.symm]
        have := cntW_pos.2 (List.mem_of_getElem? h3)
        omega
      | succ j =>
        rw [List.getElem?_cons_succ] at h2
        have := cntW_two.2 ⟨j, i', by omega, h2, h3⟩
        omega
theorem fndW_dup {l : List Rw} {r : Rw} : r ∈ fndW l ↔ Dup l r := by
  unfold fndW
  rw [List.mem_filter]
  unfold Dup
  constructor
  · rintro ⟨h1, h2⟩
    have h3 : r.is = true ∧ 2 ≤ cntW r l := by simpa using h2
    exact ⟨h3.1, cntW_two.1 h3.2⟩
  · rintro ⟨h1, h2⟩
    obtain ⟨j, i, -, h3, -⟩ := id h2
    exact ⟨List.mem_of_getElem? h3, by simpa using ⟨h1, cntW_two.2 h2⟩⟩
theorem certW_eq (l : List Rw) : certW l = certM l := by
  unfold certW
  cases hf : fndW l with
  | nil =>
    have : ∀ r, ¬ Dup l r := fun r hr => by have := fndW_dup.2 hr; rw [hf] at this; cases this
    rw [certM_none this]
  | cons x t =>
    have hx : Dup l x := fndW_dup.1 (by rw [hf]; simp)
    simp only
    by_cases h : ∀ r ∈ x :: t, r = x
    · rw [if_pos h]
      exact (certM_one hx fun r hr => h r (by rw [← hf]; exact fndW_dup.2 hr)).symm
    · rw [if_neg h]
      have : ∃ r, r ∈ x :: t ∧ r ≠ x := Classical.byContradiction fun hn => h fun r hr => Classical.byContradiction fun hne => hn ⟨r, hr, hne⟩
      obtain ⟨r, hr, hne⟩ := this
      exact (certM_two hne (fndW_dup.1 (by rw [hf]; exact hr)) hx).symm
/-- rows that are none change nothing -/
theorem certM_dups {l l' : List Rw} (h : ∀ r, Dup l r ↔ Dup l' r) : certM l = certM l' := by
  by_cases hex : ∃ v, Dup l v
  · obtain ⟨v, hv⟩ := hex
    by_cases h2 : ∀ r, Dup l r → r = v
    · rw [certM_one hv h2, certM_one ((h v).1 hv) fun r hr => h2 r ((h r).2 hr)]
    · have : ∃ r, Dup l r ∧ r ≠ v := Classical.byContradiction fun hn => h2 fun r hr => Classical.byContradiction fun hne => hn ⟨r, hr, hne⟩
      obtain ⟨r, hr, hne⟩ := this
      rw [certM_two hne hr hv, certM_two hne ((h r).1 hr) ((h v).1 hv)]
  · rw [certM_none fun r hr => hex ⟨r, hr⟩, certM_none fun r hr => hex ⟨r, (h r).2 hr⟩]
open Classical in
theorem cntW_app (r : Rw) (l l' : List Rw) : cntW r (l ++ l') = cntW r l + cntW r l' := by
  unfold cntW
  rw [List.filter_append, List.length_append]
theorem dup_cnt {l : List Rw} {r : Rw} : Dup l r ↔ r.is = true ∧ 2 ≤ cntW r l := by
  unfold Dup
  rw [cntW_two]

/-! ### the lane that keeps all -/
structure RfM where
  n : Nat
  me : Nat
  T : Nat
  b : Bool
  own : Nat → Rw
  ins : Nat → Nat → List Rw
def RfM.new (n me : Nat) : RfM := ⟨n, me, 0, false, fun _ => rw0, fun _ _ => []⟩
/-- what a tick has: 0 with the clock: track, 1 near; 2, 3 against it -/
def RfM.hist (M : RfM) (j q s : Nat) : Rw := if q % 2 = 0 ∧ s = M.me then M.own j else momM M.n M.me (M.ins j) q s
def RfM.put (M : RfM) (ins : Nat → List Rw) : RfM := { M with T := M.T + 1, b := true, own := fun j => if j = M.T then rw0 else M.own j, ins := fun j => if j = M.T then ins else M.ins j }
def RfM.said (M : RfM) (own : Rw) : RfM := if M.b then { M with b := false, own := fun j => if j = M.T - 1 then own.plain M.n else M.own j } else M
/-- copies of a source, of a tick -/
def RfM.copies (M : RfM) (s t : Nat) : List Rw :=
  ([M.hist (t + distM M.n M.me 0 s) 0 s] ++ if 2 ≤ distM M.n M.me 0 s then [M.hist (t + distM M.n M.me 0 s) 1 s] else []) ++ ([M.hist (t + distM M.n M.me 1 s) 2 s] ++ if 2 ≤ distM M.n M.me 1 s then [M.hist (t + distM M.n M.me 1 s) 3 s] else [])
noncomputable def RfM.cert (M : RfM) (s t : Nat) : Rw := if s = M.me then M.own t else certW (M.copies s t)
/-- held, behind 'put' -/
noncomputable def RfM.held (M : RfM) (s : Nat) : Rw := if M.n ≤ M.T - 1 then M.cert s (M.T - 1 - M.n) else rw0
/-- one lane, and the other -/
structure LkM (L : LaneM) (M : RfM) : Prop where
  n : L.n = M.n
  me : L.me = M.me
  T : L.T = M.T
  b : L.b = M.b
  ml : M.me < M.n
  past : ∀ j q s, j < M.T → M.T ≤ j + M.n + 1 → q < 4 → s < M.n → L.past (j % (M.n + 1)) q s = M.hist j q s
theorem LkM.new {n me : Nat} (h : me < n) : LkM (LaneM.new n me) (RfM.new n me) :=
  ⟨rfl, rfl, rfl, rfl, h, fun j q s hj => absurd hj (Nat.not_lt_zero _)⟩
theorem mod_ne {n j T : Nat} (h1 : j < T) (h2 : T ≤ j + n) : j % (n + 1) ≠ T % (n + 1) := by
  intro h
  have e1 := Nat.div_add_mod j (n + 1)
  have e2 := Nat.div_add_mod T (n + 1)
  rw [← h] at e2
  have hd : (n + 1) * (T / (n + 1)) = (n + 1) * (j / (n + 1)) + (T - j) := by omega
  rcases Nat.lt_or_ge (j / (n + 1)) (T / (n + 1)) with hlt | hge
  · have := Nat.mul_le_mul_left (n + 1) hlt
    rw [Nat.succ_eq_add_one, Nat.mul_add] at this
    omega
  · have := Nat.mul_le_mul_left (n + 1) hge
    omega
theorem momM_me {n me : Nat} (ins : Nat → List Rw) {q s : Nat} (h : s = me) : momM n me ins q s = rw0 := by
  unfold momM sideM
  rw [if_pos]
  unfold distM
  subst h
  split
  · rw [show s + n - s = n from by omega, Nat.mod_self]
  · rw [show s + n - s = n from by omega, Nat.mod_self]
theorem LkM.put {L : LaneM} {M : RfM} (h : LkM L M) (ins : Nat → List Rw) : LkM (L.put ins) (M.put ins) := by
  refine ⟨h.n, h.me, by show L.T + 1 = M.T + 1; rw [h.T], rfl, h.ml, fun j q s hj hj2 hq hs => ?_⟩
  have hj' : j < M.T + 1 := hj
  have hj2' : M.T + 1 ≤ j + M.n + 1 := hj2
  show (if j % (M.n + 1) = L.T % (L.n + 1) then momM L.n L.me ins else L.past (j % (M.n + 1))) q s = _
  rw [h.n, h.T]
  unfold RfM.hist
  show _ = if q % 2 = 0 ∧ s = M.me then (if j = M.T then rw0 else M.own j) else momM M.n M.me (if j = M.T then ins else M.ins j) q s
  by_cases hjT : j = M.T
  · subst hjT
    rw [if_pos rfl, if_pos rfl, if_pos rfl, h.me]
    split
    · rename_i hh
      exact momM_me ins hh.2
    · rfl
  · rw [if_neg (mod_ne (by omega) (by omega)), if_neg hjT, if_neg hjT]
    exact h.past j q s (by omega) (by omega) hq hs
theorem LkM.said {L : LaneM} {M : RfM} (h : LkM L M) (own : Rw) (hT : M.b = true → 0 < M.T) : LkM (L.said own) (M.said own) := by
  unfold LaneM.said RfM.said
  rw [h.b]
  cases hb : M.b with
  | false => simp only [Bool.false_eq_true, if_false]; exact h
  | true =>
    have h0 := hT hb
    simp only [if_true]
    refine ⟨h.n, h.me, h.T, rfl, h.ml, fun j q s hj hj2 hq hs => ?_⟩
    have hj' : j < M.T := hj
    have hj2' : M.T ≤ j + M.n + 1 := hj2
    show (if j % (M.n + 1) = (L.T - 1) % (L.n + 1) ∧ q % 2 = 0 ∧ s = L.me then own.plain L.n else L.past (j % (M.n + 1)) q s) = _
    rw [h.n, h.T, h.me]
    unfold RfM.hist
    show _ = if q % 2 = 0 ∧ s = M.me then (if j = M.T - 1 then own.plain M.n else M.own j) else momM M.n M.me (M.ins j) q s
    have hp := h.past j q s hj' hj2' hq hs
    unfold RfM.hist at hp
    by_cases hjT : j = M.T - 1
    · subst hjT
      by_cases hh : q % 2 = 0 ∧ s = M.me
      · rw [if_pos ⟨rfl, hh⟩, if_pos hh, if_pos rfl]
      · rw [if_neg (fun x => hh x.2), if_neg hh, hp, if_neg hh]
    · have hne : j % (M.n + 1) ≠ (M.T - 1) % (M.n + 1) := mod_ne (by omega) (by omega)
      rw [if_neg (fun x => hne x.1), hp]
      by_cases hh : q % 2 = 0 ∧ s = M.me
      · rw [if_pos hh, if_pos hh, if_neg hjT]
      · rw [if_neg hh, if_neg hh]
theorem distM_ltW {n me way s : Nat} (h : 0 < n) : distM n me way s < n := by
  unfold distM
  split <;> exact Nat.mod_lt _ h
theorem near_rw0 {n me : Nat} (ins : Nat → List Rw) {way s : Nat} (h : distM n me way s < 2) (hw : way < 2) : momM n me ins (2 * way + 1) s = rw0 := by
  unfold momM sideM
  rw [show (2 * way + 1) / 2 = way from by omega, show (2 * way + 1) % 2 = 1 from by omega]
  by_cases h0 : distM n me way s = 0
  · rw [if_pos h0]
  · rw [if_neg h0, if_pos (by omega), if_neg (by decide)]
open Classical in
theorem LkM.held {L : LaneM} {M : RfM} (h : LkM L M) {s : Nat} (hs : s < M.n) : L.held s = M.held s := by
  unfold LaneM.held RfM.held
  rw [h.n, h.T]
  by_cases hc : M.n ≤ M.T - 1
  · rw [if_pos hc, if_pos hc, h.me]
    have h0 := h.ml
    unfold ofM RfM.cert
    dsimp only
    by_cases hm : s = M.me
    · rw [if_pos hm, if_pos hm, h.past _ 0 s (by omega) (by omega) (by omega) hs]
      unfold RfM.hist
      rw [if_pos ⟨rfl, hm⟩]
    · rw [if_neg hm, if_neg hm, certW_eq]
      have d0 := distM_ltW (n := M.n) (me := M.me) (way := 0) (s := s) (by omega)
      have d1 := distM_ltW (n := M.n) (me := M.me) (way := 1) (s := s) (by omega)
      rw [h.past _ 0 s (by omega) (by omega) (by omega) hs, h.past _ 1 s (by omega) (by omega) (by omega) hs, h.past _ 2 s (by omega) (by omega) (by omega) hs, h.past _ 3 s (by omega) (by omega) (by omega) hs,
        show M.T - 1 - (M.n - distM M.n M.me 0 s) = M.T - 1 - M.n + distM M.n M.me 0 s from by omega, show M.T - 1 - (M.n - distM M.n M.me 1 s) = M.T - 1 - M.n + distM M.n M.me 1 s from by omega]
      unfold RfM.copies
      generalize M.T - 1 - M.n = t
      refine certM_dups fun r => ?_
      rw [dup_cnt, dup_cnt]
      have e : ∀ (a b c d : Rw), cntW r [a, b, c, d] = cntW r [a] + cntW r [b] + (cntW r [c] + cntW r [d]) := fun a b c d => by
        rw [show [a, b, c, d] = ([a] ++ [b]) ++ ([c] ++ [d]) from rfl, cntW_app, cntW_app, cntW_app]
      have key : ∀ way, way < 2 → r.is = true → cntW r (if 2 ≤ distM M.n M.me way s then [M.hist (t + distM M.n M.me way s) (2 * way + 1) s] else []) = cntW r [M.hist (t + distM M.n M.me way s) (2 * way + 1) s] := fun way hw hr => by
        by_cases hd : 2 ≤ distM M.n M.me way s
        · rw [if_pos hd]
        · rw [if_neg hd]
          have : M.hist (t + distM M.n M.me way s) (2 * way + 1) s = rw0 := by
            unfold RfM.hist
            rw [if_neg (by omega)]
            exact near_rw0 _ (by omega) hw
          rw [this, cntW_cons, if_neg]
          · rfl
          · rintro rfl; cases hr
      constructor
      · rintro ⟨hr, h2⟩
        refine ⟨hr, ?_⟩
        rw [cntW_app, cntW_app, cntW_app, key 0 (by omega) hr, key 1 (by omega) hr]
        rwa [e] at h2
      · rintro ⟨hr, h2⟩
        refine ⟨hr, ?_⟩
        rw [cntW_app, cntW_app, cntW_app, key 0 (by omega) hr, key 1 (by omega) hr] at h2
        rwa [e]
  · rw [if_neg hc, if_neg hc]
/-- what goes out -/
def RfM.out (M : RfM) (way : Nat) : List Rw := tab M.n fun s => M.hist (M.T - 1) (2 * way) s
theorem LkM.out {L : LaneM} {M : RfM} (h : LkM L M) (h0 : 0 < M.T) {way : Nat} (hw : way < 2) : L.out (2 * way) = M.out way := by
  unfold LaneM.out RfM.out
  rw [h.n, h.T]
  exact tab_congr fun s hs => h.past _ _ s (by omega) (by omega) (by omega) hs
end Go.Proofs.Ytopakilglnpinaa
namespace Go.Proofs.Ytopakilglnpinaa
open Go.RowKit
set_option linter.unusedVariables false
set_option linter.unusedSimpArgs false

theorem ret_row {P : Program} {fn : Func} {p : Tmp} {ty : TypeId} {n : Nat} (h : fn.results = #[.cell p ty]) (hT : aggOf P ty n = true) (tmps : Array Value) (w : World) (a : Addr)
    (hp : tmps.getD p undef = .pointer (some a)) (hr : hasRow w a n = true) : (results fn tmps).run P w = .ok (.agg (rowOf w a n).toArray) w := by
  have hp' : tmps[p]?.getD undef = .pointer (some a) := by simpa using hp
  simp [results, h, hp', asAddr, run_load_row hT hr]

theorem len_saidZ : saidZ.length = 6 := rfl
@[go_sem ↓] theorem ld_said (ρ : Operand → Value) (d : Option Tmp) (x : Operand) (ty : TypeId) (s : String) (af : Array Edge) (g : Option (Nat × Bool)) (w : World) (h : hasRowV w 6 (ρ x) = true) :
    (execOp ρ { dst := d, op := .load 42 x, type := ty, pos := s, after := af, guard := g }).run Try.prog w = .ok (.value (.agg (rowV w 6 (ρ x)).toArray)) w := exec_load (by kernel_rfl) ρ d x ty s af g w h
@[go_sem ↓] theorem st_said (ρ : Operand → Value) (d : Option Tmp) (x y : Operand) (ty : TypeId) (s : String) (af : Array Edge) (g : Option (Nat × Bool)) (w : World) (h1 : okAgg 6 (ρ y) = true) (h2 : canPutV w 6 (ρ x) = true) :
    (execOp ρ { dst := d, op := .store 42 x y, type := ty, pos := s, after := af, guard := g }).run Try.prog w = .ok .skip (putV w (ρ x) (ρ y)) := exec_store (by kernel_rfl) ρ d x y ty s af g w h1 h2
@[go_sem ↓] theorem al_said (ρ : Operand → Value) (d : Option Tmp) (ty : TypeId) (s : String) (af : Array Edge) (g : Option (Nat × Bool)) (w : World) :
    (execOp ρ { dst := d, op := .alloc 42, type := ty, pos := s, after := af, guard := g }).run Try.prog w = .ok (.value (.pointer (some ⟨w.heap.size, 0, none⟩))) (w.alloc (.cells saidZ.toArray 42)) := exec_alloc (by unfold zeroIs; kernel_rfl) ρ d ty s af g w
theorem bt_said : buildT Try.prog 42 saidZ [(0, 1), (1, 1), (2, 4)] := by unfold buildT; exact ⟨by kernel_rfl, by kernel_rfl⟩
@[go_sem ↓] theorem bd_said0 (ρ : Operand → Value) (d : Option Tmp) (ty : TypeId) (s : String) (af : Array Edge) (g : Option (Nat × Bool)) (w : World) : (execOp ρ { dst := d, op := .build 42 #[], type := ty, pos := s, after := af, guard := g }).run Try.prog w = .ok (.value (.agg saidZ.toArray)) w := exec_build0 bt_said ρ d ty s af g w

@[go_sem] theorem saidZ_cell1 : saidZ.all cell1 = true := by kernel_rfl
@[go_sem] theorem len_saidZ' : saidZ.length = 6 := (rfl)

/-! ### the last block, by whatever name the walk gives it -/
@[go_sem] theorem canPut_last (w : World) (l : List Value) (t : TypeId) (g i n : Nat) (hg : w.heap.size = g) : canPut (w.alloc (.cells l.toArray t)) ⟨g, i, none⟩ n = decide (i + n ≤ l.length) := by subst hg; exact canPut_new w l t i n
@[go_sem] theorem hasRow_last (w : World) (l : List Value) (t : TypeId) (g i n : Nat) (hg : w.heap.size = g) (h : i + n ≤ l.length) : hasRow (w.alloc (.cells l.toArray t)) ⟨g, i, none⟩ n = true := by subst hg; exact hasRow_new w l t i n h
@[go_sem] theorem rowOf_last (w : World) (l : List Value) (t : TypeId) (g i n : Nat) (hg : w.heap.size = g) (h : i + n ≤ l.length) : rowOf (w.alloc (.cells l.toArray t)) ⟨g, i, none⟩ n = (l.drop i).take n := by subst hg; exact rowOf_new w l t i n h
@[go_sem] theorem putRow_last (w : World) (z l : List Value) (t : TypeId) (g : Nat) (hg : w.heap.size = g) (h : z.length = l.length) : putRow (w.alloc (.cells z.toArray t)) ⟨g, 0, none⟩ l = w.alloc (.cells l.toArray t) := by subst hg; exact putRow_new w z l t h

/-- the frame of both -/
theorem said_frame (w : World) (l z : List Value) (t t' : TypeId) : Below w.heap.size w ((w.alloc (.cells l.toArray t)).alloc (.cells z.toArray t')) := ((Below.refl _ _).alloc (Nat.le_refl _) _).alloc (by simp) _

set_option maxRecDepth 100000 in
theorem said_any (s : Sd) (w : World) : Calls Try.prog 51 #[.agg s.vals.toArray] w fun e w' => e = .returned (.agg s.norm.vals.toArray) ∧ Below w.heap.size w w' := by
  obtain ⟨R, hR⟩ : ∃ R, R = s.norm.vals := ⟨_, rfl⟩
  rw [← hR]
  have HR := Lib.hid hR
  clear hR
  obtain ⟨is, tick, kind, st, seq, val⟩ := s
  simp only [Sd.vals]
  cases is
  · skip
    have HN : Hid (R = saidZ) := Lib.hid (by
      have hg : Sd.good ⟨false, tick, kind, st, seq, val⟩ = false := by
        rw [Bool.eq_false_iff]; intro h; simp [Sd.good] at h; try omega
      rw [HR.out, Sd.norm, if_neg (by rw [hg]; simp)]; rfl)
    go_enter Try.func51, Try.ntmps51
    go_wp2_with fail
    try simp only [Exit.inBlock, Exit.then]
    first | refine bodyPost_ret (ret_row (n := 6) rfl (by kernel_rfl) _ _ _ rfl ?_) rfl ?_ | refine bodyPost_end (ret_row (n := 6) rfl (by kernel_rfl) _ _ _ rfl ?_) rfl ?_
    · simp [go_sem]
    · refine ⟨?_, said_frame _ _ _ _ _⟩
      rw [HN.out]
      simp [go_sem, Sd.vals, saidZ]
  · by_cases h1 : tick < 0
    · skip
      have HN : Hid (R = saidZ) := Lib.hid (by
        have hg : Sd.good ⟨true, tick, kind, st, seq, val⟩ = false := by
          rw [Bool.eq_false_iff]; intro h; simp [Sd.good] at h; try omega
        rw [HR.out, Sd.norm, if_neg (by rw [hg]; simp)]; rfl)
      go_enter Try.func51, Try.ntmps51
      go_wp2_with fail
      try simp only [Exit.inBlock, Exit.then]
      first | refine bodyPost_ret (ret_row (n := 6) rfl (by kernel_rfl) _ _ _ rfl ?_) rfl ?_ | refine bodyPost_end (ret_row (n := 6) rfl (by kernel_rfl) _ _ _ rfl ?_) rfl ?_
      · simp [go_sem]
      · refine ⟨?_, said_frame _ _ _ _ _⟩
        rw [HN.out]
        simp [go_sem, Sd.vals, saidZ]
    · by_cases h2 : 1099511627776 < tick
      · skip
        have HN : Hid (R = saidZ) := Lib.hid (by
          have hg : Sd.good ⟨true, tick, kind, st, seq, val⟩ = false := by
            rw [Bool.eq_false_iff]; intro h; simp [Sd.good] at h; try omega
          rw [HR.out, Sd.norm, if_neg (by rw [hg]; simp)]; rfl)
        go_enter Try.func51, Try.ntmps51
        go_wp2_with fail
        try simp only [Exit.inBlock, Exit.then]
        first | refine bodyPost_ret (ret_row (n := 6) rfl (by kernel_rfl) _ _ _ rfl ?_) rfl ?_ | refine bodyPost_end (ret_row (n := 6) rfl (by kernel_rfl) _ _ _ rfl ?_) rfl ?_
        · simp [go_sem]
        · refine ⟨?_, said_frame _ _ _ _ _⟩
          rw [HN.out]
          simp [go_sem, Sd.vals, saidZ]
      · by_cases h3 : kind = 1
        · subst h3
          have HN : Hid (R = Sd.vals ⟨true, tick, 1, st, seq, val⟩) := Lib.hid (by
            have hg : Sd.good ⟨true, tick, 1, st, seq, val⟩ = true := by
              simp [Sd.good]; omega
            rw [HR.out, Sd.norm, if_pos hg])
          go_enter Try.func51, Try.ntmps51
          go_wp2_with fail
          try simp only [Exit.inBlock, Exit.then]
          first | refine bodyPost_ret (ret_row (n := 6) rfl (by kernel_rfl) _ _ _ rfl ?_) rfl ?_ | refine bodyPost_end (ret_row (n := 6) rfl (by kernel_rfl) _ _ _ rfl ?_) rfl ?_
          · simp [go_sem]
          · refine ⟨?_, said_frame _ _ _ _ _⟩
            rw [HN.out]
            simp [go_sem, Sd.vals, saidZ]
        · by_cases h4 : kind = 2
          · subst h4
            have HN : Hid (R = Sd.vals ⟨true, tick, 2, st, seq, val⟩) := Lib.hid (by
              have hg : Sd.good ⟨true, tick, 2, st, seq, val⟩ = true := by
                simp [Sd.good]; omega
              rw [HR.out, Sd.norm, if_pos hg])
            go_enter Try.func51, Try.ntmps51
            go_wp2_with fail
            try simp only [Exit.inBlock, Exit.then]
            first | refine bodyPost_ret (ret_row (n := 6) rfl (by kernel_rfl) _ _ _ rfl ?_) rfl ?_ | refine bodyPost_end (ret_row (n := 6) rfl (by kernel_rfl) _ _ _ rfl ?_) rfl ?_
            · simp [go_sem]
            · refine ⟨?_, said_frame _ _ _ _ _⟩
              rw [HN.out]
              simp [go_sem, Sd.vals, saidZ]
          · have h5 : (kind != 1) = true := by simpa using h3
            have h6 : (kind != 2) = true := by simpa using h4
            have h7 : (kind == 1) = false := by simpa using h3
            have h8 : (kind == 2) = false := by simpa using h4
            have HN : Hid (R = saidZ) := Lib.hid (by
              have hg : Sd.good ⟨true, tick, kind, st, seq, val⟩ = false := by
                rw [Bool.eq_false_iff]; intro h; simp [Sd.good] at h; try omega
              rw [HR.out, Sd.norm, if_neg (by rw [hg]; simp)]; rfl)
            go_enter Try.func51, Try.ntmps51
            go_wp2_with fail
            try simp only [Exit.inBlock, Exit.then]
            first | refine bodyPost_ret (ret_row (n := 6) rfl (by kernel_rfl) _ _ _ rfl ?_) rfl ?_ | refine bodyPost_end (ret_row (n := 6) rfl (by kernel_rfl) _ _ _ rfl ?_) rfl ?_
            · simp [go_sem]
            · refine ⟨?_, said_frame _ _ _ _ _⟩
              rw [HN.out]
              simp [go_sem, Sd.vals, saidZ]
set_option maxRecDepth 100000 in
theorem rsaid_any (s : Sd) (w : World) : Calls Try.prog 54 #[.agg s.vals.toArray] w fun e w' => e = .returned (.agg s.norm.vals.toArray) ∧ Below w.heap.size w w' := by
  obtain ⟨R, hR⟩ : ∃ R, R = s.norm.vals := ⟨_, rfl⟩
  rw [← hR]
  have HR := Lib.hid hR
  clear hR
  obtain ⟨is, tick, kind, st, seq, val⟩ := s
  simp only [Sd.vals]
  cases is
  · skip
    have HN : Hid (R = saidZ) := Lib.hid (by
      have hg : Sd.good ⟨false, tick, kind, st, seq, val⟩ = false := by
        rw [Bool.eq_false_iff]; intro h; simp [Sd.good] at h; try omega
      rw [HR.out, Sd.norm, if_neg (by rw [hg]; simp)]; rfl)
    go_enter Try.func54, Try.ntmps54
    go_wp2_with fail
    try simp only [Exit.inBlock, Exit.then]
    first | refine bodyPost_ret (ret_row (n := 6) rfl (by kernel_rfl) _ _ _ rfl ?_) rfl ?_ | refine bodyPost_end (ret_row (n := 6) rfl (by kernel_rfl) _ _ _ rfl ?_) rfl ?_
    · simp [go_sem]
    · refine ⟨?_, said_frame _ _ _ _ _⟩
      rw [HN.out]
      simp [go_sem, Sd.vals, saidZ]
  · by_cases h1 : tick < 0
    · skip
      have HN : Hid (R = saidZ) := Lib.hid (by
        have hg : Sd.good ⟨true, tick, kind, st, seq, val⟩ = false := by
          rw [Bool.eq_false_iff]; intro h; simp [Sd.good] at h; try omega
        rw [HR.out, Sd.norm, if_neg (by rw [hg]; simp)]; rfl)
      go_enter Try.func54, Try.ntmps54
      go_wp2_with fail
      try simp only [Exit.inBlock, Exit.then]
      first | refine bodyPost_ret (ret_row (n := 6) rfl (by kernel_rfl) _ _ _ rfl ?_) rfl ?_ | refine bodyPost_end (ret_row (n := 6) rfl (by kernel_rfl) _ _ _ rfl ?_) rfl ?_
      · simp [go_sem]
      · refine ⟨?_, said_frame _ _ _ _ _⟩
        rw [HN.out]
        simp [go_sem, Sd.vals, saidZ]
    · by_cases h2 : 1099511627776 < tick
      · skip
        have HN : Hid (R = saidZ) := Lib.hid (by
          have hg : Sd.good ⟨true, tick, kind, st, seq, val⟩ = false := by
            rw [Bool.eq_false_iff]; intro h; simp [Sd.good] at h; try omega
          rw [HR.out, Sd.norm, if_neg (by rw [hg]; simp)]; rfl)
        go_enter Try.func54, Try.ntmps54
        go_wp2_with fail
        try simp only [Exit.inBlock, Exit.then]
        first | refine bodyPost_ret (ret_row (n := 6) rfl (by kernel_rfl) _ _ _ rfl ?_) rfl ?_ | refine bodyPost_end (ret_row (n := 6) rfl (by kernel_rfl) _ _ _ rfl ?_) rfl ?_
        · simp [go_sem]
        · refine ⟨?_, said_frame _ _ _ _ _⟩
          rw [HN.out]
          simp [go_sem, Sd.vals, saidZ]
      · by_cases h3 : kind = 1
        · subst h3
          have HN : Hid (R = Sd.vals ⟨true, tick, 1, st, seq, val⟩) := Lib.hid (by
            have hg : Sd.good ⟨true, tick, 1, st, seq, val⟩ = true := by
              simp [Sd.good]; omega
            rw [HR.out, Sd.norm, if_pos hg])
          go_enter Try.func54, Try.ntmps54
          go_wp2_with fail
          try simp only [Exit.inBlock, Exit.then]
          first | refine bodyPost_ret (ret_row (n := 6) rfl (by kernel_rfl) _ _ _ rfl ?_) rfl ?_ | refine bodyPost_end (ret_row (n := 6) rfl (by kernel_rfl) _ _ _ rfl ?_) rfl ?_
          · simp [go_sem]
          · refine ⟨?_, said_frame _ _ _ _ _⟩
            rw [HN.out]
            simp [go_sem, Sd.vals, saidZ]
        · by_cases h4 : kind = 2
          · subst h4
            have HN : Hid (R = Sd.vals ⟨true, tick, 2, st, seq, val⟩) := Lib.hid (by
              have hg : Sd.good ⟨true, tick, 2, st, seq, val⟩ = true := by
                simp [Sd.good]; omega
              rw [HR.out, Sd.norm, if_pos hg])
            go_enter Try.func54, Try.ntmps54
            go_wp2_with fail
            try simp only [Exit.inBlock, Exit.then]
            first | refine bodyPost_ret (ret_row (n := 6) rfl (by kernel_rfl) _ _ _ rfl ?_) rfl ?_ | refine bodyPost_end (ret_row (n := 6) rfl (by kernel_rfl) _ _ _ rfl ?_) rfl ?_
            · simp [go_sem]
            · refine ⟨?_, said_frame _ _ _ _ _⟩
              rw [HN.out]
              simp [go_sem, Sd.vals, saidZ]
          · have h5 : (kind != 1) = true := by simpa using h3
            have h6 : (kind != 2) = true := by simpa using h4
            have h7 : (kind == 1) = false := by simpa using h3
            have h8 : (kind == 2) = false := by simpa using h4
            have HN : Hid (R = saidZ) := Lib.hid (by
              have hg : Sd.good ⟨true, tick, kind, st, seq, val⟩ = false := by
                rw [Bool.eq_false_iff]; intro h; simp [Sd.good] at h; try omega
              rw [HR.out, Sd.norm, if_neg (by rw [hg]; simp)]; rfl)
            go_enter Try.func54, Try.ntmps54
            go_wp2_with fail
            try simp only [Exit.inBlock, Exit.then]
            first | refine bodyPost_ret (ret_row (n := 6) rfl (by kernel_rfl) _ _ _ rfl ?_) rfl ?_ | refine bodyPost_end (ret_row (n := 6) rfl (by kernel_rfl) _ _ _ rfl ?_) rfl ?_
            · simp [go_sem]
            · refine ⟨?_, said_frame _ _ _ _ _⟩
              rw [HN.out]
              simp [go_sem, Sd.vals, saidZ]
end Go.Proofs.Ytopakilglnpinaa
