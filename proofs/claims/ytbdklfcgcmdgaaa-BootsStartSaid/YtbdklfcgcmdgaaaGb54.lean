/-
  The power of a node, walked: the examples and the laws. BootsStart, BootsOne: what their calls need; a start between two ticks. How nodes start, as it came in, opened. sennitlaw18.BootsOne, walked.
-/
import Derived.Test.YtbdklfcgcmdgaaaRows
import Derived.Test.YtbdklfcgcmdgaaaGb51
import Derived.WalkKit
import Derived.WalkSpells
import Derived.WalkLawsBesides
import Derived.Outline
import Derived.Deep.QuietTactic
import Derived.BigQuiet
import Derived.Deep.Light
import Derived.Test.YtbdklfcgcmdgaaaGb53
import Derived.Test.YtbdklfcgcmdgaaaGb26
import Derived.Test.YtbdklfcgcmdgaaaGb47
namespace Go.Proofs.Ytbdklfcgcmdgaaa
open Go.RowKit
set_option linter.unusedVariables false
set_option linter.unusedSimpArgs false



/-- the example's states -/
def exS (k : Nat) : Int := ([0, 1, 1, 2, 2, 0, 1] : List Int).getD k 0
def exL (k : Nat) : Int := ([0, 1, 0, 0, 0, 0, 1] : List Int).getD k 0
def exC (k : Nat) : Int := ([0, 0, 0, 0, 1, 1, 1] : List Int).getD k 0
def wS (k : Nat) : Int := ([1, 1, 2, 2, 0, 1] : List Int).getD k 0
def wC (k : Nat) : Int := ([-1, -1, 0, 1, -1, -1] : List Int).getD k 0

theorem ex_step : ∀ k, k < 6 → (exS (k+1), exL (k+1), exC (k+1)) = (if (k != 4) = true then pwOn 2 (exS k) (exL k) (exC k) else (0, exL k, exC k)) ∧ wS k = exS (k+1) ∧ wC k = (if exS (k+1) = 2 then exC (k+1) else -1) := by
  decide

def exSt : Array Value := #[.int .u8 1, .int .u8 1, .int .u8 2, .int .u8 2, .int .u8 0, .int .u8 1]
def exCo : Array Value := #[.int .i64 (-1), .int .i64 (-1), .int .i64 0, .int .i64 1, .int .i64 (-1), .int .i64 (-1)]
theorem exSt_at : ∀ k, k < 6 → exSt[k]? = some (.int .u8 (wS k)) := by
  intro k hk
  match k, hk with
  | 0, _ => rfl
  | 1, _ => rfl
  | 2, _ => rfl
  | 3, _ => rfl
  | 4, _ => rfl
  | 5, _ => rfl
theorem exCo_at : ∀ k, k < 6 → exCo[k]? = some (.int .i64 (wC k)) := by
  intro k hk
  match k, hk with
  | 0, _ => rfl
  | 1, _ => rfl
  | 2, _ => rfl
  | 3, _ => rfl
  | 4, _ => rfl
  | 5, _ => rfl
theorem ex_ok : ∀ k, k < 6 → (exS k = 0 ∨ exS k = 1 ∨ exS k = 2) ∧ 0 ≤ exL k ∧ exL k ≤ 4096 ∧ -1 ≤ exC k ∧ exC k ≤ 1099511627776 := by
  decide

def LivesRel (w : World) (k : Nat) (wr : World) : Prop :=
  Blk wr w.heap.size 196 (pwCells 2 (exS k) (exL k) (exC k)) ∧ Blk wr (w.heap.size + 1) 134 exSt ∧ Blk wr (w.heap.size + 1 + 1) 2 exCo ∧ Below w.heap.size w wr

theorem step_ex (w : World) (k : Nat) (hk : k < 6) (wr : World) (h : LivesRel w k wr) :
    Calls Try.prog 71 #[.pointer (some ⟨w.heap.size, 0, none⟩), .bool (k != 4)] wr fun e w' =>
      e = .returned (.tuple #[.int .u8 (wS k), .int .i64 (wC k)]) ∧ LivesRel w (k + 1) w' := by
  obtain ⟨h1, h2, h3, h4⟩ := h
  obtain ⟨e1, e2, e3⟩ := ex_step k hk
  obtain ⟨o1, o2, o3, o4, o5⟩ := ex_ok k hk
  have fin : ∀ p e w', StepPost w.heap.size 2 (exS k) (exL k) (exC k) p e wr w' → (exS (k+1), exL (k+1), exC (k+1)) = (if p = true then pwOn 2 (exS k) (exL k) (exC k) else (0, exL k, exC k)) →
      e = .returned (.tuple #[.int .u8 (wS k), .int .i64 (wC k)]) ∧ LivesRel w (k + 1) w' := by
    rintro p e w' ⟨s', l', c', hp, he, hb, hc⟩ hq
    rw [← hq] at hp
    simp only [Prod.mk.injEq] at hp
    obtain ⟨rfl, rfl, rfl⟩ := hp
    refine ⟨?_, hb, h2.chg hc (by omega), h3.chg hc (by omega), h4.trans (hc.below h4.size (fun k hk => by omega))⟩
    rw [he, e2, e3]
  by_cases h4' : k = 4
  · have : (k != 4) = false := by simp [h4']
    rw [this] at e1 ⊢
    exact (step_off _ _ _ _ _ _ h1).mono fun e w' h => fin false e w' h e1
  · have : (k != 4) = true := by simp [h4']
    rw [this] at e1 ⊢
    exact (step_on _ _ _ _ _ _ o1 (by omega) (by omega) o2 o3 o4 o5 h1).mono fun e w' h => fin true e w' h e1

set_option maxHeartbeats 400000 in
theorem lives_any (w : World) : Calls Try.prog 42 #[] w fun e w' => e = .returned (.bool true) ∧ Below w.heap.size w w' := by
  go_enter Try.func42, Try.ntmps42
  go_wp2_with fail
  refine (pwnew_ok 2 _ (by omega) (by omega)).mono ?_
  rintro e w' ⟨rfl, rfl⟩
  go_wp2
  have hst : LivesRel w 0 (((w.alloc (.cells (pwCells 2 0 0 0) 196)).alloc (.cells exSt 134)).alloc (.cells exCo 2)) := by
    have e1 : (w.alloc (.cells (pwCells 2 0 0 0) 196)).heap.size = w.heap.size + 1 := by simp
    have e2 : ((w.alloc (.cells (pwCells 2 0 0 0) 196)).alloc (.cells exSt 134)).heap.size = w.heap.size + 1 + 1 := by simp
    refine ⟨((Blk.new _ _ _).alloc _).alloc _, ?_, ?_, (((Below.refl _ _).alloc (by simp) _).alloc (by simp) _).alloc (by simp; omega) _⟩
    · rw [← e1]; exact (Blk.new _ _ _).alloc _
    · rw [← e2]; exact Blk.new _ _ _
  have HS := Lib.hid hst
  clear hst
  go_loopw [5] (fun i wr => ∃ k : Nat, k ≤ 6 ∧ i = .int .i64 k ∧ LivesRel w k wr) (fun i _ => 6 - (intOf i).toNat)
  case atStart => exact ⟨0, by omega, rfl, HS.out⟩
  case round =>
    obtain ⟨k, hk, rfl, hr⟩ := hrel
    have hB := hr.2.2.2
    by_cases hlt : k < 6
    · have hs := step_ex w k hlt wr hr
      have c1 := exSt_at k hlt
      have c2 := exCo_at k hlt
      have H := Lib.hid (And.intro hs (And.intro c1 c2))
      clear hs c1 c2 hr hB
      have eb : (((k : Nat) : Int) != 4) = (k != 4) := by
        by_cases h : k = 4
        · subst h; rfl
        · rw [bne_iff_ne.2 h, bne_iff_ne.2 (by omega)]
      go_wp2_with fail
      refine H.out.1.mono ?_
      rintro e w' ⟨rfl, hr'⟩
      have d1 : w'.cell? ⟨w.heap.size + 1, k, none⟩ = some (.int .u8 (wS k)) := (hr'.2.1.cell k).trans H.out.2.1
      have d2 : w'.cell? ⟨w.heap.size + 1 + 1, k, none⟩ = some (.int .i64 (wC k)) := (hr'.2.2.1.cell k).trans H.out.2.2
      have HR := Lib.hid hr'
      clear hr'
      go_wp2
      exact ⟨⟨k + 1, by omega, by go_num, HR.out⟩, by simp [intOf]; omega⟩
    · have : k = 6 := by omega
      subst this
      clear hr
      have HB := Lib.hid hB
      clear hB
      go_wp2
      go_ret
      exact ⟨rfl, HB.out⟩

end Go.Proofs.Ytbdklfcgcmdgaaa
namespace Go.Proofs.Ytbdklfcgcmdgaaa
open Go.RowKit
set_option linter.unusedVariables false
set_option linter.unusedSimpArgs false

/-! ### numbers of a byte, read -/
def RdYs (w : World) (a : Option Addr) (len : Nat) (X : List Int) : Prop :=
  X.length = len ∧ ∀ (k : Nat) (x : Int), X[k]? = some x → (0 ≤ x ∧ x ≤ 255) ∧ ∃ b off, a = some ⟨b, off, none⟩ ∧ b < w.heap.size ∧ w.cell? ⟨b, off + k, none⟩ = some (.int .u8 x)
theorem RdYs.at_ {w : World} {a : Option Addr} {len : Nat} {X : List Int} (h : RdYs w a len X) {k : Nat} (hk : k < len) : ∃ x b off, X[k]? = some x ∧ 0 ≤ x ∧ x ≤ 255 ∧ a = some ⟨b, off, none⟩ ∧ b < w.heap.size ∧ w.cell? ⟨b, off + k, none⟩ = some (.int .u8 x) := by
  have hkk : X[k]? = some (X[k]'(by rw [h.1]; exact hk)) := List.getElem?_eq_getElem _
  obtain ⟨h1, b, off, h2, h3, h4⟩ := h.2 k _ hkk
  exact ⟨_, b, off, hkk, h1.1, h1.2, h2, h3, h4⟩
theorem RdYs.of {w : World} {a : Option Addr} {len : Nat} {vs : List Value} (h : Rd1 w a len vs) (hv : ∀ v ∈ vs, ∃ b : Int, v = .int .u8 b ∧ 0 ≤ b ∧ b ≤ 255) : ∃ X, RdYs w a len X := by
  refine ⟨vs.map fun v => match v with | .int _ n => n | _ => 0, by simp [h.1], fun k x hx => ?_⟩
  rw [List.getElem?_map, Option.map_eq_some_iff] at hx
  obtain ⟨v, hk, rfl⟩ := hx
  obtain ⟨b, rfl, h1, h2⟩ := hv v (List.mem_of_getElem? hk)
  obtain ⟨g, off, e, hc⟩ := h.2 k _ hk
  exact ⟨⟨h1, h2⟩, g, off, e, World.block_lt_of_cell? w _ hc, hc⟩
theorem RdYs.below {w w' : World} {a : Option Addr} {len : Nat} {X : List Int} (h : RdYs w a len X) (hb : Below w.heap.size w w') : RdYs w' a len X := ⟨h.1, fun k x hx => by
  obtain ⟨h1, b, off, e, hl, hc⟩ := h.2 k x hx
  exact ⟨h1, b, off, e, Nat.lt_of_lt_of_le hl hb.size, (hb.cell (p := ⟨b, off + k, none⟩) hl).trans hc⟩⟩
/-- a list's number of a node; none: 0 -/
def ofF (X : List Int) (i : Nat) (most : Int) : Int := if X = [] then 0 else X.getD (i % X.length) 0 % most
theorem ofF_range {X : List Int} {i : Nat} {most : Int} (h : 0 < most) : 0 ≤ ofF X i most ∧ ofF X i most < most := by
  unfold ofF
  split
  · omega
  · exact ⟨Int.emod_nonneg _ (by omega), Int.emod_lt_of_pos _ h⟩
def OfP (v : Int) (w : World) (e : Ending) (w' : World) : Prop := e = .returned (.int .i64 v) ∧ w' = w
set_option maxRecDepth 100000 in
set_option maxHeartbeats 4000000 in
theorem of18_any {a : Option Addr} {len cap : Nat} {X : List Int} (i : Nat) (most : Nat) (hm0 : 0 < most) (hm1 : most ≤ 100) (hi : i ≤ 1000) (hlen : len ≤ 1000) (w : World) (h : RdYs w a len X) :
    Calls Try.prog 43 #[.slice a len cap, .int .i64 i, .int .i64 most] w (OfP (ofF X i most) w) := by
  by_cases h0 : len = 0
  · have hx : X = [] := List.eq_nil_of_length_eq_zero (by rw [h.1]; exact h0)
    subst hx
    subst h0
    clear h
    go_enter Try.func43, Try.ntmps43
    go_wp2_with fail
    go_ret
    exact ⟨rfl, rfl⟩
  · obtain ⟨j, hj⟩ : ∃ j, i % len = j := ⟨_, rfl⟩
    have hjl : j < len := by rw [← hj]; exact Nat.mod_lt _ (by omega)
    obtain ⟨x, b, off, hx, hx0, hx1, rfl, hb, hc⟩ := h.at_ hjl
    have hof : ofF X i most = x % most := by
      have hne : X ≠ [] := by rintro rfl; simp at hx
      unfold ofF
      rw [if_neg hne, h.1, hj, List.getD_eq_getElem?_getD, hx]
      rfl
    have HOF := Lib.hid hof
    have e1 : ((len : Int) == 0) = false := by simp; omega
    have e2 : ¬ (len : Int) = 0 := by omega
    have e3 : ¬ (most : Int) = 0 := by omega
    have f1 : (i : Int).tmod len = (j : Int) := by rw [← hj, Int.tmod_eq_emod_of_nonneg (by omega)]; norm_cast
    have f2 : (i : Int) % len = (j : Int) := by rw [← hj]; norm_cast
    have f5 : (j : Int) < len := by omega
    have f6 : (0 : Int) ≤ j := by omega
    have g1 : x.tmod most = x % most := Int.tmod_eq_emod_of_nonneg hx0
    have g2 : 0 ≤ x % most := Int.emod_nonneg _ (by omega)
    have g3 : x % most < most := Int.emod_lt_of_pos _ (by omega)
    have wr1 : IntKind.i64.wrap (x % most) = x % most := IntWalk.i64_in _ (by omega)
    clear h hof hj h0 hx
    go_enter Try.func43, Try.ntmps43
    go_wp2_with fail
    go_ret
    exact ⟨by rw [HOF.out]; rfl, rfl⟩
/-! ### a list of ints -/
theorem mk_int : MakeOk Try.prog 121 3 [.int .i64 0] := ⟨Try.underlying121, by kernel_rfl, by decide⟩
@[go_sem ↓] theorem ms_int (ρ : Operand → Value) (d : Option Tmp) (x y : Operand) (ty : TypeId) (s : String) (af : Array Edge) (g : Option (Nat × Bool)) (w : World) (h : madeOk (ρ x) (ρ y) = true) :
    (execOp ρ { dst := d, op := .makeSlice 121 x y, type := ty, pos := s, after := af, guard := g }).run Try.prog w =
      .ok (.value (.slice (some ⟨w.heap.size, 0, none⟩) (lenV (ρ x)) (lenV (ρ x)))) (w.alloc (.cells (zrep [.int .i64 0] (lenV (ρ x))).toArray 3)) := exec_make mk_int ρ d x y ty s af g w h
def intL (N : Nat) (f : Nat → Int) : List Value := (List.range N).map fun i => .int .i64 (f i)
theorem intL_at {N : Nat} {f : Nat → Int} {i : Nat} (h : i < N) : (intL N f)[i]? = some (.int .i64 (f i)) := by simp [intL, h]
theorem intL_len (N : Nat) (f : Nat → Int) : (intL N f).length = N := by simp [intL]
theorem intL_set {N i : Nat} (f : Nat → Int) (hi : i < N) : (intL N fun j => if j < i then f j else 0).set i (.int .i64 (f i)) = intL N fun j => if j < i + 1 then f j else 0 := by
  apply List.ext_getElem?
  intro k
  rw [List.getElem?_set]
  by_cases hik : i = k
  · subst hik
    rw [if_pos rfl, if_pos (by rw [intL_len]; exact hi), intL_at hi, if_pos (Nat.lt_succ_self i)]
  · rw [if_neg hik]
    by_cases hk : k < N
    · rw [intL_at hk, intL_at hk]
      congr 2
      by_cases hlt : k < i
      · rw [if_pos hlt, if_pos (by omega)]
      · rw [if_neg hlt, if_neg (by omega)]
    · rw [List.getElem?_eq_none (by rw [intL_len]; omega), List.getElem?_eq_none (by rw [intL_len]; omega)]
theorem zrep_intL (n : Nat) : zrep [Value.int .i64 0] n = intL n (fun _ => 0) := by
  apply List.ext_getElem?
  intro k
  have hl : (zrep [Value.int .i64 0] n).length = n := by rw [len_zrep]; simp
  by_cases hk : k < n
  · rw [intL_at hk, zrep_at (by simp) n k (by simpa using hk)]
    simp [Nat.mod_one]
  · rw [List.getElem?_eq_none (by omega), List.getElem?_eq_none (by rw [intL_len]; omega)]
/-! ### a start between two ticks -/
structure BtS (base N : Nat) (F : FltM) (boot : Nat → Int) (on : Nat → Nat → Bool) (X : List (List Value)) (t sg rg gl cap : Nat) (av : Value) (tag nt : Nat → Nat) (P : RgP) (Q : Nat → NdP) (wr : World) : Prop where
  r : RingAt tag wr rg av (rgT N F on (ownT N F boot on (cellsC X N)) t) P
  s : StAt base N nt wr sg rg gl cap t boot (ndT N F boot on (cellsC X N) t) Q
  n : ∀ b, nt b ≠ 99 → tag b = 98 ∧ base ≤ b
  lo : ∀ b, b < base → tag b = 0 ∧ nt b = 99
  le : base ≤ wr.heap.size
section
variable {base N : Nat} {F : FltM} {boot : Nat → Int} {on : Nat → Nat → Bool} {X : List (List Value)} {t sg rg gl cap : Nat} {av : Value} {tag nt : Nat → Nat} {P : RgP} {Q : Nat → NdP} {w wr w' : World}
theorem BtS.start {e : Ending} (h : NewStartP N F av boot w e w') (on : Nat → Nat → Bool) (X : List (List Value)) : ∃ sg rg gl cap tag nt P Q, e = .returned (.pointer (some ⟨sg, 0, none⟩)) ∧ BtS w.heap.size N F boot on X 0 sg rg gl cap av tag nt P Q w' ∧ Below w.heap.size w w' := by
  obtain ⟨sg, rg, gl, cap, tag, P, nt, Q, rfl, h1, h2, h3, h4, h5⟩ := h
  exact ⟨sg, rg, gl, cap, tag, nt, P, Q, rfl, ⟨h1, h2, h4, h3, h5.size⟩, h5⟩
theorem BtS.below (h : BtS base N F boot on X t sg rg gl cap av tag nt P Q wr) (hb : Below wr.heap.size wr w') : BtS base N F boot on X t sg rg gl cap av tag nt P Q w' :=
  ⟨h.r.below hb, h.s.below hb, h.n, h.lo, Nat.le_trans h.le hb.size⟩
/-- a store into a block of nobody's -/
theorem BtS.own_ (h : BtS base N F boot on X t sg rg gl cap av tag nt P Q wr) {g : Nat} (hc : Chg (· = g) wr w') (hg : tag g = 98) (hn : nt g = 99) : BtS base N F boot on X t sg rg gl cap av tag nt P Q w' :=
  ⟨h.r.chg hc fun b hb => by have e : b = g := hb; have := h.r.bd.2; rw [e, hg]; omega, h.s.chg hc fun b hb => by rw [show b = g from hb]; exact hn, h.n, h.lo, Nat.le_trans h.le hc.size⟩
theorem BtS.step {e : Ending} (h : BtS base N F boot on X t sg rg gl cap av tag nt P Q wr) (hs : StepP base N F boot on (cellsC X N) t sg rg gl cap av tag nt wr e w') :
    e = .returned (.bool true) ∧ ∃ tag' nt' P' Q', BtS base N F boot on X (t + 1) sg rg gl cap av tag' nt' P' Q' w' ∧ Below base wr w' := by
  obtain ⟨rfl, tag', P', nt', Q', h1, h2, h3, h4, h5⟩ := hs
  have hz := h.le
  refine ⟨rfl, tag', nt', P', Q', ⟨h1, h2, h3, fun b hb => by rw [(h4 b (by omega)).1, (h4 b (by omega)).2]; exact h.lo b hb, Nat.le_trans hz h5.size⟩, h5.below hz fun b hb => ?_⟩
  rcases Nat.lt_or_ge b base with h6 | h6
  · obtain ⟨k1, k2⟩ := h.lo b h6
    rcases hb with hb | hb
    · have := hb.1; omega
    · exact absurd k2 hb
  · exact h6
theorem BtS.agrees (h : BtS base N F boot on X t sg rg gl cap av tag nt P Q wr) (c : Int) (hh : ∀ i, i < N → badB N F i = false → (ndT N F boot on (cellsC X N) t i).sure = true → 0 ≤ (ndT N F boot on (cellsC X N) t i).shows ∧ (ndT N F boot on (cellsC X N) t i).shows = c) :
    Calls Try.prog 46 #[.pointer (some ⟨sg, 0, none⟩)] wr (AgreesP (cntG N F (ndT N F boot on (cellsC X N) t) N) wr) :=
  agrees18_any h.s h.r (rgT_N N F on _ t).1 (rgT_N N F on _ t).2 c hh
end
theorem rdCs_nil (S : Nat → Prop) (w : World) : RdCs S w none 0 [] := ⟨rfl, by simp, by simp⟩
/-- what all that are right and sure show -/
theorem shows_c {N : Nat} {F : FltM} {boot : Nat → Int} {on : Nat → Nat → Bool} {cell : Nat → Nat → List Value} (hF : ∀ a ∈ F.acts, a.row.ok) (hc : ∀ t i, okL cellK (cell t i) = true) (hb : ∀ i, 0 ≤ boot i) (h4 : 4 ≤ N) (h16 : N ≤ 16) {t : Nat} (ht : t ≤ 1000000) :
    ∃ c : Int, ∀ i, i < N → badB N F i = false → (ndT N F boot on cell (t + 1) i).sure = true → 0 ≤ (ndT N F boot on cell (t + 1) i).shows ∧ (ndT N F boot on cell (t + 1) i).shows = c := by
  by_cases hex : ∃ i, i < N ∧ badB N F i = false ∧ (ndT N F boot on cell (t + 1) i).sure = true
  · obtain ⟨j, hj, bj, sj⟩ := hex
    refine ⟨(ndT N F boot on cell (t + 1) j).shows, fun i hi bi si => ?_⟩
    obtain ⟨h1, h2⟩ := one_same hF hc hb h4 h16 ht hi hj (badB_not bi) (badB_not bj) si sj
    exact ⟨h2, h1⟩
  · exact ⟨0, fun i hi bi si => absurd ⟨i, hi, bi, si⟩ hex⟩
end Go.Proofs.Ytbdklfcgcmdgaaa
namespace Go.Proofs.Ytbdklfcgcmdgaaa
open Go.RowKit
set_option linter.unusedVariables false
set_option linter.unusedSimpArgs false

section
variable {H : Type} {enc : TypeId × Value → H} {w : World}
theorem three_of {l : List Value} (h : l.length = 3) : ∃ a b c, l = [a, b, c] := by
  match l, h with
  | [a, b, c], _ => exact ⟨a, b, c, rfl⟩
theorem bytes_open {n' : Nat} {c : Value} {d : DataW H × List MemPlace} (g : DataW.trod enc Try.prog w 0 (fun _ => true) true n' 118 [c] = some d) : ∃ a len cap X, c = .slice a len cap ∧ RdYs w a len X := by
  obtain ⟨a, len, cap, rfl⟩ : ∃ a len cap, c = Value.slice a len cap := by
    rcases Deep.open_slice Try.underlying118 g with ⟨hcs, _⟩ | ⟨x', l', c', _, _, _, _, hcs, _⟩
    · simp at hcs; exact ⟨_, _, _, hcs⟩
    · simp at hcs; exact ⟨_, _, _, hcs⟩
  have hT : DataW.Trod enc Try.prog w 0 (fun _ => true) true 118 (.slice a len cap) d.1 d.2 := ⟨n', by simpa [Value.cells] using g⟩
  obtain ⟨bs, hrd, hm, hbs⟩ := Rd1.open_ Try.underlying118 (by kernel_rfl) hT
  obtain ⟨X, hX⟩ := RdYs.of hrd (fun v hv => by obtain ⟨y, n, hy⟩ := hbs v hv; obtain ⟨b, hb, _, hw⟩ := DataW.trod_int Try.underlying5 hy; exact ⟨b, by simpa using hb, by simpa [Lit.wf, IntKind.min, IntKind.max, IntKind.signed, IntKind.bits] using hw⟩)
  exact ⟨a, len, cap, X, rfl, hX⟩
theorem starting_open {v : Value} {d : DataW H} {pl : List MemPlace} (h : DataW.Trod enc Try.prog w 0 (fun _ => true) true 120 v d pl) (hv : ∃ cs, v = .agg cs ∧ cs.size = Try.prog.cellsOf 120) :
    ∃ p pa pn pc ba bn bc Ps Bs, v = .agg #[.int .u8 p, .slice pa pn pc, .slice ba bn bc] ∧ (0 ≤ p ∧ p ≤ 255) ∧ RdYs w pa pn Ps ∧ RdYs w ba bn Bs := by
  obtain ⟨cs, rfl, hsz⟩ := hv
  obtain ⟨fuel, hf⟩ := h
  obtain ⟨xs, n', _, hx, hlen, hxl, hfl⟩ := DataW.trod_struct Try.underlying120 hf
  have hc : Try.prog.cellsOf 120 = 3 := by kernel_rfl
  rw [hc] at hsz
  obtain ⟨l⟩ := cs
  obtain ⟨c0, c1, c2, rfl⟩ := three_of (by simpa using hsz)
  have hc1 : Try.prog.cellsOf 5 = 1 := by kernel_rfl
  have hc2 : Try.prog.cellsOf 118 = 1 := by kernel_rfl
  have g0 : DataW.trod enc Try.prog w 0 (fun _ => true) true n' 5 (([c0, c1, c2].drop 0).take (Try.prog.cellsOf 5)) = xs[0]? := hfl 0 _ rfl
  have g1 : DataW.trod enc Try.prog w 0 (fun _ => true) true n' 118 (([c0, c1, c2].drop 1).take (Try.prog.cellsOf 118)) = xs[1]? := hfl 1 _ rfl
  have g2 : DataW.trod enc Try.prog w 0 (fun _ => true) true n' 118 (([c0, c1, c2].drop 2).take (Try.prog.cellsOf 118)) = xs[2]? := hfl 2 _ rfl
  simp only [hc1, hc2, List.drop_zero, List.take_succ_cons, List.take_zero, List.drop_succ_cons] at g0 g1 g2
  have l0 : xs[0]? = some (xs[0]'(by rw [hxl]; decide)) := List.getElem?_eq_getElem _
  have l1 : xs[1]? = some (xs[1]'(by rw [hxl]; decide)) := List.getElem?_eq_getElem _
  have l2 : xs[2]? = some (xs[2]'(by rw [hxl]; decide)) := List.getElem?_eq_getElem _
  rw [l0] at g0
  rw [l1] at g1
  rw [l2] at g2
  obtain ⟨p, e0, p1, p2⟩ := u8_one (flat_open 1 5 [.i .u8] (by kernel_rfl) (by rw [hc1]; rfl) n' _ _ g0)
  simp only [List.cons.injEq, and_true] at e0
  obtain ⟨pa, pn, pc, Ps, rfl, h1⟩ := bytes_open g1
  obtain ⟨ba, bn, bc, Bs, rfl, h2⟩ := bytes_open g2
  exact ⟨p, pa, pn, pc, ba, bn, bc, Ps, Bs, by rw [e0], ⟨p1, p2⟩, h1, h2⟩
end
end Go.Proofs.Ytbdklfcgcmdgaaa
namespace Go.Proofs.Ytbdklfcgcmdgaaa
open Go.RowKit
set_option linter.unusedVariables false
set_option linter.unusedSimpArgs false

set_option maxRecDepth 100000 in
set_option maxHeartbeats 8000000 in
theorem bootsOne_any (p : Int) (hp : 0 ≤ p ∧ p ≤ 255) (N : Nat) (hN : 4 + p % 13 = (N : Int)) (pv : Value) (ba : Option Addr) (bl bc : Nat) (Bs : List Int) (F : FltM) (aa : Option Addr) (an ac : Nat) (xa : Option Addr) (xl xc : Nat) (Y : List Int) (w : World)
    (hA : RdAs (· < w.heap.size) w aa an F.acts) (ha1 : an ≤ ac) (ha2 : ac ≤ maxLen) (ha3 : an ≤ 140737488355328) (hfz : ∀ x ∈ F.acts, x.row.t.length ≤ 140737488355328) (hf : F.at_ < 256 ∧ F.which < 256) (hfo : ∀ a ∈ F.acts, a.row.ok)
    (hB : RdYs w ba bl Bs) (hY : RdXs w xa xl Y) :
    Calls Try.prog 11 #[.agg #[.int .u8 p, pv, .slice ba bl bc], .agg (F.vals (.slice aa an ac)).toArray, .slice xa xl xc] w fun e w' => e = .returned (.bool true) ∧ Below w.heap.size w w' := by
  have h4 : 4 ≤ N := by omega
  have h16 : N ≤ 16 := by omega
  obtain ⟨hp0, hp1⟩ := hp
  have HFo := Lib.hid hfo
  have HA := Lib.hid (And.intro hA (And.intro ha1 (And.intro ha2 ha3)))
  have HF := Lib.hid hf
  have HBs := Lib.hid hB
  have HY := Lib.hid hY
  have HFG : Hid (∀ w' : World, Below w.heap.size w w' → Calls Try.prog 28 #[.agg #[.bool F.link, .int .u8 F.at_, .int .u8 F.which, .slice aa an ac]] w' (FGreat w')) := Lib.hid fun w' hb =>
    fgreat_any (· < w.heap.size) F aa an ac w' (hA.below hb) ha1 ha2 ha3 hfz
  have HB0 : Hid (Below w.heap.size w ((w.alloc (.cells #[.int .u8 p, pv, .slice ba bl bc] 120)).alloc (.cells #[.bool F.link, .int .u8 F.at_, .int .u8 F.which, .slice aa an ac] 88))) := Lib.hid (((Below.refl _ _).alloc (Nat.le_refl _) _).alloc (by simp) _)
  have HK1 : Hid (Blk ((w.alloc (.cells #[.int .u8 p, pv, .slice ba bl bc] 120)).alloc (.cells #[.bool F.link, .int .u8 F.at_, .int .u8 F.which, .slice aa an ac] 88)) w.heap.size 120 #[.int .u8 p, pv, .slice ba bl bc]) := Lib.hid ((Blk.new _ _ _).alloc _)
  have HK0 : Hid (Blk ((w.alloc (.cells #[.int .u8 p, pv, .slice ba bl bc] 120)).alloc (.cells #[.bool F.link, .int .u8 F.at_, .int .u8 F.which, .slice aa an ac] 88)) (w.heap.size + 1) 88 #[.bool F.link, .int .u8 F.at_, .int .u8 F.which, .slice aa an ac]) := Lib.hid (by
    have := Blk.new (w.alloc (.cells #[.int .u8 p, pv, .slice ba bl bc] 120)) 88 #[.bool F.link, .int .u8 F.at_, .int .u8 F.which, .slice aa an ac]
    simpa using this)
  clear hA hf hfz hfo hB hY ha1 ha2 ha3
  show Calls _ _ #[.agg #[.int .u8 p, pv, .slice ba bl bc], .agg #[.bool F.link, .int .u8 F.at_, .int .u8 F.which, .slice aa an ac], .slice xa xl xc] w _
  go_enter Try.func11, Try.ntmps11
  go_upto_region 1 with fail
  generalize (w.alloc (.cells #[.int .u8 p, pv, .slice ba bl bc] 120)).alloc (.cells #[.bool F.link, .int .u8 F.at_, .int .u8 F.which, .slice aa an ac] 88) = w0 at HB0 HK0 HK1 ⊢
  obtain ⟨fb, hfb⟩ : ∃ fb, fb = w.heap.size + 1 := ⟨_, rfl⟩
  rw [← hfb] at HK0 ⊢
  clear hfb
  have c0 := HK0.out.cell 0
  have c1 := HK0.out.cell 1
  have c2 := HK0.out.cell 2
  have c3 := HK0.out.cell 3
  simp at c0 c1 c2 c3
  go_wp2_with fail
  (with_reducible refine (HFG.out w0 HB0.out).mono ?_)
  rintro e w1 ⟨⟨bb, rfl⟩, hb1⟩
  have HB1 := Lib.hid (HB0.out.trans (hb1.mono HB0.out.size))
  have HKF := Lib.hid (HK0.out.below hb1 HK0.out.lt)
  have HKS := Lib.hid (HK1.out.below hb1 HK1.out.lt)
  clear hb1 c0 c1 c2 c3 HFG HK0 HK1 HB0
  have s0 : w1.cell? ⟨w.heap.size, 0, none⟩ = some (.int .u8 p) := HKS.out.cell 0
  have s2 : w1.cell? ⟨w.heap.size, 2, none⟩ = some (.slice ba bl bc) := HKS.out.cell 2
  by_cases hgo : bb = false ∧ bl ≤ 40 ∧ xl ≤ 60
  · obtain ⟨rfl, hb40, hx60⟩ := hgo
    have hb40' : ¬ (40 : Int) < bl := by omega
    have hx60' : ¬ (60 : Int) < xl := by omega
    have hb0 : 0 ≤ p % 13 := by omega
    have hb13 : p % 13 < 13 := by omega
    have hm : madeOk (.int .i64 (N : Int)) (.int .i64 (N : Int)) = true := by simp [madeOk]; omega
    go_upto_region 5 with fail
    have HKI : Hid (Blk (w1.alloc (.cells (zrep [Value.int .i64 0] N).toArray 3)) w1.heap.size 3 (intL N fun j => if j < 0 then ofF Bs j 20 else 0).toArray) := Lib.hid (by
      have h1 := Blk.new w1 3 (zrep [Value.int .i64 0] N).toArray
      rw [show (intL N fun j => if j < 0 then ofF Bs j 20 else 0) = intL N fun _ => 0 from by simp]
      rwa [zrep_intL] at h1 ⊢)
    have HB2 : Hid (Below w1.heap.size w1 (w1.alloc (.cells (zrep [Value.int .i64 0] N).toArray 3))) := Lib.hid ((Below.refl _ _).alloc (Nat.le_refl _) _)
    generalize w1.alloc (.cells (zrep [Value.int .i64 0] N).toArray 3) = w2 at HKI HB2 ⊢
    obtain ⟨ib, hib⟩ : ∃ ib, ib = w1.heap.size := ⟨_, rfl⟩
    rw [← hib] at HKI HB2 ⊢
    have HIB := Lib.hid hib
    have hw1 : w.heap.size < ib := by have := HKS.out.lt; omega
    have hfib : fb < ib := by have := HKF.out.lt; omega
    clear hib s0 s2 hN hb0 hb13
    have HM := Lib.hid hm
    go_wp2_with fail
    go_loopw [9] (fun s9 wr => ∃ k : Nat, k ≤ N ∧ s9 = .int .i64 k ∧ Below ib w1 wr ∧ Blk wr ib 3 (intL N fun j => if j < k then ofF Bs j 20 else 0).toArray) (fun i _ => N - (intOf i).toNat)
    case atStart => exact ⟨0, by omega, rfl, HB2.out, HKI.out⟩
    case round =>
      obtain ⟨k, hk, rfl, hbr, hkb⟩ := hrel
      by_cases hkN : k < N
      · have hkN1 : (k : Int) < N := by omega
        have hk0 : (0 : Int) ≤ k := by omega
        have s2 : wr.cell? ⟨w.heap.size, 2, none⟩ = some (.slice ba bl bc) := (hbr.cell (p := ⟨w.heap.size, 2, none⟩) hw1).trans (HKS.out.cell 2)
        have di : wr.cell? ⟨ib, k, none⟩ = some (.int .i64 (if k < k then ofF Bs k 20 else 0)) := by rw [hkb.cell]; simp only [List.getElem?_toArray]; exact intL_at hkN
        have zi := hkb.frozen k
        have HOF : Hid (Calls Try.prog 43 #[.slice ba bl bc, .int .i64 k, .int .i64 20] wr (OfP (ofF Bs k 20) wr)) := Lib.hid (of18_any (cap := bc) k 20 (by omega) (by omega) (by omega) (by omega) wr (HBs.out.below (HB1.out.trans (hbr.mono (by have := HIB.out; have := HB1.out.size; omega)))))
        have hb2 := hkb.set_ k (.int .i64 (ofF Bs k 20))
        rw [List.setIfInBounds_toArray, intL_set _ hkN] at hb2
        have HE := Lib.hid (And.intro (hbr.setCell (p := ⟨ib, k, none⟩) (Nat.le_refl _) (.int .i64 (ofF Bs k 20))) hb2)
        clear hbr hkb hb2
        go_wp2_with fail
        (with_reducible refine HOF.out.mono ?_)
        rintro e w3 ⟨rfl, rfl⟩
        go_wp2_with fail
        exact ⟨⟨k + 1, by omega, by go_num, HE.out.1, HE.out.2⟩, by simp [intOf]; omega⟩
      · have hkN1 : ¬ (k : Int) < N := by omega
        obtain rfl : N = k := by omega
        obtain ⟨w3, rfl⟩ : ∃ w3, w3 = wr := ⟨_, rfl⟩
        have HB3 := Lib.hid (HB1.out.trans (hbr.mono (by have := HIB.out; have := HB1.out.size; omega)))
        have hf3 := HKF.out.below (by rw [← HIB.out]; exact hbr) HKF.out.lt
        have c0 := hf3.cell 0
        have c1 := hf3.cell 1
        have c2 := hf3.cell 2
        have c3 := hf3.cell 3
        simp at c0 c1 c2 c3
        obtain ⟨boot, hboot⟩ : ∃ boot : Nat → Int, boot = fun j => ofF Bs j 20 := ⟨_, rfl⟩
        have HBT : Hid (∀ i, 0 ≤ boot i ∧ boot i ≤ 4096) := Lib.hid fun i => by
          rw [hboot]
          have := ofF_range (X := Bs) (i := i) (most := 20) (by omega)
          exact ⟨this.1, by show ofF Bs i 20 ≤ 4096; omega⟩
        obtain ⟨hA, ha1, ha2, ha3⟩ := HA.out
        have HNS : Hid (Calls Try.prog 44 #[.int .i64 N, .agg #[.bool F.link, .int .u8 F.at_, .int .u8 F.which, .slice aa an ac], .slice (some ⟨ib, 0, none⟩) N N] w3 (NewStartP N F (.slice aa an ac) boot w3)) := Lib.hid (newStart_any N F aa an ac ib N boot w3 h4 h16 HF.out ((hA.below HB3.out).mono fun b hb hl => by have := HB3.out.size; omega) ha1 ha2 ha3 hkb.lt (fun i hi => ⟨by rw [hkb.cell]; simp only [List.getElem?_toArray]; rw [intL_at hi, if_pos hi, hboot], HBT.out i⟩))
        clear hbr hkb hf3 hA ha1 ha2 ha3 hboot hk HKI HB2 HKF HKS
        go_wp2_with fail
        (with_reducible refine HNS.out.mono ?_)
        rintro e w4 hns
        obtain ⟨on, hon⟩ : ∃ on : Nat → Nat → Bool, on = fun t i => if Y = [] then true else onB (Y.getD (min (t / 7) (Y.length - 1)) 0) i := ⟨_, rfl⟩
        have HON := Lib.hid hon
        obtain ⟨sg, rg, gl, cap, tag, nt, P, Q, rfl, hbs, hbel⟩ := BtS.start hns on []
        have HS4 := Lib.hid hbs
        have HB4 := Lib.hid (HB3.out.trans (hbel.mono HB3.out.size))
        have hw3 := HB3.out.size
        obtain ⟨bs, hbse⟩ : ∃ bs, bs = w3.heap.size := ⟨_, rfl⟩
        rw [← hbse] at HS4 hw3
        clear hns hbs hbel hon c0 c1 c2 c3 HNS hbse HB3
        go_wp2_with fail
        go_loopw [11] (fun s11 wr => ∃ (t : Nat) (tag nt : Nat → Nat) (P : RgP) (Q : Nat → NdP), t ≤ 300 ∧ s11 = .int .i64 t ∧ BtS bs N F boot on [] t sg rg gl cap (.slice aa an ac) tag nt P Q wr ∧ Below w.heap.size w wr) (fun i _ => 300 - (intOf i).toNat)
        case atStart => exact ⟨0, tag, nt, P, Q, by omega, rfl, HS4.out, HB4.out⟩
        case round =>
          clear HS4 HB4
          obtain ⟨t, tag, nt, P, Q, ht, rfl, hbs, hbw⟩ := hrel
          obtain ⟨w5, rfl⟩ : ∃ w5, w5 = wr := ⟨_, rfl⟩
          have HS5 := Lib.hid hbs
          have HB5 := Lib.hid hbw
          clear hbs hbw
          by_cases hlt : t < 12 * N + 20
          · have hlt1 : (t : Int) < 12 * (N : Int) + 20 := by omega
            have hm := HM.out
            go_upto_region 16 with fail
            have HKB : Hid (Blk (w5.alloc (.cells (zrep [Value.bool false] N).toArray 4)) w5.heap.size 4 (onL N fun j => decide (j < 0) && on t j).toArray) := Lib.hid (by
              have h1 := Blk.new w5 4 (zrep [Value.bool false] N).toArray
              rw [show (onL N fun j => decide (j < 0) && on t j) = onL N fun _ => false from by simp]
              rw [zrep_onL] at h1 ⊢
              exact h1)
            have HBA : Hid (Below w5.heap.size w5 (w5.alloc (.cells (zrep [Value.bool false] N).toArray 4))) := Lib.hid ((Below.refl _ _).alloc (Nat.le_refl _) _)
            generalize w5.alloc (.cells (zrep [Value.bool false] N).toArray 4) = w6 at HKB HBA ⊢
            have HS6 := Lib.hid (HS5.out.below HBA.out)
            have HB6 := Lib.hid (HB5.out.trans (HBA.out.mono HB5.out.size))
            have HPB : Hid (tag w5.heap.size = 98 ∧ nt w5.heap.size = 99) := Lib.hid ⟨HS5.out.r.tg _ (Nat.le_refl _), HS5.out.s.hi _ (Nat.le_refl _)⟩
            have hbs5 : bs ≤ w5.heap.size := HS5.out.le
            have hww : w.heap.size ≤ w5.heap.size := HB5.out.size
            generalize w5.heap.size = pb at HKB HPB hbs5 hww ⊢
            clear HBA HS5 HB5 hm
            have hpb6 : pb < w6.heap.size := HKB.out.lt
            go_wp2_with fail
            go_loopw [13] (fun s13 wq => ∃ k : Nat, k ≤ N ∧ s13 = .int .i64 k ∧ Chg (· = pb) w6 wq ∧ Blk wq pb 4 (onL N fun j => decide (j < k) && on t j).toArray) (fun k _ => N - (intOf k).toNat)
            case atStart => exact ⟨0, by omega, rfl, Chg.refl _ _, HKB.out⟩
            case round =>
              obtain ⟨k, hk, rfl, hch, hkb⟩ := hrel
              by_cases hkN : k < N
              · have hkN1 : (k : Int) < N := by omega
                have hk0 : (0 : Int) ≤ k := by omega
                have don : wr.cell? ⟨pb, k, none⟩ = some (.bool (decide (k < k) && on t k)) := by rw [hkb.cell]; simp only [List.getElem?_toArray]; exact onL_at hkN
                have zon := hkb.frozen k
                obtain ⟨q, hq⟩ : ∃ q, q = on t k := ⟨_, rfl⟩
                have hb2 := hkb.set_ k (.bool q)
                have hset : (onL N fun j => decide (j < k) && on t j).set k (.bool q) = onL N fun j => decide (j < k + 1) && on t j := by
                  have := onL_set (N := N) (on := fun j => decide (j < k) && on t j) (on' := fun j => decide (j < k + 1) && on t j) (i := k) (fun j _ hne => by
                    have : (j < k + 1) = (j < k) := by simp; omega
                    simp only [this])
                  simpa [hq] using this
                rw [List.setIfInBounds_toArray, hset] at hb2
                have HE := Lib.hid (And.intro (hch.set_at k (.bool q)) hb2)
                have HCH := Lib.hid hch
                have HQ := Lib.hid hq
                clear hset hb2 hkb hch hq
                by_cases hx0 : xl = 0
                · have hYn : Y = [] := List.eq_nil_of_length_eq_zero (by rw [HY.out.1]; exact hx0)
                  have hq1 : q = true := by rw [HQ.out, HON.out]; simp [hYn]
                  subst hq1
                  have e1 : ((xl : Int) == 0) = true := by simp; omega
                  clear hYn hx0
                  go_wp2_with fail
                  exact ⟨⟨k + 1, by omega, by go_num, HE.out.1, HE.out.2⟩, by simp [intOf]; omega⟩
                · have e1 : ((xl : Int) == 0) = false := by simp; omega
                  obtain ⟨t5, ht5⟩ : ∃ t5, t5 = t / 7 := ⟨_, rfl⟩
                  have ht5l : t5 ≤ 50 := by omega
                  have e2 : (t : Int).tdiv 7 = (t5 : Int) := by rw [ht5, Int.tdiv_eq_ediv_of_nonneg (by omega)]; norm_cast
                  have e3 : (t : Int) / 7 = (t5 : Int) := by rw [ht5]; norm_cast
                  have wr5 : IntKind.i64.wrap (t5 : Int) = t5 := IntWalk.i64_in _ (by omega)
                  have wrx : IntKind.i64.wrap ((xl : Int) - 1) = (xl : Int) - 1 := IntWalk.i64_in _ (by omega)
                  obtain ⟨j, hj⟩ : ∃ j, min t5 (xl - 1) = j := ⟨_, rfl⟩
                  have hjl : j < xl := by omega
                  have e4 : min (t5 : Int) ((xl : Int) - 1) = (j : Int) := by omega
                  obtain ⟨x, xb, xo, hxv, hx1, hx2, rfl, hxbl, hxc⟩ := HY.out.at_ hjl
                  have dx := (HCH.out.cell (p := ⟨xb, xo + j, none⟩) (by have := HB6.out.size; show xb < _; omega) (by show ¬ xb = _; omega)).trans ((HB6.out.cell (p := ⟨xb, xo + j, none⟩) hxbl).trans hxc)
                  have e9 : (bits BinOp.and IntKind.u16 (x / 2 ^ k) 1 == 0) = q := by
                    rw [HQ.out, HON.out]
                    have hne : Y ≠ [] := by rintro rfl; simp at hxv
                    show _ = if Y = [] then true else onB (Y.getD (min (t / 7) (Y.length - 1)) 0) k
                    rw [if_neg hne, HY.out.1, ← ht5, hj, List.getD_eq_getElem?_getD, hxv]
                    rfl
                  have HE9 := Lib.hid e9
                  have e7 : (j : Int) < xl := by omega
                  have e8 : (0 : Int) ≤ j := by omega
                  clear hj ht5 hxc hxv e9 hx0
                  go_upto_region 18 with fail
                  rw [HE9.out]
                  go_wp2_with fail
                  exact ⟨⟨k + 1, by omega, by go_num, HE.out.1, HE.out.2⟩, by simp [intOf]; omega⟩
              · have hkN1 : ¬ (k : Int) < N := by omega
                obtain ⟨w7, rfl⟩ : ∃ w7, w7 = wr := ⟨_, rfl⟩
                have hkb' : (onL N fun j => decide (j < k) && on t j) = onL N fun j => on t j := onL_congr fun j hj => by
                  have : j < k := by omega
                  simp [this]
                rw [hkb'] at hkb
                have HS7 := Lib.hid (HS6.out.own_ hch HPB.out.1 HPB.out.2)
                have HB7 := Lib.hid (HB6.out.trans (hch.below (B := w.heap.size) (by omega) fun b hb => by have : b = pb := hb; omega))
                have HST := Lib.hid (step18_any (pc := N) (ca := none) (cl := 0) (cc := 0) (Sx := fun _ => False) h4 h16 HFo.out HBT.out (by omega) HS7.out.r HS7.out.s HS7.out.le HS7.out.n (fun i hi => by rw [hkb.cell]; simp only [List.getElem?_toArray]; exact onL_at hi) hkb.lt (fun h => by have := h.2; rw [HPB.out.1] at this; omega) HPB.out.2 (rdCs_nil _ _) (fun b h => h.elim) (by omega) (by omega) (by simp only [maxLen]; omega))
                clear hkb hch hkb' hk HKB HS6 HB6
                go_wp2_with fail
                (with_reducible refine HST.out.mono ?_)
                rintro e w8 hst
                obtain ⟨rfl, tag', nt', P', Q', hs8, hb8⟩ := HS7.out.step hst
                have HS8 := Lib.hid hs8
                have HB8 := Lib.hid (HB7.out.trans (hb8.mono hw3))
                obtain ⟨c, hc⟩ := shows_c (boot := boot) (on := on) (cell := cellsC [] N) HFo.out (cellsC_ok (by simp) N) (fun i => (HBT.out i).1) h4 h16 (t := t) (by omega)
                have HAG := Lib.hid (hs8.agrees c hc)
                clear hst hs8 hb8 hc HST HS7 HB7
                go_wp2_with fail
                (with_reducible refine HAG.out.mono ?_)
                rintro e w9 ⟨rfl, hb9⟩
                have HE := Lib.hid (And.intro (HS8.out.below hb9) (HB8.out.trans (hb9.mono HB8.out.size)))
                clear hb9 HAG
                go_wp2_with fail
                exact ⟨⟨t + 1, tag', nt', P', Q', by omega, by go_num, HE.out.1, HE.out.2⟩, by simp [intOf]; omega⟩
          · have hlt1 : ¬ (t : Int) < 12 * (N : Int) + 20 := by omega
            go_wp2_with fail
            refine (lives_any w5).mono ?_
            rintro e w9 ⟨rfl, hb9⟩
            have HE := Lib.hid (HB5.out.trans (hb9.mono HB5.out.size))
            clear hb9
            go_wp2_with fail
            go_ret
            exact ⟨rfl, HE.out⟩
  · cases bb with
    | true =>
      clear hgo
      go_wp2_with fail
      refine (lives_any w1).mono ?_
      rintro e w3 ⟨rfl, hb3⟩
      have HE := Lib.hid (HB1.out.trans (hb3.mono HB1.out.size))
      clear hb3
      go_wp2_with fail
      go_ret
      exact ⟨rfl, HE.out⟩
    | false =>
      by_cases h40 : bl ≤ 40
      · have h40' : ¬ (40 : Int) < bl := by omega
        have h61 : (60 : Int) < xl := by
          have : ¬ xl ≤ 60 := fun h => hgo ⟨rfl, h40, h⟩
          omega
        clear hgo h40
        go_wp2_with fail
        refine (lives_any w1).mono ?_
        rintro e w3 ⟨rfl, hb3⟩
        have HE := Lib.hid (HB1.out.trans (hb3.mono HB1.out.size))
        clear hb3
        go_wp2_with fail
        go_ret
        exact ⟨rfl, HE.out⟩
      · have h41 : (40 : Int) < bl := by omega
        clear hgo h40
        go_wp2_with fail
        refine (lives_any w1).mono ?_
        rintro e w3 ⟨rfl, hb3⟩
        have HE := Lib.hid (HB1.out.trans (hb3.mono HB1.out.size))
        clear hb3
        go_wp2_with fail
        go_ret
        exact ⟨rfl, HE.out⟩
end Go.Proofs.Ytbdklfcgcmdgaaa
